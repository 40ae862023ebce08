/-
  DERIVED. GIVEN WITH THE SEED: THE CARDS: each row of YthbhoofhenmbeaaDoorRows.lean that lists a variable, with what it lists TIED to the program's text (the seventh form; the later family's looks); each row that meets fmt, with fmt's text TOLD by the authors' own Lean function (tested against real Go, not proved from fmt's source: count such statements apart). THE CARD IS WHAT COUNTS. Prove the row's statement (the work); the ties are given (YthbhoofhenmbeaaDoorTie.lean); close each card by the builder's one call (the guide's Derived/Test/ToyasCard.lean, 'card_holds'). Laid BY PROGRAM, IN A SANDBOX (cutbox-door.mjs). By AI agents, Wed Nov 11 2026. No macro, syntax, notation, axiom, sorry.
-/
import Derived.Test.YthbhoofhenmbeaaDoorRows
import GoSem.ClaimSeven
namespace Go.Proofs.YthbhoofhenmbeaaDoor
namespace Rows

/-- THE TIED CARD OF 'laws.FnExactFormatModuleTree'. -/
def fnExactFormatModuleTreeCard : Claim7 := { stood := { row := fnExactFormatModuleTreeRow, standIns := [], harness := (true, "458133ab283c2875ac33dcf8e3a0c2388f741393c4d6fafea26dc712cda19871"), looks := false }, kinds := [], alts := [], laidByText := true, laidKinds := [.data, .data, .data], laidTests := true, laidLooks := .later }
def FnExactFormatModuleTreeCardSaid : Prop := Claim7.holds Tryd.pinned (.plain (OpenSpec.ofChange fnExactFormatModuleTreeSpec)) fnExactFormatModuleTreeCard

/-- THE TIED CARD OF 'laws.FnExactCotreeOf'. -/
def fnExactCotreeOfCard : Claim7 := { stood := { row := fnExactCotreeOfRow, standIns := [], harness := (true, "458133ab283c2875ac33dcf8e3a0c2388f741393c4d6fafea26dc712cda19871"), looks := false }, kinds := [], alts := [], laidByText := true, laidKinds := [.data, .data, .data], laidTests := true, laidLooks := .later }
def FnExactCotreeOfCardSaid : Prop := Claim7.holds Tryd.pinned (.plain (OpenSpec.ofChange fnExactCotreeOfSpec)) fnExactCotreeOfCard

/-- THE TIED CARD OF 'laws.FnExactGraphOfCotree'. -/
def fnExactGraphOfCotreeCard : Claim7 := { stood := { row := fnExactGraphOfCotreeRow, standIns := [], harness := (true, "458133ab283c2875ac33dcf8e3a0c2388f741393c4d6fafea26dc712cda19871"), looks := false }, kinds := [], alts := [], laidByText := true, laidKinds := [.data, .data, .data], laidTests := true, laidLooks := .later }
def FnExactGraphOfCotreeCardSaid : Prop := Claim7.holds Tryd.pinned (.plain (OpenSpec.ofChange fnExactGraphOfCotreeSpec)) fnExactGraphOfCotreeCard

/-- THE SECOND FORM's CARD OF 'laws.FnExactFormatModuleTree'. -/
def fnExactFormatModuleTreeUptoCard : Claim7 := { stood := { row := fnExactFormatModuleTreeUptoRow, standIns := [], harness := (true, "458133ab283c2875ac33dcf8e3a0c2388f741393c4d6fafea26dc712cda19871"), looks := false }, kinds := [], alts := [], laidByText := true, laidKinds := [.data, .data, .data], laidTests := true, laidLooks := .later }
def FnExactFormatModuleTreeUptoCardSaid : Prop := Claim7.holds Tryd.pinned (.plain (OpenSpec.upto fnExactFormatModuleTreeSpec)) fnExactFormatModuleTreeUptoCard

/-- THE SECOND FORM's CARD OF 'laws.FnExactCotreeOf'. -/
def fnExactCotreeOfUptoCard : Claim7 := { stood := { row := fnExactCotreeOfUptoRow, standIns := [], harness := (true, "458133ab283c2875ac33dcf8e3a0c2388f741393c4d6fafea26dc712cda19871"), looks := false }, kinds := [], alts := [], laidByText := true, laidKinds := [.data, .data, .data], laidTests := true, laidLooks := .later }
def FnExactCotreeOfUptoCardSaid : Prop := Claim7.holds Tryd.pinned (.plain (OpenSpec.upto fnExactCotreeOfSpec)) fnExactCotreeOfUptoCard

/-- THE SECOND FORM's CARD OF 'laws.FnExactGraphOfCotree'. -/
def fnExactGraphOfCotreeUptoCard : Claim7 := { stood := { row := fnExactGraphOfCotreeUptoRow, standIns := [], harness := (true, "458133ab283c2875ac33dcf8e3a0c2388f741393c4d6fafea26dc712cda19871"), looks := false }, kinds := [], alts := [], laidByText := true, laidKinds := [.data, .data, .data], laidTests := true, laidLooks := .later }
def FnExactGraphOfCotreeUptoCardSaid : Prop := Claim7.holds Tryd.pinned (.plain (OpenSpec.upto fnExactGraphOfCotreeSpec)) fnExactGraphOfCotreeUptoCard
end Rows
end Go.Proofs.YthbhoofhenmbeaaDoor
