/-
  DERIVED. GIVEN WITH THE SEED: THE CARDS: each row of YtoejpckfeflkaaaGreatDoorRows.lean that lists a variable, with what it lists TIED to the program's text (the seventh form; the later family's looks); each row that meets fmt, with fmt's text TOLD by the authors' own Lean function (tested against real Go, not proved from fmt's source: count such statements apart). THE CARD IS WHAT COUNTS. Prove the row's statement (the work); the ties are given (YtoejpckfeflkaaaGreatDoorTie.lean); close each card by the builder's one call (the guide's Derived/Test/ToyasCard.lean, 'card_holds'). Laid BY PROGRAM, IN A SANDBOX (cutbox-door.mjs). By AI agents, Wed Nov 11 2026. No macro, syntax, notation, axiom, sorry.
-/
import Derived.Test.YtoejpckfeflkaaaGreatDoorRows
import GoSem.ClaimSeven
namespace Go.Proofs.YtoejpckfeflkaaaGreatDoor
namespace Rows

/-- THE TIED CARD OF 'laws.FnModuleTrees'. -/
def fnModuleTreesCard : Claim7 := { stood := { row := fnModuleTreesRow, standIns := [], harness := (true, "4b6fd73ea1b15fff630bc694f38639a75bb6c14c3115e181cb9db603afe17b31"), looks := false }, kinds := [], alts := [], laidByText := true, laidKinds := [.data, .data, .data], laidTests := true, laidLooks := .later }
def FnModuleTreesCardSaid : Prop := Claim7.holds Tryz.pinned (.plain (OpenSpec.ofChange fnModuleTreesSpec)) fnModuleTreesCard

/-- THE SECOND FORM's CARD OF 'laws.FnModuleTrees'. -/
def fnModuleTreesUptoCard : Claim7 := { stood := { row := fnModuleTreesUptoRow, standIns := [], harness := (true, "4b6fd73ea1b15fff630bc694f38639a75bb6c14c3115e181cb9db603afe17b31"), looks := false }, kinds := [], alts := [], laidByText := true, laidKinds := [.data, .data, .data], laidTests := true, laidLooks := .later }
def FnModuleTreesUptoCardSaid : Prop := Claim7.holds Tryz.pinned (.plain (OpenSpec.upto fnModuleTreesSpec)) fnModuleTreesUptoCard
end Rows
end Go.Proofs.YtoejpckfeflkaaaGreatDoor
