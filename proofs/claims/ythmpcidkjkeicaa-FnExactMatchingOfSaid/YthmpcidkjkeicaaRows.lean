/-
  No cell of these rows narrows 'for every input' (looked for: loops, veiled, ifaces, maps, wideKeys, modest, calm, conditions, laid).
  DERIVED. THE GIVEN ROWS OF THIS SEAT. 12 by the template 'for every input the law returns true; each argument reads behind the call as it read before'; 0 by the template 'total and deterministic' (their statements: YthmpcidkjkeicaaTotals.lean).
  GIVEN WITH THE SEED: the statements are not yours to turn. If you find one false, say at which input.
  Laid BY PROGRAM, IN A SANDBOX (cutbox-rows.mjs): the forced cells as the released guide's own fill.sh prints them over the translation 919e690ec854cc34… (all of the seat's roots in one cut). By AI agents, Wed Nov 11 2026. No macro, syntax, notation, axiom, sorry.
-/
import Derived.Test.YthmpcidkjkeicaaChecked
import GoSem.Claim
import GoSem.ClaimJoined
import GoSem.ClaimMapViews
import Derived.JoinedTies
import Derived.KernelRfl
namespace Go.Proofs.Ythmpcidkjkeicaa
/- THE CELL 'sum', in the pinned program and in every row, IS THE sha256 OF THE DUMP (.gsa) THAT YthmpcidkjkeicaaProg.lean LOADS. Nothing in Lean hashes anything: it is a label: what it is worth is what the hold of that sum in a sandbox is worth. -/
noncomputable def Try.pinned : Pinned := { name := "ythmpcidkjkeicaa", sum := "919e690ec854cc34bb97869e978ac21b2ab6f74b98b843671c724e7a5891f678", checked := Try.checked }
namespace Rows
def none {H : Type} : Left H := { results := [], args := [] }

/-- 'laws.FnExactModulesOf': WHATEVER THE INPUT: true; the input reads as it did. -/
def fnExactModulesOfSpec : ChangeSpec := { name := "fnExactModulesOf", fn := fun _ => fun
  | [d] => { results := [.lit (.bool true)], args := [d] }
  | _ => none }
def fnExactModulesOfRow : OpenClaim := { program := "ythmpcidkjkeicaa", sum := "919e690ec854cc34bb97869e978ac21b2ab6f74b98b843671c724e7a5891f678", func := "loop.example/g02081/laws.FnExactModulesOf", spec := "fnExactModulesOf", apart := false }
def FnExactModulesOfSaid : Prop := fnExactModulesOfRow.holds Try.pinned (OpenSpec.ofChange fnExactModulesOfSpec)

/-- ITS FALSE NEIGHBOUR: 'it returns false'. Refute it at one input. -/
def fnExactModulesOfWrong : ChangeSpec := { name := "fnExactModulesOf", fn := fun _ => fun
  | [d] => { results := [.lit (.bool false)], args := [d] }
  | _ => none }
def FnExactModulesOfWrongFalsely : Prop := fnExactModulesOfRow.holds Try.pinned (OpenSpec.ofChange fnExactModulesOfWrong)

/-- 'laws.FnExactIsThresholdObstacle': WHATEVER THE INPUT: true; the input reads as it did. -/
def fnExactIsThresholdObstacleSpec : ChangeSpec := { name := "fnExactIsThresholdObstacle", fn := fun _ => fun
  | [d1, d2] => { results := [.lit (.bool true)], args := [d1, d2] }
  | _ => none }
def fnExactIsThresholdObstacleRow : OpenClaim := { program := "ythmpcidkjkeicaa", sum := "919e690ec854cc34bb97869e978ac21b2ab6f74b98b843671c724e7a5891f678", func := "loop.example/g02081/laws.FnExactIsThresholdObstacle", spec := "fnExactIsThresholdObstacle", unfollowed := true, recurses := true, apart := false }
def FnExactIsThresholdObstacleSaid : Prop := fnExactIsThresholdObstacleRow.holds Try.pinned (OpenSpec.ofChange fnExactIsThresholdObstacleSpec)

/-- ITS FALSE NEIGHBOUR: 'it returns false'. Refute it at one input. -/
def fnExactIsThresholdObstacleWrong : ChangeSpec := { name := "fnExactIsThresholdObstacle", fn := fun _ => fun
  | [d1, d2] => { results := [.lit (.bool false)], args := [d1, d2] }
  | _ => none }
def FnExactIsThresholdObstacleWrongFalsely : Prop := fnExactIsThresholdObstacleRow.holds Try.pinned (OpenSpec.ofChange fnExactIsThresholdObstacleWrong)

/-- 'laws.FnExactTwinOrder': WHATEVER THE INPUT: true; the input reads as it did. -/
def fnExactTwinOrderSpec : ChangeSpec := { name := "fnExactTwinOrder", fn := fun _ => fun
  | [d] => { results := [.lit (.bool true)], args := [d] }
  | _ => none }
def fnExactTwinOrderRow : OpenClaim := { program := "ythmpcidkjkeicaa", sum := "919e690ec854cc34bb97869e978ac21b2ab6f74b98b843671c724e7a5891f678", func := "loop.example/g02081/laws.FnExactTwinOrder", spec := "fnExactTwinOrder", unfollowed := true, recurses := true, apart := false }
def FnExactTwinOrderSaid : Prop := fnExactTwinOrderRow.holds Try.pinned (OpenSpec.ofChange fnExactTwinOrderSpec)

/-- ITS FALSE NEIGHBOUR: 'it returns false'. Refute it at one input. -/
def fnExactTwinOrderWrong : ChangeSpec := { name := "fnExactTwinOrder", fn := fun _ => fun
  | [d] => { results := [.lit (.bool false)], args := [d] }
  | _ => none }
def FnExactTwinOrderWrongFalsely : Prop := fnExactTwinOrderRow.holds Try.pinned (OpenSpec.ofChange fnExactTwinOrderWrong)

/-- 'laws.FnExactCountSplits': WHATEVER THE INPUT: true; the input reads as it did. -/
def fnExactCountSplitsSpec : ChangeSpec := { name := "fnExactCountSplits", fn := fun _ => fun
  | [d] => { results := [.lit (.bool true)], args := [d] }
  | _ => none }
def fnExactCountSplitsRow : OpenClaim := { program := "ythmpcidkjkeicaa", sum := "919e690ec854cc34bb97869e978ac21b2ab6f74b98b843671c724e7a5891f678", func := "loop.example/g02081/laws.FnExactCountSplits", spec := "fnExactCountSplits", unfollowed := true, recurses := true, apart := false }
def FnExactCountSplitsSaid : Prop := fnExactCountSplitsRow.holds Try.pinned (OpenSpec.ofChange fnExactCountSplitsSpec)

/-- ITS FALSE NEIGHBOUR: 'it returns false'. Refute it at one input. -/
def fnExactCountSplitsWrong : ChangeSpec := { name := "fnExactCountSplits", fn := fun _ => fun
  | [d] => { results := [.lit (.bool false)], args := [d] }
  | _ => none }
def FnExactCountSplitsWrongFalsely : Prop := fnExactCountSplitsRow.holds Try.pinned (OpenSpec.ofChange fnExactCountSplitsWrong)

/-- 'laws.FnExactMatchingOf': WHATEVER THE INPUT: true; the input reads as it did. -/
def fnExactMatchingOfSpec : ChangeSpec := { name := "fnExactMatchingOf", fn := fun _ => fun
  | [d] => { results := [.lit (.bool true)], args := [d] }
  | _ => none }
def fnExactMatchingOfRow : OpenClaim := { program := "ythmpcidkjkeicaa", sum := "919e690ec854cc34bb97869e978ac21b2ab6f74b98b843671c724e7a5891f678", func := "loop.example/g02081/laws.FnExactMatchingOf", spec := "fnExactMatchingOf", recurses := true, apart := false }
def FnExactMatchingOfSaid : Prop := fnExactMatchingOfRow.holds Try.pinned (OpenSpec.ofChange fnExactMatchingOfSpec)

/-- ITS FALSE NEIGHBOUR: 'it returns false'. Refute it at one input. -/
def fnExactMatchingOfWrong : ChangeSpec := { name := "fnExactMatchingOf", fn := fun _ => fun
  | [d] => { results := [.lit (.bool false)], args := [d] }
  | _ => none }
def FnExactMatchingOfWrongFalsely : Prop := fnExactMatchingOfRow.holds Try.pinned (OpenSpec.ofChange fnExactMatchingOfWrong)

/-- 'laws.FnExactStrongModules': WHATEVER THE INPUT: true; the input reads as it did. -/
def fnExactStrongModulesSpec : ChangeSpec := { name := "fnExactStrongModules", fn := fun _ => fun
  | [d] => { results := [.lit (.bool true)], args := [d] }
  | _ => none }
def fnExactStrongModulesRow : OpenClaim := { program := "ythmpcidkjkeicaa", sum := "919e690ec854cc34bb97869e978ac21b2ab6f74b98b843671c724e7a5891f678", func := "loop.example/g02081/laws.FnExactStrongModules", spec := "fnExactStrongModules", unfollowed := true, recurses := true, apart := false }
def FnExactStrongModulesSaid : Prop := fnExactStrongModulesRow.holds Try.pinned (OpenSpec.ofChange fnExactStrongModulesSpec)

/-- ITS FALSE NEIGHBOUR: 'it returns false'. Refute it at one input. -/
def fnExactStrongModulesWrong : ChangeSpec := { name := "fnExactStrongModules", fn := fun _ => fun
  | [d] => { results := [.lit (.bool false)], args := [d] }
  | _ => none }
def FnExactStrongModulesWrongFalsely : Prop := fnExactStrongModulesRow.holds Try.pinned (OpenSpec.ofChange fnExactStrongModulesWrong)

/-- 'laws.FnExactThresholdOrder': WHATEVER THE INPUT: true; the input reads as it did. -/
def fnExactThresholdOrderSpec : ChangeSpec := { name := "fnExactThresholdOrder", fn := fun _ => fun
  | [d] => { results := [.lit (.bool true)], args := [d] }
  | _ => none }
def fnExactThresholdOrderRow : OpenClaim := { program := "ythmpcidkjkeicaa", sum := "919e690ec854cc34bb97869e978ac21b2ab6f74b98b843671c724e7a5891f678", func := "loop.example/g02081/laws.FnExactThresholdOrder", spec := "fnExactThresholdOrder", apart := false }
def FnExactThresholdOrderSaid : Prop := fnExactThresholdOrderRow.holds Try.pinned (OpenSpec.ofChange fnExactThresholdOrderSpec)

/-- ITS FALSE NEIGHBOUR: 'it returns false'. Refute it at one input. -/
def fnExactThresholdOrderWrong : ChangeSpec := { name := "fnExactThresholdOrder", fn := fun _ => fun
  | [d] => { results := [.lit (.bool false)], args := [d] }
  | _ => none }
def FnExactThresholdOrderWrongFalsely : Prop := fnExactThresholdOrderRow.holds Try.pinned (OpenSpec.ofChange fnExactThresholdOrderWrong)

/-- 'laws.FnExactWeightsOf': WHATEVER THE INPUT: true; the input reads as it did. -/
def fnExactWeightsOfSpec : ChangeSpec := { name := "fnExactWeightsOf", fn := fun _ => fun
  | [d] => { results := [.lit (.bool true)], args := [d] }
  | _ => none }
def fnExactWeightsOfRow : OpenClaim := { program := "ythmpcidkjkeicaa", sum := "919e690ec854cc34bb97869e978ac21b2ab6f74b98b843671c724e7a5891f678", func := "loop.example/g02081/laws.FnExactWeightsOf", spec := "fnExactWeightsOf", apart := false }
def FnExactWeightsOfSaid : Prop := fnExactWeightsOfRow.holds Try.pinned (OpenSpec.ofChange fnExactWeightsOfSpec)

/-- ITS FALSE NEIGHBOUR: 'it returns false'. Refute it at one input. -/
def fnExactWeightsOfWrong : ChangeSpec := { name := "fnExactWeightsOf", fn := fun _ => fun
  | [d] => { results := [.lit (.bool false)], args := [d] }
  | _ => none }
def FnExactWeightsOfWrongFalsely : Prop := fnExactWeightsOfRow.holds Try.pinned (OpenSpec.ofChange fnExactWeightsOfWrong)

/-- 'laws.FnExactSidesOf': WHATEVER THE INPUT: true; the input reads as it did. -/
def fnExactSidesOfSpec : ChangeSpec := { name := "fnExactSidesOf", fn := fun _ => fun
  | [d] => { results := [.lit (.bool true)], args := [d] }
  | _ => none }
def fnExactSidesOfRow : OpenClaim := { program := "ythmpcidkjkeicaa", sum := "919e690ec854cc34bb97869e978ac21b2ab6f74b98b843671c724e7a5891f678", func := "loop.example/g02081/laws.FnExactSidesOf", spec := "fnExactSidesOf", apart := false }
def FnExactSidesOfSaid : Prop := fnExactSidesOfRow.holds Try.pinned (OpenSpec.ofChange fnExactSidesOfSpec)

/-- ITS FALSE NEIGHBOUR: 'it returns false'. Refute it at one input. -/
def fnExactSidesOfWrong : ChangeSpec := { name := "fnExactSidesOf", fn := fun _ => fun
  | [d] => { results := [.lit (.bool false)], args := [d] }
  | _ => none }
def FnExactSidesOfWrongFalsely : Prop := fnExactSidesOfRow.holds Try.pinned (OpenSpec.ofChange fnExactSidesOfWrong)

/-- 'laws.FnExactQuotientOf': WHATEVER THE INPUT: true; the input reads as it did. -/
def fnExactQuotientOfSpec : ChangeSpec := { name := "fnExactQuotientOf", fn := fun _ => fun
  | [d1, d2] => { results := [.lit (.bool true)], args := [d1, d2] }
  | _ => none }
def fnExactQuotientOfRow : OpenClaim := { program := "ythmpcidkjkeicaa", sum := "919e690ec854cc34bb97869e978ac21b2ab6f74b98b843671c724e7a5891f678", func := "loop.example/g02081/laws.FnExactQuotientOf", spec := "fnExactQuotientOf", unfollowed := true, recurses := true, apart := false }
def FnExactQuotientOfSaid : Prop := fnExactQuotientOfRow.holds Try.pinned (OpenSpec.ofChange fnExactQuotientOfSpec)

/-- ITS FALSE NEIGHBOUR: 'it returns false'. Refute it at one input. -/
def fnExactQuotientOfWrong : ChangeSpec := { name := "fnExactQuotientOf", fn := fun _ => fun
  | [d1, d2] => { results := [.lit (.bool false)], args := [d1, d2] }
  | _ => none }
def FnExactQuotientOfWrongFalsely : Prop := fnExactQuotientOfRow.holds Try.pinned (OpenSpec.ofChange fnExactQuotientOfWrong)

/-- 'laws.FnExactIsCograph': WHATEVER THE INPUT: true; the input reads as it did. -/
def fnExactIsCographSpec : ChangeSpec := { name := "fnExactIsCograph", fn := fun _ => fun
  | [d] => { results := [.lit (.bool true)], args := [d] }
  | _ => none }
def fnExactIsCographRow : OpenClaim := { program := "ythmpcidkjkeicaa", sum := "919e690ec854cc34bb97869e978ac21b2ab6f74b98b843671c724e7a5891f678", func := "loop.example/g02081/laws.FnExactIsCograph", spec := "fnExactIsCograph", unfollowed := true, recurses := true, apart := false }
def FnExactIsCographSaid : Prop := fnExactIsCographRow.holds Try.pinned (OpenSpec.ofChange fnExactIsCographSpec)

/-- ITS FALSE NEIGHBOUR: 'it returns false'. Refute it at one input. -/
def fnExactIsCographWrong : ChangeSpec := { name := "fnExactIsCograph", fn := fun _ => fun
  | [d] => { results := [.lit (.bool false)], args := [d] }
  | _ => none }
def FnExactIsCographWrongFalsely : Prop := fnExactIsCographRow.holds Try.pinned (OpenSpec.ofChange fnExactIsCographWrong)

/-- 'laws.FnExactKindOf': WHATEVER THE INPUT: true; the input reads as it did. -/
def fnExactKindOfSpec : ChangeSpec := { name := "fnExactKindOf", fn := fun _ => fun
  | [d1, d2] => { results := [.lit (.bool true)], args := [d1, d2] }
  | _ => none }
def fnExactKindOfRow : OpenClaim := { program := "ythmpcidkjkeicaa", sum := "919e690ec854cc34bb97869e978ac21b2ab6f74b98b843671c724e7a5891f678", func := "loop.example/g02081/laws.FnExactKindOf", spec := "fnExactKindOf", apart := false }
def FnExactKindOfSaid : Prop := fnExactKindOfRow.holds Try.pinned (OpenSpec.ofChange fnExactKindOfSpec)

/-- ITS FALSE NEIGHBOUR: 'it returns false'. Refute it at one input. -/
def fnExactKindOfWrong : ChangeSpec := { name := "fnExactKindOf", fn := fun _ => fun
  | [d1, d2] => { results := [.lit (.bool false)], args := [d1, d2] }
  | _ => none }
def FnExactKindOfWrongFalsely : Prop := fnExactKindOfRow.holds Try.pinned (OpenSpec.ofChange fnExactKindOfWrong)

/- THE SECOND FORM. 'bulk': how many values and letters a reading holds, each counted each time it is reached (what is shared counts as often as it is met; a slice's spare places count too). A statement '..UptoSaid' is the law's where the arguments, and the package variables that the reading takes, are together of bulk at most 1048576: NARROWER than '..Said'. Prove '..Said' where nothing that the law and all that it calls make is longer than what came in: it says more and counts as full. Else prove '..UptoSaid'. A law counts once. -/
mutual
def uptoBulk {H : Type} : DataW H → Nat
  | .lit (.string bytes) => bytes.length + 1
  | .lit _ => 1
  | .nil => 1
  | .ptr d => uptoBulk d + 1
  | .slice elems spare => uptoBulkAll elems + uptoBulkAll spare + 1
  | .agg parts => uptoBulkAll parts + 1
  | .iface _ d => uptoBulk d + 1
  | .map entries => uptoBulkEntries entries + 1
  | .held _ => 1
def uptoBulkAll {H : Type} : List (DataW H) → Nat
  | [] => 0
  | d :: r => uptoBulk d + uptoBulkAll r
def uptoBulkEntries {H : Type} : List (Lit × DataW H) → Nat
  | [] => 0
  | x :: r => uptoBulkEntry x + uptoBulkEntries r
def uptoBulkEntry {H : Type} : Lit × DataW H → Nat
  | (.string bytes, d) => bytes.length + uptoBulk d + 1
  | (_, d) => uptoBulk d + 1
 end
def uptoSmall : (H : Type) → List (DataW H) → Bool := fun _ ds => decide (uptoBulkAll ds ≤ 1048576)
def OpenSpec.upto (s : _root_.Go.ChangeSpec) : _root_.Go.OpenSpec := { _root_.Go.OpenSpec.ofChange s with cond := some uptoSmall }

/-- 'laws.FnExactModulesOf', WHERE WHAT IT READS IS OF BULK AT MOST 1048576: true; the input reads as it did. -/
def fnExactModulesOfUptoRow : OpenClaim := { program := "ythmpcidkjkeicaa", sum := "919e690ec854cc34bb97869e978ac21b2ab6f74b98b843671c724e7a5891f678", func := "loop.example/g02081/laws.FnExactModulesOf", spec := "fnExactModulesOf", apart := false, narrowed := true }
def FnExactModulesOfUptoSaid : Prop := fnExactModulesOfUptoRow.holds Try.pinned (OpenSpec.upto fnExactModulesOfSpec)

/-- 'laws.FnExactIsThresholdObstacle', WHERE WHAT IT READS IS OF BULK AT MOST 1048576: true; the input reads as it did. -/
def fnExactIsThresholdObstacleUptoRow : OpenClaim := { program := "ythmpcidkjkeicaa", sum := "919e690ec854cc34bb97869e978ac21b2ab6f74b98b843671c724e7a5891f678", func := "loop.example/g02081/laws.FnExactIsThresholdObstacle", spec := "fnExactIsThresholdObstacle", unfollowed := true, recurses := true, apart := false, narrowed := true }
def FnExactIsThresholdObstacleUptoSaid : Prop := fnExactIsThresholdObstacleUptoRow.holds Try.pinned (OpenSpec.upto fnExactIsThresholdObstacleSpec)

/-- 'laws.FnExactTwinOrder', WHERE WHAT IT READS IS OF BULK AT MOST 1048576: true; the input reads as it did. -/
def fnExactTwinOrderUptoRow : OpenClaim := { program := "ythmpcidkjkeicaa", sum := "919e690ec854cc34bb97869e978ac21b2ab6f74b98b843671c724e7a5891f678", func := "loop.example/g02081/laws.FnExactTwinOrder", spec := "fnExactTwinOrder", unfollowed := true, recurses := true, apart := false, narrowed := true }
def FnExactTwinOrderUptoSaid : Prop := fnExactTwinOrderUptoRow.holds Try.pinned (OpenSpec.upto fnExactTwinOrderSpec)

/-- 'laws.FnExactCountSplits', WHERE WHAT IT READS IS OF BULK AT MOST 1048576: true; the input reads as it did. -/
def fnExactCountSplitsUptoRow : OpenClaim := { program := "ythmpcidkjkeicaa", sum := "919e690ec854cc34bb97869e978ac21b2ab6f74b98b843671c724e7a5891f678", func := "loop.example/g02081/laws.FnExactCountSplits", spec := "fnExactCountSplits", unfollowed := true, recurses := true, apart := false, narrowed := true }
def FnExactCountSplitsUptoSaid : Prop := fnExactCountSplitsUptoRow.holds Try.pinned (OpenSpec.upto fnExactCountSplitsSpec)

/-- 'laws.FnExactMatchingOf', WHERE WHAT IT READS IS OF BULK AT MOST 1048576: true; the input reads as it did. -/
def fnExactMatchingOfUptoRow : OpenClaim := { program := "ythmpcidkjkeicaa", sum := "919e690ec854cc34bb97869e978ac21b2ab6f74b98b843671c724e7a5891f678", func := "loop.example/g02081/laws.FnExactMatchingOf", spec := "fnExactMatchingOf", recurses := true, apart := false, narrowed := true }
def FnExactMatchingOfUptoSaid : Prop := fnExactMatchingOfUptoRow.holds Try.pinned (OpenSpec.upto fnExactMatchingOfSpec)

/-- 'laws.FnExactStrongModules', WHERE WHAT IT READS IS OF BULK AT MOST 1048576: true; the input reads as it did. -/
def fnExactStrongModulesUptoRow : OpenClaim := { program := "ythmpcidkjkeicaa", sum := "919e690ec854cc34bb97869e978ac21b2ab6f74b98b843671c724e7a5891f678", func := "loop.example/g02081/laws.FnExactStrongModules", spec := "fnExactStrongModules", unfollowed := true, recurses := true, apart := false, narrowed := true }
def FnExactStrongModulesUptoSaid : Prop := fnExactStrongModulesUptoRow.holds Try.pinned (OpenSpec.upto fnExactStrongModulesSpec)

/-- 'laws.FnExactThresholdOrder', WHERE WHAT IT READS IS OF BULK AT MOST 1048576: true; the input reads as it did. -/
def fnExactThresholdOrderUptoRow : OpenClaim := { program := "ythmpcidkjkeicaa", sum := "919e690ec854cc34bb97869e978ac21b2ab6f74b98b843671c724e7a5891f678", func := "loop.example/g02081/laws.FnExactThresholdOrder", spec := "fnExactThresholdOrder", apart := false, narrowed := true }
def FnExactThresholdOrderUptoSaid : Prop := fnExactThresholdOrderUptoRow.holds Try.pinned (OpenSpec.upto fnExactThresholdOrderSpec)

/-- 'laws.FnExactWeightsOf', WHERE WHAT IT READS IS OF BULK AT MOST 1048576: true; the input reads as it did. -/
def fnExactWeightsOfUptoRow : OpenClaim := { program := "ythmpcidkjkeicaa", sum := "919e690ec854cc34bb97869e978ac21b2ab6f74b98b843671c724e7a5891f678", func := "loop.example/g02081/laws.FnExactWeightsOf", spec := "fnExactWeightsOf", apart := false, narrowed := true }
def FnExactWeightsOfUptoSaid : Prop := fnExactWeightsOfUptoRow.holds Try.pinned (OpenSpec.upto fnExactWeightsOfSpec)

/-- 'laws.FnExactSidesOf', WHERE WHAT IT READS IS OF BULK AT MOST 1048576: true; the input reads as it did. -/
def fnExactSidesOfUptoRow : OpenClaim := { program := "ythmpcidkjkeicaa", sum := "919e690ec854cc34bb97869e978ac21b2ab6f74b98b843671c724e7a5891f678", func := "loop.example/g02081/laws.FnExactSidesOf", spec := "fnExactSidesOf", apart := false, narrowed := true }
def FnExactSidesOfUptoSaid : Prop := fnExactSidesOfUptoRow.holds Try.pinned (OpenSpec.upto fnExactSidesOfSpec)

/-- 'laws.FnExactQuotientOf', WHERE WHAT IT READS IS OF BULK AT MOST 1048576: true; the input reads as it did. -/
def fnExactQuotientOfUptoRow : OpenClaim := { program := "ythmpcidkjkeicaa", sum := "919e690ec854cc34bb97869e978ac21b2ab6f74b98b843671c724e7a5891f678", func := "loop.example/g02081/laws.FnExactQuotientOf", spec := "fnExactQuotientOf", unfollowed := true, recurses := true, apart := false, narrowed := true }
def FnExactQuotientOfUptoSaid : Prop := fnExactQuotientOfUptoRow.holds Try.pinned (OpenSpec.upto fnExactQuotientOfSpec)

/-- 'laws.FnExactIsCograph', WHERE WHAT IT READS IS OF BULK AT MOST 1048576: true; the input reads as it did. -/
def fnExactIsCographUptoRow : OpenClaim := { program := "ythmpcidkjkeicaa", sum := "919e690ec854cc34bb97869e978ac21b2ab6f74b98b843671c724e7a5891f678", func := "loop.example/g02081/laws.FnExactIsCograph", spec := "fnExactIsCograph", unfollowed := true, recurses := true, apart := false, narrowed := true }
def FnExactIsCographUptoSaid : Prop := fnExactIsCographUptoRow.holds Try.pinned (OpenSpec.upto fnExactIsCographSpec)

/-- 'laws.FnExactKindOf', WHERE WHAT IT READS IS OF BULK AT MOST 1048576: true; the input reads as it did. -/
def fnExactKindOfUptoRow : OpenClaim := { program := "ythmpcidkjkeicaa", sum := "919e690ec854cc34bb97869e978ac21b2ab6f74b98b843671c724e7a5891f678", func := "loop.example/g02081/laws.FnExactKindOf", spec := "fnExactKindOf", apart := false, narrowed := true }
def FnExactKindOfUptoSaid : Prop := fnExactKindOfUptoRow.holds Try.pinned (OpenSpec.upto fnExactKindOfSpec)

end Rows
end Go.Proofs.Ythmpcidkjkeicaa
