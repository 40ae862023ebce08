/-
  No cell of these rows narrows 'for every input' (looked for: loops, veiled, ifaces, maps, wideKeys, modest, calm, conditions, laid).
  DERIVED. THE GIVEN ROWS OF THIS SEAT. 11 by the template 'for every input the law returns true; each argument reads behind the call as it read before'; 0 by the template 'total and deterministic' (their statements: YtpmeehkabaobkaaTotals.lean).
  GIVEN WITH THE SEED: the statements are not yours to turn. If you find one false, say at which input.
  Laid BY PROGRAM, IN A SANDBOX (cutbox-rows.mjs): the forced cells as the released guide's own fill.sh prints them over the translation 2f0ff7fed62358e6… (all of the seat's roots in one cut). By AI agents, Wed Nov 11 2026. No macro, syntax, notation, axiom, sorry.
-/
import Derived.Test.YtpmeehkabaobkaaChecked
import GoSem.Claim
import GoSem.ClaimJoined
import GoSem.ClaimMapViews
import Derived.JoinedTies
import Derived.KernelRfl
namespace Go.Proofs.Ytpmeehkabaobkaa
/- THE CELL 'sum', in the pinned program and in every row, IS THE sha256 OF THE DUMP (.gsa) THAT YtpmeehkabaobkaaProg.lean LOADS. Nothing in Lean hashes anything: it is a label: what it is worth is what the hold of that sum in a sandbox is worth. -/
noncomputable def Try.pinned : Pinned := { name := "ytpmeehkabaobkaa", sum := "2f0ff7fed62358e60b967b7cf7da1b5fc9b8d5ab3f8eafae70d3af2565094172", checked := Try.checked }
namespace Rows
def none {H : Type} : Left H := { results := [], args := [] }

/-- 'laws.FnExactThresholdObstacle': WHATEVER THE INPUT: true; the input reads as it did. -/
def fnExactThresholdObstacleSpec : ChangeSpec := { name := "fnExactThresholdObstacle", fn := fun _ => fun
  | [d] => { results := [.lit (.bool true)], args := [d] }
  | _ => none }
def fnExactThresholdObstacleRow : OpenClaim := { program := "ytpmeehkabaobkaa", sum := "2f0ff7fed62358e60b967b7cf7da1b5fc9b8d5ab3f8eafae70d3af2565094172", func := "loop.example/g02081/laws.FnExactThresholdObstacle", spec := "fnExactThresholdObstacle", unfollowed := true, recurses := true, apart := false }
def FnExactThresholdObstacleSaid : Prop := fnExactThresholdObstacleRow.holds Try.pinned (OpenSpec.ofChange fnExactThresholdObstacleSpec)

/-- ITS FALSE NEIGHBOUR: 'it returns false'. Refute it at one input. -/
def fnExactThresholdObstacleWrong : ChangeSpec := { name := "fnExactThresholdObstacle", fn := fun _ => fun
  | [d] => { results := [.lit (.bool false)], args := [d] }
  | _ => none }
def FnExactThresholdObstacleWrongFalsely : Prop := fnExactThresholdObstacleRow.holds Try.pinned (OpenSpec.ofChange fnExactThresholdObstacleWrong)

/-- 'laws.FnExactFindPathOfFour': WHATEVER THE INPUT: true; the input reads as it did. -/
def fnExactFindPathOfFourSpec : ChangeSpec := { name := "fnExactFindPathOfFour", fn := fun _ => fun
  | [d] => { results := [.lit (.bool true)], args := [d] }
  | _ => none }
def fnExactFindPathOfFourRow : OpenClaim := { program := "ytpmeehkabaobkaa", sum := "2f0ff7fed62358e60b967b7cf7da1b5fc9b8d5ab3f8eafae70d3af2565094172", func := "loop.example/g02081/laws.FnExactFindPathOfFour", spec := "fnExactFindPathOfFour", unfollowed := true, recurses := true, apart := false }
def FnExactFindPathOfFourSaid : Prop := fnExactFindPathOfFourRow.holds Try.pinned (OpenSpec.ofChange fnExactFindPathOfFourSpec)

/-- ITS FALSE NEIGHBOUR: 'it returns false'. Refute it at one input. -/
def fnExactFindPathOfFourWrong : ChangeSpec := { name := "fnExactFindPathOfFour", fn := fun _ => fun
  | [d] => { results := [.lit (.bool false)], args := [d] }
  | _ => none }
def FnExactFindPathOfFourWrongFalsely : Prop := fnExactFindPathOfFourRow.holds Try.pinned (OpenSpec.ofChange fnExactFindPathOfFourWrong)

/-- 'laws.FnExactForcingChain': WHATEVER THE INPUT: true; the input reads as it did. -/
def fnExactForcingChainSpec : ChangeSpec := { name := "fnExactForcingChain", fn := fun _ => fun
  | [d] => { results := [.lit (.bool true)], args := [d] }
  | _ => none }
def fnExactForcingChainRow : OpenClaim := { program := "ytpmeehkabaobkaa", sum := "2f0ff7fed62358e60b967b7cf7da1b5fc9b8d5ab3f8eafae70d3af2565094172", func := "loop.example/g02081/laws.FnExactForcingChain", spec := "fnExactForcingChain", unfollowed := true, recurses := true, apart := false }
def FnExactForcingChainSaid : Prop := fnExactForcingChainRow.holds Try.pinned (OpenSpec.ofChange fnExactForcingChainSpec)

/-- ITS FALSE NEIGHBOUR: 'it returns false'. Refute it at one input. -/
def fnExactForcingChainWrong : ChangeSpec := { name := "fnExactForcingChain", fn := fun _ => fun
  | [d] => { results := [.lit (.bool false)], args := [d] }
  | _ => none }
def FnExactForcingChainWrongFalsely : Prop := fnExactForcingChainRow.holds Try.pinned (OpenSpec.ofChange fnExactForcingChainWrong)

/-- 'laws.FnExactSplitObstacle': WHATEVER THE INPUT: true; the input reads as it did. -/
def fnExactSplitObstacleSpec : ChangeSpec := { name := "fnExactSplitObstacle", fn := fun _ => fun
  | [d] => { results := [.lit (.bool true)], args := [d] }
  | _ => none }
def fnExactSplitObstacleRow : OpenClaim := { program := "ytpmeehkabaobkaa", sum := "2f0ff7fed62358e60b967b7cf7da1b5fc9b8d5ab3f8eafae70d3af2565094172", func := "loop.example/g02081/laws.FnExactSplitObstacle", spec := "fnExactSplitObstacle", unfollowed := true, recurses := true, apart := false }
def FnExactSplitObstacleSaid : Prop := fnExactSplitObstacleRow.holds Try.pinned (OpenSpec.ofChange fnExactSplitObstacleSpec)

/-- ITS FALSE NEIGHBOUR: 'it returns false'. Refute it at one input. -/
def fnExactSplitObstacleWrong : ChangeSpec := { name := "fnExactSplitObstacle", fn := fun _ => fun
  | [d] => { results := [.lit (.bool false)], args := [d] }
  | _ => none }
def FnExactSplitObstacleWrongFalsely : Prop := fnExactSplitObstacleRow.holds Try.pinned (OpenSpec.ofChange fnExactSplitObstacleWrong)

/-- 'laws.FnExactOrientationOf': WHATEVER THE INPUT: true; the input reads as it did. -/
def fnExactOrientationOfSpec : ChangeSpec := { name := "fnExactOrientationOf", fn := fun _ => fun
  | [d] => { results := [.lit (.bool true)], args := [d] }
  | _ => none }
def fnExactOrientationOfRow : OpenClaim := { program := "ytpmeehkabaobkaa", sum := "2f0ff7fed62358e60b967b7cf7da1b5fc9b8d5ab3f8eafae70d3af2565094172", func := "loop.example/g02081/laws.FnExactOrientationOf", spec := "fnExactOrientationOf", unfollowed := true, recurses := true, apart := false }
def FnExactOrientationOfSaid : Prop := fnExactOrientationOfRow.holds Try.pinned (OpenSpec.ofChange fnExactOrientationOfSpec)

/-- ITS FALSE NEIGHBOUR: 'it returns false'. Refute it at one input. -/
def fnExactOrientationOfWrong : ChangeSpec := { name := "fnExactOrientationOf", fn := fun _ => fun
  | [d] => { results := [.lit (.bool false)], args := [d] }
  | _ => none }
def FnExactOrientationOfWrongFalsely : Prop := fnExactOrientationOfRow.holds Try.pinned (OpenSpec.ofChange fnExactOrientationOfWrong)

/-- 'laws.FnExactIsPermutationGraph': WHATEVER THE INPUT: true; the input reads as it did. -/
def fnExactIsPermutationGraphSpec : ChangeSpec := { name := "fnExactIsPermutationGraph", fn := fun _ => fun
  | [d] => { results := [.lit (.bool true)], args := [d] }
  | _ => none }
def fnExactIsPermutationGraphRow : OpenClaim := { program := "ytpmeehkabaobkaa", sum := "2f0ff7fed62358e60b967b7cf7da1b5fc9b8d5ab3f8eafae70d3af2565094172", func := "loop.example/g02081/laws.FnExactIsPermutationGraph", spec := "fnExactIsPermutationGraph", unfollowed := true, recurses := true, apart := false }
def FnExactIsPermutationGraphSaid : Prop := fnExactIsPermutationGraphRow.holds Try.pinned (OpenSpec.ofChange fnExactIsPermutationGraphSpec)

/-- ITS FALSE NEIGHBOUR: 'it returns false'. Refute it at one input. -/
def fnExactIsPermutationGraphWrong : ChangeSpec := { name := "fnExactIsPermutationGraph", fn := fun _ => fun
  | [d] => { results := [.lit (.bool false)], args := [d] }
  | _ => none }
def FnExactIsPermutationGraphWrongFalsely : Prop := fnExactIsPermutationGraphRow.holds Try.pinned (OpenSpec.ofChange fnExactIsPermutationGraphWrong)

/-- 'laws.FnExactPermutationModelOf': WHATEVER THE INPUT: true; the input reads as it did. -/
def fnExactPermutationModelOfSpec : ChangeSpec := { name := "fnExactPermutationModelOf", fn := fun _ => fun
  | [d] => { results := [.lit (.bool true)], args := [d] }
  | _ => none }
def fnExactPermutationModelOfRow : OpenClaim := { program := "ytpmeehkabaobkaa", sum := "2f0ff7fed62358e60b967b7cf7da1b5fc9b8d5ab3f8eafae70d3af2565094172", func := "loop.example/g02081/laws.FnExactPermutationModelOf", spec := "fnExactPermutationModelOf", unfollowed := true, recurses := true, apart := false }
def FnExactPermutationModelOfSaid : Prop := fnExactPermutationModelOfRow.holds Try.pinned (OpenSpec.ofChange fnExactPermutationModelOfSpec)

/-- ITS FALSE NEIGHBOUR: 'it returns false'. Refute it at one input. -/
def fnExactPermutationModelOfWrong : ChangeSpec := { name := "fnExactPermutationModelOf", fn := fun _ => fun
  | [d] => { results := [.lit (.bool false)], args := [d] }
  | _ => none }
def FnExactPermutationModelOfWrongFalsely : Prop := fnExactPermutationModelOfRow.holds Try.pinned (OpenSpec.ofChange fnExactPermutationModelOfWrong)

/-- 'laws.FnExactIsPermutation': WHATEVER THE INPUT: true; the input reads as it did. -/
def fnExactIsPermutationSpec : ChangeSpec := { name := "fnExactIsPermutation", fn := fun _ => fun
  | [d] => { results := [.lit (.bool true)], args := [d] }
  | _ => none }
def fnExactIsPermutationRow : OpenClaim := { program := "ytpmeehkabaobkaa", sum := "2f0ff7fed62358e60b967b7cf7da1b5fc9b8d5ab3f8eafae70d3af2565094172", func := "loop.example/g02081/laws.FnExactIsPermutation", spec := "fnExactIsPermutation", recurses := true, apart := false }
def FnExactIsPermutationSaid : Prop := fnExactIsPermutationRow.holds Try.pinned (OpenSpec.ofChange fnExactIsPermutationSpec)

/-- ITS FALSE NEIGHBOUR: 'it returns false'. Refute it at one input. -/
def fnExactIsPermutationWrong : ChangeSpec := { name := "fnExactIsPermutation", fn := fun _ => fun
  | [d] => { results := [.lit (.bool false)], args := [d] }
  | _ => none }
def FnExactIsPermutationWrongFalsely : Prop := fnExactIsPermutationRow.holds Try.pinned (OpenSpec.ofChange fnExactIsPermutationWrong)

/-- 'laws.FnExactCographAnswers': WHATEVER THE INPUT: true; the input reads as it did. -/
def fnExactCographAnswersSpec : ChangeSpec := { name := "fnExactCographAnswers", fn := fun _ => fun
  | [d] => { results := [.lit (.bool true)], args := [d] }
  | _ => none }
def fnExactCographAnswersRow : OpenClaim := { program := "ytpmeehkabaobkaa", sum := "2f0ff7fed62358e60b967b7cf7da1b5fc9b8d5ab3f8eafae70d3af2565094172", func := "loop.example/g02081/laws.FnExactCographAnswers", spec := "fnExactCographAnswers", unfollowed := true, recurses := true, apart := false }
def FnExactCographAnswersSaid : Prop := fnExactCographAnswersRow.holds Try.pinned (OpenSpec.ofChange fnExactCographAnswersSpec)

/-- ITS FALSE NEIGHBOUR: 'it returns false'. Refute it at one input. -/
def fnExactCographAnswersWrong : ChangeSpec := { name := "fnExactCographAnswers", fn := fun _ => fun
  | [d] => { results := [.lit (.bool false)], args := [d] }
  | _ => none }
def FnExactCographAnswersWrongFalsely : Prop := fnExactCographAnswersRow.holds Try.pinned (OpenSpec.ofChange fnExactCographAnswersWrong)

/-- 'laws.FnExactPermutationOfModel': WHATEVER THE INPUT: true; the input reads as it did. -/
def fnExactPermutationOfModelSpec : ChangeSpec := { name := "fnExactPermutationOfModel", fn := fun _ => fun
  | [d1, d2] => { results := [.lit (.bool true)], args := [d1, d2] }
  | _ => none }
def fnExactPermutationOfModelRow : OpenClaim := { program := "ytpmeehkabaobkaa", sum := "2f0ff7fed62358e60b967b7cf7da1b5fc9b8d5ab3f8eafae70d3af2565094172", func := "loop.example/g02081/laws.FnExactPermutationOfModel", spec := "fnExactPermutationOfModel", recurses := true, apart := false }
def FnExactPermutationOfModelSaid : Prop := fnExactPermutationOfModelRow.holds Try.pinned (OpenSpec.ofChange fnExactPermutationOfModelSpec)

/-- ITS FALSE NEIGHBOUR: 'it returns false'. Refute it at one input. -/
def fnExactPermutationOfModelWrong : ChangeSpec := { name := "fnExactPermutationOfModel", fn := fun _ => fun
  | [d1, d2] => { results := [.lit (.bool false)], args := [d1, d2] }
  | _ => none }
def FnExactPermutationOfModelWrongFalsely : Prop := fnExactPermutationOfModelRow.holds Try.pinned (OpenSpec.ofChange fnExactPermutationOfModelWrong)

/-- 'laws.FnExactLongestDecreasing': WHATEVER THE INPUT: true; the input reads as it did. -/
def fnExactLongestDecreasingSpec : ChangeSpec := { name := "fnExactLongestDecreasing", fn := fun _ => fun
  | [d] => { results := [.lit (.bool true)], args := [d] }
  | _ => none }
def fnExactLongestDecreasingRow : OpenClaim := { program := "ytpmeehkabaobkaa", sum := "2f0ff7fed62358e60b967b7cf7da1b5fc9b8d5ab3f8eafae70d3af2565094172", func := "loop.example/g02081/laws.FnExactLongestDecreasing", spec := "fnExactLongestDecreasing", unfollowed := true, recurses := true, apart := false }
def FnExactLongestDecreasingSaid : Prop := fnExactLongestDecreasingRow.holds Try.pinned (OpenSpec.ofChange fnExactLongestDecreasingSpec)

/-- ITS FALSE NEIGHBOUR: 'it returns false'. Refute it at one input. -/
def fnExactLongestDecreasingWrong : ChangeSpec := { name := "fnExactLongestDecreasing", fn := fun _ => fun
  | [d] => { results := [.lit (.bool false)], args := [d] }
  | _ => none }
def FnExactLongestDecreasingWrongFalsely : Prop := fnExactLongestDecreasingRow.holds Try.pinned (OpenSpec.ofChange fnExactLongestDecreasingWrong)

/- THE SECOND FORM. 'bulk': how many values and letters a reading holds, each counted each time it is reached (what is shared counts as often as it is met; a slice's spare places count too). A statement '..UptoSaid' is the law's where the arguments, and the package variables that the reading takes, are together of bulk at most 1048576: NARROWER than '..Said'. Prove '..Said' where nothing that the law and all that it calls make is longer than what came in: it says more and counts as full. Else prove '..UptoSaid'. A law counts once. -/
mutual
def uptoBulk {H : Type} : DataW H → Nat
  | .lit (.string bytes) => bytes.length + 1
  | .lit _ => 1
  | .nil => 1
  | .ptr d => uptoBulk d + 1
  | .slice elems spare => uptoBulkAll elems + uptoBulkAll spare + 1
  | .agg parts => uptoBulkAll parts + 1
  | .iface _ d => uptoBulk d + 1
  | .map entries => uptoBulkEntries entries + 1
  | .held _ => 1
def uptoBulkAll {H : Type} : List (DataW H) → Nat
  | [] => 0
  | d :: r => uptoBulk d + uptoBulkAll r
def uptoBulkEntries {H : Type} : List (Lit × DataW H) → Nat
  | [] => 0
  | x :: r => uptoBulkEntry x + uptoBulkEntries r
def uptoBulkEntry {H : Type} : Lit × DataW H → Nat
  | (.string bytes, d) => bytes.length + uptoBulk d + 1
  | (_, d) => uptoBulk d + 1
 end
def uptoSmall : (H : Type) → List (DataW H) → Bool := fun _ ds => decide (uptoBulkAll ds ≤ 1048576)
def OpenSpec.upto (s : _root_.Go.ChangeSpec) : _root_.Go.OpenSpec := { _root_.Go.OpenSpec.ofChange s with cond := some uptoSmall }

/-- 'laws.FnExactThresholdObstacle', WHERE WHAT IT READS IS OF BULK AT MOST 1048576: true; the input reads as it did. -/
def fnExactThresholdObstacleUptoRow : OpenClaim := { program := "ytpmeehkabaobkaa", sum := "2f0ff7fed62358e60b967b7cf7da1b5fc9b8d5ab3f8eafae70d3af2565094172", func := "loop.example/g02081/laws.FnExactThresholdObstacle", spec := "fnExactThresholdObstacle", unfollowed := true, recurses := true, apart := false, narrowed := true }
def FnExactThresholdObstacleUptoSaid : Prop := fnExactThresholdObstacleUptoRow.holds Try.pinned (OpenSpec.upto fnExactThresholdObstacleSpec)

/-- 'laws.FnExactFindPathOfFour', WHERE WHAT IT READS IS OF BULK AT MOST 1048576: true; the input reads as it did. -/
def fnExactFindPathOfFourUptoRow : OpenClaim := { program := "ytpmeehkabaobkaa", sum := "2f0ff7fed62358e60b967b7cf7da1b5fc9b8d5ab3f8eafae70d3af2565094172", func := "loop.example/g02081/laws.FnExactFindPathOfFour", spec := "fnExactFindPathOfFour", unfollowed := true, recurses := true, apart := false, narrowed := true }
def FnExactFindPathOfFourUptoSaid : Prop := fnExactFindPathOfFourUptoRow.holds Try.pinned (OpenSpec.upto fnExactFindPathOfFourSpec)

/-- 'laws.FnExactForcingChain', WHERE WHAT IT READS IS OF BULK AT MOST 1048576: true; the input reads as it did. -/
def fnExactForcingChainUptoRow : OpenClaim := { program := "ytpmeehkabaobkaa", sum := "2f0ff7fed62358e60b967b7cf7da1b5fc9b8d5ab3f8eafae70d3af2565094172", func := "loop.example/g02081/laws.FnExactForcingChain", spec := "fnExactForcingChain", unfollowed := true, recurses := true, apart := false, narrowed := true }
def FnExactForcingChainUptoSaid : Prop := fnExactForcingChainUptoRow.holds Try.pinned (OpenSpec.upto fnExactForcingChainSpec)

/-- 'laws.FnExactSplitObstacle', WHERE WHAT IT READS IS OF BULK AT MOST 1048576: true; the input reads as it did. -/
def fnExactSplitObstacleUptoRow : OpenClaim := { program := "ytpmeehkabaobkaa", sum := "2f0ff7fed62358e60b967b7cf7da1b5fc9b8d5ab3f8eafae70d3af2565094172", func := "loop.example/g02081/laws.FnExactSplitObstacle", spec := "fnExactSplitObstacle", unfollowed := true, recurses := true, apart := false, narrowed := true }
def FnExactSplitObstacleUptoSaid : Prop := fnExactSplitObstacleUptoRow.holds Try.pinned (OpenSpec.upto fnExactSplitObstacleSpec)

/-- 'laws.FnExactOrientationOf', WHERE WHAT IT READS IS OF BULK AT MOST 1048576: true; the input reads as it did. -/
def fnExactOrientationOfUptoRow : OpenClaim := { program := "ytpmeehkabaobkaa", sum := "2f0ff7fed62358e60b967b7cf7da1b5fc9b8d5ab3f8eafae70d3af2565094172", func := "loop.example/g02081/laws.FnExactOrientationOf", spec := "fnExactOrientationOf", unfollowed := true, recurses := true, apart := false, narrowed := true }
def FnExactOrientationOfUptoSaid : Prop := fnExactOrientationOfUptoRow.holds Try.pinned (OpenSpec.upto fnExactOrientationOfSpec)

/-- 'laws.FnExactIsPermutationGraph', WHERE WHAT IT READS IS OF BULK AT MOST 1048576: true; the input reads as it did. -/
def fnExactIsPermutationGraphUptoRow : OpenClaim := { program := "ytpmeehkabaobkaa", sum := "2f0ff7fed62358e60b967b7cf7da1b5fc9b8d5ab3f8eafae70d3af2565094172", func := "loop.example/g02081/laws.FnExactIsPermutationGraph", spec := "fnExactIsPermutationGraph", unfollowed := true, recurses := true, apart := false, narrowed := true }
def FnExactIsPermutationGraphUptoSaid : Prop := fnExactIsPermutationGraphUptoRow.holds Try.pinned (OpenSpec.upto fnExactIsPermutationGraphSpec)

/-- 'laws.FnExactPermutationModelOf', WHERE WHAT IT READS IS OF BULK AT MOST 1048576: true; the input reads as it did. -/
def fnExactPermutationModelOfUptoRow : OpenClaim := { program := "ytpmeehkabaobkaa", sum := "2f0ff7fed62358e60b967b7cf7da1b5fc9b8d5ab3f8eafae70d3af2565094172", func := "loop.example/g02081/laws.FnExactPermutationModelOf", spec := "fnExactPermutationModelOf", unfollowed := true, recurses := true, apart := false, narrowed := true }
def FnExactPermutationModelOfUptoSaid : Prop := fnExactPermutationModelOfUptoRow.holds Try.pinned (OpenSpec.upto fnExactPermutationModelOfSpec)

/-- 'laws.FnExactIsPermutation', WHERE WHAT IT READS IS OF BULK AT MOST 1048576: true; the input reads as it did. -/
def fnExactIsPermutationUptoRow : OpenClaim := { program := "ytpmeehkabaobkaa", sum := "2f0ff7fed62358e60b967b7cf7da1b5fc9b8d5ab3f8eafae70d3af2565094172", func := "loop.example/g02081/laws.FnExactIsPermutation", spec := "fnExactIsPermutation", recurses := true, apart := false, narrowed := true }
def FnExactIsPermutationUptoSaid : Prop := fnExactIsPermutationUptoRow.holds Try.pinned (OpenSpec.upto fnExactIsPermutationSpec)

/-- 'laws.FnExactCographAnswers', WHERE WHAT IT READS IS OF BULK AT MOST 1048576: true; the input reads as it did. -/
def fnExactCographAnswersUptoRow : OpenClaim := { program := "ytpmeehkabaobkaa", sum := "2f0ff7fed62358e60b967b7cf7da1b5fc9b8d5ab3f8eafae70d3af2565094172", func := "loop.example/g02081/laws.FnExactCographAnswers", spec := "fnExactCographAnswers", unfollowed := true, recurses := true, apart := false, narrowed := true }
def FnExactCographAnswersUptoSaid : Prop := fnExactCographAnswersUptoRow.holds Try.pinned (OpenSpec.upto fnExactCographAnswersSpec)

/-- 'laws.FnExactPermutationOfModel', WHERE WHAT IT READS IS OF BULK AT MOST 1048576: true; the input reads as it did. -/
def fnExactPermutationOfModelUptoRow : OpenClaim := { program := "ytpmeehkabaobkaa", sum := "2f0ff7fed62358e60b967b7cf7da1b5fc9b8d5ab3f8eafae70d3af2565094172", func := "loop.example/g02081/laws.FnExactPermutationOfModel", spec := "fnExactPermutationOfModel", recurses := true, apart := false, narrowed := true }
def FnExactPermutationOfModelUptoSaid : Prop := fnExactPermutationOfModelUptoRow.holds Try.pinned (OpenSpec.upto fnExactPermutationOfModelSpec)

/-- 'laws.FnExactLongestDecreasing', WHERE WHAT IT READS IS OF BULK AT MOST 1048576: true; the input reads as it did. -/
def fnExactLongestDecreasingUptoRow : OpenClaim := { program := "ytpmeehkabaobkaa", sum := "2f0ff7fed62358e60b967b7cf7da1b5fc9b8d5ab3f8eafae70d3af2565094172", func := "loop.example/g02081/laws.FnExactLongestDecreasing", spec := "fnExactLongestDecreasing", unfollowed := true, recurses := true, apart := false, narrowed := true }
def FnExactLongestDecreasingUptoSaid : Prop := fnExactLongestDecreasingUptoRow.holds Try.pinned (OpenSpec.upto fnExactLongestDecreasingSpec)

end Rows
end Go.Proofs.Ytpmeehkabaobkaa
