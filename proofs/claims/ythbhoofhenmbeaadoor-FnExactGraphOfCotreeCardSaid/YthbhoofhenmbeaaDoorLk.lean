/- What every law's text of this seat shares. -/
import Derived.Test.YthbhoofhenmbeaaDoorLa
import Derived.Test.YthbhoofhenmbeaaDoorRows
import Derived.Test.YthbhoofhenmbeaaDoorPwLaw
import Derived.ProofKit
namespace Go.Proofs.YthbhoofhenmbeaaDoor
open Go Go.RowKit Go.Pw Go.ChangeShapes Go.WideShapes Go.ChangeAt
theorem szI_ok {n : Nat} {left : Int} (h : (n : Int) ≤ left) : 0 ≤ szI n left := by unfold szI; rw [if_neg (by omega)]; omega
theorem szI_no {n : Nat} {left : Int} (h : ¬ (n : Int) ≤ left) : szI n left < 0 := by unfold szI; rw [if_pos (by omega)]; omega
theorem szI_neg {n : Nat} {left : Int} (h : left - n < 0) : szI n left < 0 := by unfold szI; rw [if_pos h]; omega
theorem szI_val {n : Nat} {left : Int} (h : 0 ≤ left - n) : szI n left = left - n := by unfold szI; rw [if_neg (by omega)]
theorem own : ownKnob Tryd.prog.godebug = none := by kernel_rfl
theorem laidOut : laidOutB Tryd.prog = true := by kernel_rfl
end Go.Proofs.YthbhoofhenmbeaaDoor
