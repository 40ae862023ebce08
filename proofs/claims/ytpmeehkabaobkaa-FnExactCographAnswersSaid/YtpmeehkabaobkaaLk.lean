/- What every law's text of this seat shares. -/
import Derived.Test.YtpmeehkabaobkaaLa
import Derived.Test.YtpmeehkabaobkaaRows
import Derived.Test.YtpmeehkabaobkaaPwLaw
import Derived.ProofKit
namespace Go.Proofs.Ytpmeehkabaobkaa
open Go Go.RowKit Go.Pw Go.ChangeShapes Go.WideShapes Go.ChangeAt
theorem szI_ok {n : Nat} {left : Int} (h : (n : Int) ≤ left) : 0 ≤ szI n left := by unfold szI; rw [if_neg (by omega)]; omega
theorem szI_no {n : Nat} {left : Int} (h : ¬ (n : Int) ≤ left) : szI n left < 0 := by unfold szI; rw [if_pos (by omega)]; omega
theorem szI_neg {n : Nat} {left : Int} (h : left - n < 0) : szI n left < 0 := by unfold szI; rw [if_pos h]; omega
theorem szI_val {n : Nat} {left : Int} (h : 0 ≤ left - n) : szI n left = left - n := by unfold szI; rw [if_neg (by omega)]
theorem own : ownKnob Try.prog.godebug = none := by kernel_rfl
theorem laidOut : laidOutB Try.prog = true := by kernel_rfl
end Go.Proofs.Ytpmeehkabaobkaa
