/- The plain mathematics of matchings. -/
import Derived.Test.YtpmeehkabaobkaaPwPlc
namespace Go.Pw
open Go
/-- An edge that a matching may take. -/
def edgeOk (size : Int) (rows : List Int) (U : Nat) (e : List Int) : Prop := e.length = 2 ∧ edgeP size rows (e.getD 0 0) (e.getD 1 0) ∧ hasB U (e.getD 0 0) = false ∧ hasB U (e.getD 1 0) = false
instance (size : Int) (rows : List Int) (U : Nat) (e : List Int) : Decidable (edgeOk size rows U e) := by unfold edgeOk; infer_instance
def edgeU (U : Nat) (e : List Int) : Nat := U ||| (2 ^ (e.getD 0 0).toNat ||| 2 ^ (e.getD 1 0).toNat)
def mtGo (size : Int) (rows : List Int) : Nat → List (List Int) → Bool
  | _, [] => true
  | U, e :: l => if edgeOk size rows U e then mtGo size rows (edgeU U e) l else false
def mtP (size : Int) (rows : List Int) (L : List (List Int)) : Prop := IsG size rows ∧ mtGo size rows 0 L = true
instance (size : Int) (rows : List Int) (L : List (List Int)) : Decidable (mtP size rows L) := by unfold mtP; infer_instance
theorem edgeOk_num {size : Int} {rows : List Int} {U : Nat} {e : List Int} (h : edgeP size rows (e.getD 0 0) (e.getD 1 0)) (hU : U < 128) :
    ior U (ior (ishl 1 (e.getD 0 0)) (ishl 1 (e.getD 1 0))) = (edgeU U e : Nat) ∧ ior (ior U (ishl 1 (e.getD 0 0))) (ishl 1 (e.getD 1 0)) = (edgeU U e : Nat) ∧ edgeU U e < 128 := by
  obtain ⟨hg, ⟨a0, a1⟩, ⟨b0, b1⟩, _⟩ := h
  obtain ⟨n, hn, _, _, hn7⟩ := isG_size hg
  obtain ⟨a, ha⟩ := Int.eq_ofNat_of_zero_le a0
  obtain ⟨b, hb⟩ := Int.eq_ofNat_of_zero_le b0
  have pa : 2 ^ a < 2 ^ 7 := Nat.pow_lt_pow_right (by omega) (by omega)
  have pb : 2 ^ b < 2 ^ 7 := Nat.pow_lt_pow_right (by omega) (by omega)
  have h1 : 2 ^ a ||| 2 ^ b < 2 ^ 7 := Nat.or_lt_two_pow pa pb
  have h2 : U ||| 2 ^ a < 2 ^ 7 := Nat.or_lt_two_pow hU pa
  unfold edgeU
  rw [ha, hb, Int.toNat_natCast, Int.toNat_natCast, ishl_one_nat (by omega), ishl_one_nat (by omega)]
  refine ⟨?_, ?_, Nat.or_lt_two_pow (n := 7) hU h1⟩
  · rw [ior_nat (by omega) (by omega), ior_nat (by omega) (by omega)]
  · rw [ior_nat (by omega) (by omega), ior_nat (by omega) (by omega), Nat.or_assoc]
end Go.Pw
