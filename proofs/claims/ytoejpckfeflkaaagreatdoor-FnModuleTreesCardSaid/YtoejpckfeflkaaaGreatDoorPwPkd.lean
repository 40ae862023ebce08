/- The plain mathematics of complements and kinds. -/
import Derived.Test.YtoejpckfeflkaaaGreatDoorPwPcc
namespace Go.Pw
open Go

/-- A list whose first k members are written anew. -/
def overU (f : Nat → Int) (l : List Int) (k : Nat) : List Int := (List.range k).map f ++ l.drop k
theorem overU_zero (f : Nat → Int) (l : List Int) : overU f l 0 = l := by simp [overU]
theorem overU_length (f : Nat → Int) (l : List Int) (k : Nat) (h : k ≤ l.length) : (overU f l k).length = l.length := by simp [overU]; omega
theorem overU_all (f : Nat → Int) (l : List Int) : overU f l l.length = (List.range l.length).map f := by simp [overU]
theorem overU_set (f : Nat → Int) (l : List Int) (k : Nat) (h : k < l.length) : (overU f l k).set k (f k) = overU f l (k + 1) := by
  have h1 : ((List.range k).map f).length = k := by simp
  unfold overU
  rw [List.range_succ, List.map_append, List.set_append_right _ _ (by rw [h1]; exact Nat.le_refl _), h1, Nat.sub_self, List.append_assoc, List.drop_eq_getElem_cons h]
  rfl
def barF (size : Int) (rows : List Int) (v : Nat) : Int := ishl 1 size - 1 - rows.getD v 0 - ishl 1 v
def barL (size : Int) (rows : List Int) : List Int := if IsG size rows then (List.range rows.length).map (barF size rows) else []
def barZ (size : Int) (rows : List Int) : Int := if IsG size rows then size else 0
theorem barF_nat {size : Int} {rows : List Int} {n v : Nat} (hg : IsG size rows) (hn : size = n) (hv : v < n) :
    barF size rows v = ((2 ^ n - 1 - rowN rows v - 2 ^ v : Nat) : Int) ∧ iandnot (iandnot (ishl 1 size - 1) (rows.getD v 0)) (ishl 1 (v : Int)) = barF size rows v ∧ 2 ^ n - 1 - rowN rows v - 2 ^ v < 2 ^ n ∧
    (∀ i, (2 ^ n - 1 - rowN rows v - 2 ^ v).testBit i = (decide (i < n) && !(rowN rows v).testBit i && !decide (v = i))) ∧ 0 ≤ ishl 1 size - 1 - rows.getD v 0 ∧ 0 ≤ barF size rows v ∧ ishl 1 size ≤ 128 := by
  have hng := ng_of hg hn
  have hn7 := hng.le
  have h7 := pow_le7 hn7
  have hpos : 0 < 2 ^ n := Nat.pow_pos (by omega)
  have hsub1 : SubN (rowN rows v) (2 ^ n - 1) := fun i hi => by rw [Nat.testBit_two_pow_sub_one]; exact decide_eq_true (has_lt (hng.lt v) hi)
  have hb1 := sub_bit (A := 2 ^ n - 1) (by omega) hsub1
  have hsub2 : SubN (2 ^ v) (2 ^ n - 1 - rowN rows v) := fun i hi => by
    rw [Nat.testBit_two_pow] at hi
    have : v = i := by simpa using hi
    subst this
    rw [hb1, Nat.testBit_two_pow_sub_one, hng.irr v hv]
    simp [hv]
  have hb2 := sub_bit (A := 2 ^ n - 1 - rowN rows v) (by omega) hsub2
  have e1 : ishl 1 size - 1 = ((2 ^ n - 1 : Nat) : Int) := by rw [hn, ishl_one_nat (by omega)]; omega
  have e2 := rowN_eq hg v
  have e3 : ishl 1 (v : Int) = ((2 ^ v : Nat) : Int) := ishl_one_nat (by omega)
  have l1 := sub_le hsub1
  have l2 := sub_le hsub2
  have ef : barF size rows v = ((2 ^ n - 1 - rowN rows v - 2 ^ v : Nat) : Int) := by unfold barF; rw [e1, e2, e3]; revert l1 l2; generalize 2 ^ v = p; generalize 2 ^ n = q; intro l1 l2; omega
  have e4 : ishl 1 size = ((2 ^ n : Nat) : Int) := by rw [hn, ishl_one_nat (by omega)]
  refine ⟨ef, ?_, Nat.lt_of_le_of_lt (Nat.sub_le _ _) (by omega), fun i => ?_, by rw [e1, e2]; omega, by rw [ef]; omega, by rw [e4]; omega⟩
  · rw [ef, e1, e2, e3, sub_nat (by omega) hsub1, sub_nat (by omega) hsub2]
  · rw [hb2, hb1, Nat.testBit_two_pow_sub_one, Nat.testBit_two_pow]
theorem barL_get {size : Int} {rows : List Int} (hg : IsG size rows) {v : Nat} (hv : v < rows.length) : (barL size rows).getD v 0 = barF size rows v := by
  unfold barL
  rw [if_pos hg]
  simp [List.getD, hv]
theorem barL_length {size : Int} {rows : List Int} (hg : IsG size rows) : (barL size rows).length = rows.length := by unfold barL; rw [if_pos hg]; simp
/-- The complement is a graph. -/
theorem bar_isG {size : Int} {rows : List Int} (hg : IsG size rows) : IsG size (barL size rows) := by
  obtain ⟨n, hn, hl, hn1, hn7⟩ := isG_size hg
  have hng := ng_of hg hn
  have h7 := pow_le7 hn7
  have hlen := barL_length hg
  have hhas : ∀ v u : Nat, v < n → u < n → hasB ((barL size rows).getD v 0) (u : Int) = (decide (u < n) && !(rowN rows v).testBit u && !decide (v = u)) := fun v u hv hu => by
    obtain ⟨f1, _, f3, f4, _⟩ := barF_nat hg hn hv
    rw [barL_get hg (by omega), f1, hasB_nat (by omega) (by omega), f4]
  refine ⟨hg.1, by rw [hlen]; exact hg.2.1, fun v hv => ?_, fun v hv u hu => ?_⟩
  · rw [hlen, hl] at hv
    obtain ⟨f1, _, f3, _, _, f6, _⟩ := barF_nat hg hn hv
    refine ⟨⟨?_, ?_⟩, ?_⟩
    · rw [barL_get hg (by omega)]; exact f6
    · rw [barL_get hg (by omega), f1, hn, ishl_one_nat (by omega)]; omega
    · rw [hhas v v hv hv]; simp
  · rw [hlen, hl] at hv
    unfold okSym
    rw [hhas v u hv (by omega), hhas u v (by omega) hv, hng.sym v u hv (by omega)]
    have e1 : decide (u < n) = true := decide_eq_true (by omega)
    have e2 : decide (v < n) = true := decide_eq_true hv
    have e3 : decide (v = u) = decide (u = v) := decide_eq_decide.2 eq_comm
    rw [e1, e2, e3]
def kindX (size : Int) (rows : List Int) (s : Int) : Int :=
  if ¬ modP size rows s then -1 else if cntS s = 1 then 0 else if 1 < ((partsL rows size s).length : Int) then 1 else if 1 < ((partsL (barL size rows) size s).length : Int) then 2 else 3
end Go.Pw
