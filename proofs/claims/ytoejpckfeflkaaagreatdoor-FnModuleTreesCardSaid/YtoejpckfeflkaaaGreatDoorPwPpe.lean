/- The plain mathematics of permutations. -/
import Derived.Test.YtoejpckfeflkaaaGreatDoorPwPsv
import Derived.Test.YtoejpckfeflkaaaGreatDoorPwPld
namespace Go.Pw
open Go
def iota (n : Nat) : List Int := (List.range n).map Int.ofNat
@[simp] theorem iota_len (n : Nat) : (iota n).length = n := by simp [iota]
theorem iota_get {n i : Nat} (h : i < n) : (iota n).getD i 0 = i := by
  simp [iota, List.getD, h]
theorem iota_mem {n : Nat} {x : Int} : x ∈ iota n ↔ 0 ≤ x ∧ x < n := by
  unfold iota
  rw [List.mem_map]
  constructor
  · rintro ⟨i, hi, rfl⟩
    have := List.mem_range.1 hi
    exact ⟨by simp, by simpa using this⟩
  · rintro ⟨h1, h2⟩
    exact ⟨x.toNat, List.mem_range.2 (by omega), by simp; omega⟩
theorem iota_sorted (n : Nat) : (iota n).Pairwise (fun a b => a ≤ b) := by
  unfold iota
  rw [List.pairwise_map]
  exact List.Pairwise.imp (fun h => by simp; omega) List.pairwise_lt_range
theorem iota_nodup (n : Nat) : (iota n).Nodup := by
  unfold iota
  refine List.Pairwise.map _ ?_ (List.nodup_range (n := n))
  intro a b h e
  exact h (Int.ofNat.inj e)
/-- A permutation of the first numbers, of at most seven. -/
def permP (p : List Int) : Prop := (1 ≤ (p.length : Int) ∧ (p.length : Int) ≤ 7) ∧ inL 0 ((p.length : Int) - 1) p ∧ apartL p
instance (p : List Int) : Decidable (permP p) := by unfold permP; infer_instance
theorem apart_of_nodup {l : List Int} (h : l.Nodup) : apartL l := by
  intro i hi j hj e
  have := List.pairwise_iff_getElem.1 h j i (by omega) hi hj
  have hj' : j < l.length := by omega
  simp [List.getD, hi, hj'] at e
  exact this e
theorem count_nodup {l : List Int} (h : l.Nodup) (x : Int) : l.count x = if x ∈ l then 1 else 0 := by
  induction l with
  | nil => simp
  | cons y r ih =>
    obtain ⟨h1, h2⟩ := List.nodup_cons.1 h
    rw [List.count_cons, ih h2]
    by_cases e : y = x
    · subst e; simp [h1]
    · have : ¬ x = y := fun h => e h.symm
      simp [e, this]
theorem perm_of_mem {l m : List Int} (hl : l.Nodup) (hm : m.Nodup) (h : ∀ x, x ∈ l ↔ x ∈ m) : l.Perm m := by
  rw [List.perm_iff_count]
  intro x
  rw [count_nodup hl, count_nodup hm]
  simp [h x]
theorem permP_iota {p : List Int} (h : permP p) : p.Perm (iota p.length) := by
  refine perm_of_mem (nodup_of_apart h.2.2) (iota_nodup _) fun x => ?_
  rw [iota_mem]
  constructor
  · intro hx
    obtain ⟨i, hi, rfl⟩ := mem_getD hx
    have := h.2.1 i hi
    omega
  · rintro ⟨h1, h2⟩
    obtain ⟨v, rfl⟩ := Int.eq_ofNat_of_zero_le h1
    exact order_mem (n := p.length) h.2.1 h.2.2 rfl v (by omega)
/-- The program's way: sorted, it is the row of the first numbers. -/
theorem perm_sorted {p : List Int} (h : 1 ≤ (p.length : Int) ∧ (p.length : Int) ≤ 7) : (∀ i, i < p.length → (sortI p).getD i 0 = i) ↔ permP p := by
  constructor
  · intro h1
    have e : sortI p = iota p.length := by
      apply List.ext_getElem (by rw [sortI_len, iota_len])
      intro i hi hj
      rw [sortI_len] at hi
      have a := h1 i hi
      have b := iota_get hi
      rw [List.getD, List.getElem?_eq_getElem (by rw [sortI_len]; exact hi)] at a
      rw [List.getD, List.getElem?_eq_getElem (by rw [iota_len]; exact hi)] at b
      simp only [Option.getD_some] at a b
      rw [a, b]
    have hp : p.Perm (iota p.length) := (sortI_perm p).symm.trans (e ▸ List.Perm.refl _)
    refine ⟨h, fun i hi => ?_, apart_of_nodup (hp.nodup_iff.2 (iota_nodup _))⟩
    have := iota_mem.1 (hp.mem_iff.1 (getD_mem hi))
    omega
  · intro hp i hi
    rw [perm_sorted_eq (sortI p) (iota p.length) ((sortI_perm p).trans (permP_iota hp)) (sortI_sorted p) (iota_sorted _), iota_get hi]
/-- The reference's way: its set has all. -/
theorem perm_set {p : List Int} (h : 1 ≤ (p.length : Int) ∧ (p.length : Int) ≤ 7) (hs : okS p) : setX p = ishl 1 p.length - 1 ↔ permP p := by
  constructor
  · intro e
    have hb := (setX_lt (n := p.length) (by omega) hs).1 (by
      obtain ⟨S, e1, _, _⟩ := setU_nat p p.length hs.1 hs.2
      have : 0 ≤ setX p := by rw [setX, if_pos hs, e1]; omega
      omega)
    exact ⟨h, hb, hs.2⟩
  · intro hp
    obtain ⟨S, e1, e2, e3⟩ := setU_nat p p.length hs.1 hs.2
    have hlt := (setX_lt (l := p) (n := p.length) (by omega) hs).2 hp.2.1
    rw [setX, if_pos hs, e1] at hlt ⊢
    rw [ishl_one_nat (by omega)] at hlt ⊢
    have hp2 : 0 < 2 ^ p.length := Nat.pow_pos (by omega)
    have : S = 2 ^ p.length - 1 := by
      refine Nat.eq_of_testBit_eq fun x => ?_
      rw [Nat.testBit_two_pow_sub_one]
      by_cases hx : x < p.length
      · rw [decide_eq_true hx, e3 x (by omega)]
        have hm := order_mem (n := p.length) hp.2.1 hp.2.2 rfl x hx
        obtain ⟨i, hi, e⟩ := mem_getD hm
        exact ⟨i, hi, e⟩
      · rw [decide_eq_false hx]
        refine Nat.testBit_lt_two_pow (Nat.lt_of_lt_of_le (by omega : S < 2 ^ p.length) (Nat.pow_le_pow_right (by omega) (by omega)))
    omega
theorem perm_okS {p : List Int} (h : permP p) : okS p := ⟨fun i hi => by have := h.2.1 i hi; have := h.1; omega, h.2.2⟩
end Go.Pw
