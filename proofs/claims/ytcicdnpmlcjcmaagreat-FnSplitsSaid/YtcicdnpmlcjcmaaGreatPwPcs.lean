/- The plain mathematics of taking members out of a list in place; splits counted. -/
import Derived.Test.YtcicdnpmlcjcmaaGreatPwPlc
import Derived.Test.YtcicdnpmlcjcmaaGreatPwPld
import Derived.Test.YtcicdnpmlcjcmaaGreatPwPtw
namespace Go.Pw
open Go
/-- Where the first taken member stands, all before it stay. -/
theorem idx_keep {p : Int → Bool} {L : List Int} {k : Nat} (h : idxF p L = k) : k < L.length ∧ p (L.getD k 0) = true ∧ (L.take k).filter (fun x => !p x) = L.take k := by
  have hr := idxF_range p L
  have h0 : 0 ≤ idxF p L := by omega
  have hk : k < L.length := by omega
  have h1 := (idxF_find p L).2 h0
  rw [h, Int.toNat_natCast] at h1
  refine ⟨hk, by have := List.find?_some h1; simpa using this, ?_⟩
  rw [List.filter_eq_self]
  intro x hx
  obtain ⟨i, hi, rfl⟩ := (mem_take (by omega)).1 hx
  cases hp : p (L.getD i 0) with
  | false => rfl
  | true =>
    exfalso
    by_cases hall : ∀ j, j < i → p (L.getD j 0) = false
    · have := idxF_some p L i (by omega) hp hall
      omega
    · have : ∃ j, j < i ∧ p (L.getD j 0) = true := by
        apply Classical.byContradiction
        intro hn
        apply hall
        intro j hj
        cases hpj : p (L.getD j 0) with
        | false => rfl
        | true => exact (hn ⟨j, hj, hpj⟩).elim
      clear hall
      have key : ∀ m, m ≤ i → p (L.getD m 0) = true → ∃ j, j ≤ m ∧ p (L.getD j 0) = true ∧ ∀ q, q < j → p (L.getD q 0) = false := by
        intro m
        induction m using Nat.strongRecOn with
        | ind m ih =>
          intro hm hpm
          by_cases hq : ∃ q, q < m ∧ p (L.getD q 0) = true
          · obtain ⟨q, hq1, hq2⟩ := hq
            obtain ⟨j, hj1, hj2, hj3⟩ := ih q hq1 (by omega) hq2
            exact ⟨j, by omega, hj2, hj3⟩
          · refine ⟨m, Nat.le_refl _, hpm, fun q hq1 => ?_⟩
            cases hpq : p (L.getD q 0) with
            | false => rfl
            | true => exact (hq ⟨q, hq1, hpq⟩).elim
      obtain ⟨j, hj1, hj2, hj3⟩ := key i (Nat.le_refl _) hp
      have := idxF_some p L j (by omega) hj2 hj3
      omega
theorem idx_none_keep {p : Int → Bool} {L : List Int} (h : idxF p L < 0) : L.filter (fun x => !p x) = L := by
  have h1 := (idxF_find p L).1 h
  rw [List.filter_eq_self]
  intro x hx
  have := List.find?_eq_none.1 h1 x hx
  simpa using this
/-- A list M that holds the kept members of the first j at its first i places, and the rest of L behind. -/
structure Kept (p : Int → Bool) (L M : List Int) (i j : Nat) : Prop where
  ij : i < j
  jl : j ≤ L.length
  len : M.length = L.length
  left : M.take i = (L.take j).filter (fun x => !p x)
  right : M.drop j = L.drop j
theorem Kept.get {p : Int → Bool} {L M : List Int} {i j : Nat} (h : Kept p L M i j) (hj : j < L.length) : M.getD j 0 = L.getD j 0 := by
  have := congrArg (fun l => l.getD 0 0) h.right
  simpa [List.getD, List.getElem?_drop] using this
theorem Kept.start {p : Int → Bool} {L : List Int} {k : Nat} (h : idxF p L = k) : Kept p L L k (k + 1) := by
  obtain ⟨h1, h2, h3⟩ := idx_keep h
  refine ⟨by omega, by omega, rfl, ?_, rfl⟩
  rw [take_snoc h1, List.filter_append, h3]
  generalize L.getD k 0 = y at h2 ⊢
  simp [h2]
theorem Kept.yes {p : Int → Bool} {L M : List Int} {i j : Nat} (h : Kept p L M i j) (hj : j < L.length) (hp : p (L.getD j 0) = false) : Kept p L (M.set i (L.getD j 0)) (i + 1) (j + 1) := by
  have h1 := h.ij
  have h2 := h.len
  refine ⟨by omega, by omega, by simp [h2], ?_, ?_⟩
  · rw [take_snoc hj, List.filter_append, ← h.left, List.take_add_one, List.getElem?_set_self (by omega), List.take_set_of_le (Nat.le_refl _)]
    generalize L.getD j 0 = y at hp ⊢
    simp [hp]
  · rw [List.drop_set_of_lt (by omega), ← List.drop_drop, h.right, List.drop_drop]
theorem Kept.no {p : Int → Bool} {L M : List Int} {i j : Nat} (h : Kept p L M i j) (hj : j < L.length) (hp : p (L.getD j 0) = true) : Kept p L M i (j + 1) := by
  have h1 := h.ij
  refine ⟨by omega, by omega, h.len, ?_, ?_⟩
  · rw [take_snoc hj, List.filter_append, ← h.left]
    generalize L.getD j 0 = y at hp ⊢
    simp [hp]
  · rw [← List.drop_drop, h.right, List.drop_drop]
theorem Kept.done {p : Int → Bool} {L M : List Int} {i : Nat} (h : Kept p L M i L.length) : M.take i = L.filter (fun x => !p x) ∧ i = (L.filter (fun x => !p x)).length := by
  have h1 := h.left
  rw [List.take_length] at h1
  refine ⟨h1, ?_⟩
  rw [← h1, List.length_take, h.len]
  have := h.ij; omega
def csU (p : Int → Bool) (k : Nat) : Nat := (((List.range k).map Int.ofNat).filter p).length
theorem csU_succ (p : Int → Bool) (k : Nat) : csU p (k + 1) = if p (k : Int) = true then csU p k + 1 else csU p k := by
  unfold csU
  rw [List.range_succ, List.map_append, List.filter_append]
  by_cases h : p (k : Int) = true
  · rw [if_pos h]; simp [h]
  · rw [if_neg h]; simp [h]
theorem csU_le (p : Int → Bool) (k : Nat) : csU p k ≤ k := by
  unfold csU
  refine Nat.le_trans (List.length_filter_le _ _) ?_
  simp
def csX (size : Int) (rows : List Int) : Int := if IsG size rows then (csU (fun s => decide (splitP size rows s)) (ishl 1 size).toNat : Nat) else 0
end Go.Pw
