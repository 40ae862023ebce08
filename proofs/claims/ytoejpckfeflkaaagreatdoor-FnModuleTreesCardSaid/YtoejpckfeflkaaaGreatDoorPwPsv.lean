/- The plain mathematics of insertion from the right: sorting short lists. -/
import Derived.Test.YtoejpckfeflkaaaGreatDoorPwMod
namespace Go.Pw
open Go
/-- How far to the left an element goes. -/
def posR (lt : Int → Int → Bool) (x : Int) (l : List Int) : Nat → Nat
  | 0 => 0
  | k + 1 => if lt x (l.getD k 0) = true then posR lt x l k else k + 1
def insR (lt : Int → Int → Bool) (x : Int) (l : List Int) : List Int := l.take (posR lt x l l.length) ++ x :: l.drop (posR lt x l l.length)
def sortR (lt : Int → Int → Bool) (l : List Int) : List Int := l.foldl (fun out x => insR lt x out) []
theorem posR_le (lt : Int → Int → Bool) (x : Int) (l : List Int) : ∀ k, posR lt x l k ≤ k
  | 0 => Nat.le_refl _
  | k + 1 => by unfold posR; split; exact Nat.le_succ_of_le (posR_le lt x l k); exact Nat.le_refl _
theorem insR_len (lt : Int → Int → Bool) (x : Int) (l : List Int) : (insR lt x l).length = l.length + 1 := by
  have := posR_le lt x l l.length
  simp [insR]; omega
theorem insR_perm (lt : Int → Int → Bool) (x : Int) (l : List Int) : (insR lt x l).Perm (x :: l) := by
  unfold insR
  refine List.perm_middle.trans ?_
  rw [List.take_append_drop]
theorem sortR_snoc (lt : Int → Int → Bool) (l : List Int) (x : Int) : sortR lt (l ++ [x]) = insR lt x (sortR lt l) := by simp [sortR]
theorem foldl_insR_len (lt : Int → Int → Bool) : ∀ (l out : List Int), (l.foldl (fun out x => insR lt x out) out).length = l.length + out.length
  | [], _ => by simp
  | x :: l, out => by rw [List.foldl_cons, foldl_insR_len lt l, insR_len]; simp; omega
theorem sortR_len (lt : Int → Int → Bool) (l : List Int) : (sortR lt l).length = l.length := by
  unfold sortR; rw [foldl_insR_len]; simp
theorem foldl_insR_perm (lt : Int → Int → Bool) : ∀ (l out : List Int), (l.foldl (fun out x => insR lt x out) out).Perm (l ++ out)
  | [], _ => List.Perm.refl _
  | x :: l, out => by
    rw [List.foldl_cons]
    refine (foldl_insR_perm lt l _).trans ?_
    refine ((insR_perm lt x out).append_left l).trans ?_
    exact List.perm_middle
theorem sortR_perm (lt : Int → Int → Bool) (l : List Int) : (sortR lt l).Perm l := by
  have := foldl_insR_perm lt l []
  simpa [sortR] using this
theorem posR_right (lt : Int → Int → Bool) (x : Int) (l : List Int) : ∀ k j, posR lt x l k ≤ j → j < k → lt x (l.getD j 0) = true
  | 0, _, _, h => absurd h (Nat.not_lt_zero _)
  | k + 1, j, h, hj => by
    unfold posR at h
    split at h
    · rcases Nat.lt_or_eq_of_le (Nat.le_of_lt_succ hj) with h1 | h1
      · exact posR_right lt x l k j h h1
      · subst h1; assumption
    · omega
theorem posR_left (lt : Int → Int → Bool) (x : Int) (l : List Int) : ∀ k, 0 < posR lt x l k → lt x (l.getD (posR lt x l k - 1) 0) = false
  | 0, h => absurd h (Nat.lt_irrefl _)
  | k + 1, h => by
    unfold posR at h ⊢
    split
    · rename_i hc; rw [if_pos hc] at h; exact posR_left lt x l k h
    · simp_all
theorem take_getD (l : List Int) (k j : Nat) (h : j < k) : (l.take k).getD j 0 = l.getD j 0 := by
  simp [List.getD, List.getElem?_take, h]
/-- Sorted: nothing later is less. -/
def SortedR (lt : Int → Int → Bool) (l : List Int) : Prop := l.Pairwise (fun a b => lt b a = false)
theorem insR_sorted {lt : Int → Int → Bool} (ht : ∀ a b c, lt b a = false → lt c b = false → lt c a = false) (ha : ∀ a b, lt a b = true → lt b a = false) (x : Int) (l : List Int) (h : SortedR lt l) : SortedR lt (insR lt x l) := by
  unfold SortedR insR
  have hp := posR_le lt x l l.length
  generalize hk : posR lt x l l.length = k at *
  have h1 : SortedR lt (l.take k) := List.Pairwise.sublist (List.take_sublist _ _) h
  have h2 : SortedR lt (l.drop k) := List.Pairwise.sublist (List.drop_sublist _ _) h
  have h12 : ∀ a ∈ l.take k, ∀ b ∈ l.drop k, lt b a = false := by
    have := (List.pairwise_append.1 (by rw [List.take_append_drop]; exact h : (l.take k ++ l.drop k).Pairwise (fun a b => lt b a = false))).2.2
    exact this
  have hR : ∀ b ∈ l.drop k, lt b x = false := fun b hb => by
    obtain ⟨i, hi, rfl⟩ := List.mem_iff_getElem.1 hb
    have hi' : k + i < l.length := by simp at hi; omega
    refine ha _ _ ?_
    have := posR_right lt x l l.length (k + i) (by omega) hi'
    simpa [List.getD, hi'] using this
  have hL : ∀ a ∈ l.take k, lt x a = false := fun a hm => by
    obtain ⟨i, hi, rfl⟩ := List.mem_iff_getElem.1 hm
    have hi' : i < k := by simp at hi; omega
    have hk0 := posR_left lt x l l.length (by omega)
    rw [hk] at hk0
    have hlen : k - 1 < l.length := by omega
    by_cases he : i = k - 1
    · subst he
      simpa [List.getD, hlen] using hk0
    · have hil : i < l.length := by omega
      have h3 := List.pairwise_iff_getElem.1 h i (k - 1) hil hlen (by omega)
      rw [List.getElem_take]
      refine ht _ _ _ h3 ?_
      simpa [List.getD, hlen] using hk0
  refine List.pairwise_append.2 ⟨h1, List.pairwise_cons.2 ⟨hR, h2⟩, fun a hm b hb => ?_⟩
  rcases List.mem_cons.1 hb with rfl | hb
  · exact hL a hm
  · exact h12 a hm b hb
theorem foldl_insR_sorted {lt : Int → Int → Bool} (ht : ∀ a b c, lt b a = false → lt c b = false → lt c a = false) (ha : ∀ a b, lt a b = true → lt b a = false) : ∀ (l out : List Int), SortedR lt out → SortedR lt (l.foldl (fun out x => insR lt x out) out)
  | [], _, h => h
  | x :: l, out, h => foldl_insR_sorted ht ha l _ (insR_sorted ht ha x out h)
theorem sortR_sorted {lt : Int → Int → Bool} (ht : ∀ a b c, lt b a = false → lt c b = false → lt c a = false) (ha : ∀ a b, lt a b = true → lt b a = false) (l : List Int) : SortedR lt (sortR lt l) :=
  foldl_insR_sorted ht ha l [] List.Pairwise.nil
/-- The sort of numbers. -/
def ltI (a b : Int) : Bool := decide (a < b)
def sortI (l : List Int) : List Int := sortR ltI l
theorem sortI_perm (l : List Int) : (sortI l).Perm l := sortR_perm _ _
theorem sortI_len (l : List Int) : (sortI l).length = l.length := sortR_len _ _
theorem sortI_sorted (l : List Int) : (sortI l).Pairwise (fun a b => a ≤ b) := by
  have := sortR_sorted (lt := ltI) (fun a b c h1 h2 => by simp [ltI] at *; omega) (fun a b h => by simp [ltI] at *; omega) l
  exact List.Pairwise.imp (fun h => by simpa [ltI] using h) this
theorem perm_sorted_eq : ∀ (l m : List Int), l.Perm m → l.Pairwise (fun a b => a ≤ b) → m.Pairwise (fun a b => a ≤ b) → l = m
  | [], m, h, _, _ => (List.Perm.nil_eq h)
  | x :: l, [], h, _, _ => (List.Perm.eq_nil h)
  | x :: l, y :: m, h, h1, h2 => by
    have h1' := List.pairwise_cons.1 h1
    have h2' := List.pairwise_cons.1 h2
    have hx : x ∈ y :: m := h.mem_iff.1 (List.mem_cons_self ..)
    have hy : y ∈ x :: l := h.mem_iff.2 (List.mem_cons_self ..)
    have hxy : x = y := by
      rcases List.mem_cons.1 hx with e | hx
      · exact e
      rcases List.mem_cons.1 hy with e | hy
      · exact e.symm
      have := h1'.1 y hy
      have := h2'.1 x hx
      omega
    subst hxy
    rw [perm_sorted_eq l m (List.Perm.cons_inv h) h1'.2 h2'.2]
/-- One step of the insertion in a list. -/
def insAt (out : List Int) (x : Int) (rest : List Int) (j : Nat) : List Int := out.take j ++ x :: out.drop j ++ rest
theorem insAt_len {out : List Int} {x : Int} {rest : List Int} {j : Nat} (h : j ≤ out.length) : (insAt out x rest j).length = out.length + 1 + rest.length := by
  simp [insAt]; omega
theorem insAt_here {out : List Int} {x : Int} {rest : List Int} {j : Nat} (h : j ≤ out.length) : (insAt out x rest j).getD j 0 = x := by
  unfold insAt
  simp [List.getD, List.getElem?_append, Nat.min_eq_left h]
theorem insAt_left {out : List Int} {x : Int} {rest : List Int} {j k : Nat} (h : j ≤ out.length) (hk : k < j) : (insAt out x rest j).getD k 0 = out.getD k 0 := by
  unfold insAt
  have : k < out.length := by omega
  simp [List.getD, List.getElem?_append, Nat.min_eq_left h, hk, List.getElem?_take, this]
theorem getElem?_insAt {out : List Int} {x : Int} {rest : List Int} {j : Nat} (h : j ≤ out.length) (k : Nat) :
    (insAt out x rest j)[k]? = if k < j then out[k]? else if k = j then some x else if k ≤ out.length then out[k - 1]? else rest[k - (out.length + 1)]? := by
  unfold insAt
  rw [List.append_assoc, List.getElem?_append]
  simp only [List.length_take, Nat.min_eq_left h]
  split
  · rename_i hk; rw [List.getElem?_take, if_pos hk]
  · rename_i hk
    by_cases e : k = j
    · subst e; simp
    · rw [if_neg e]
      obtain ⟨m, rfl⟩ : ∃ m, k = j + 1 + m := ⟨k - (j + 1), by omega⟩
      rw [show j + 1 + m - j = m + 1 by omega, List.cons_append, List.getElem?_cons_succ, List.getElem?_append]
      simp only [List.length_drop]
      by_cases hm : m < out.length - j
      · rw [if_pos hm, if_pos (by omega), List.getElem?_drop]; congr 1; omega
      · rw [if_neg hm, if_neg (by omega)]; congr 1; omega
theorem insAt_swap {out : List Int} {x : Int} {rest : List Int} {j : Nat} (h : j + 1 ≤ out.length) : ((insAt out x rest (j + 1)).set (j + 1) (out.getD j 0)).set j x = insAt out x rest j := by
  apply List.ext_getElem?
  intro k
  rw [List.getElem?_set, List.getElem?_set, getElem?_insAt h, getElem?_insAt (by omega : j ≤ out.length)]
  simp only [List.length_set, insAt_len h]
  by_cases e1 : j = k
  · subst e1
    rw [if_pos rfl, if_pos (by omega), if_neg (Nat.lt_irrefl _), if_pos rfl]
  · rw [if_neg e1]
    by_cases e2 : j + 1 = k
    · subst e2
      rw [if_pos rfl, if_pos (by omega), if_neg (by omega), if_neg (by omega), if_pos (by omega)]
      have : j < out.length := by omega
      simp [List.getD, this]
    · rw [if_neg e2]
      by_cases h1 : k < j
      · rw [if_pos (by omega), if_pos h1]
      · rw [if_neg (show ¬ k < j + 1 by omega), if_neg (show ¬ k = j + 1 by omega), if_neg h1, if_neg (show ¬ k = j by omega)]
theorem insAt_start (out : List Int) (x : Int) (rest : List Int) : insAt out x rest out.length = out ++ x :: rest := by simp [insAt]
theorem insAt_stop {lt : Int → Int → Bool} {out : List Int} {x : Int} (rest : List Int) : insAt out x rest (posR lt x out out.length) = insR lt x out ++ rest := by simp [insAt, insR]
/-- A round's state: the first i sorted. -/
theorem sortR_round {lt : Int → Int → Bool} {l : List Int} {i : Nat} (h : i < l.length) : sortR lt (l.take (i + 1)) = insR lt (l.getD i 0) (sortR lt (l.take i)) := by
  rw [← sortR_snoc]
  congr 1
  rw [List.take_add_one]
  simp [List.getD, h]
theorem sort_one (l : List Int) : sortI (l.take 1) ++ l.drop 1 = l := by
  cases l with
  | nil => rfl
  | cons x r => simp [sortI, sortR, insR, posR]
theorem drop_cons {l : List Int} {i : Nat} (h : i < l.length) : l.drop i = l.getD i 0 :: l.drop (i + 1) := by
  rw [List.drop_eq_getElem_cons h]; simp [List.getD, h]
end Go.Pw
