/- The plain mathematics of module trees. -/
import Derived.Test.YtoejpckfeflkaaaGreatDoorPwPlain
namespace Go.Pw
open Go

/-- A node's children. -/
def childU (c : List Int) (i : Int) (k : Nat) : List Int := ((List.range k).filter fun v => c.getD v 0 = i).map Int.ofNat
def childL (c : List Int) (i : Int) : List Int := childU c i c.length
theorem childU_succ (c : List Int) (i : Int) (k : Nat) : childU c i (k + 1) = if c.getD k 0 = i then childU c i k ++ [(k : Int)] else childU c i k := by
  unfold childU
  rw [List.range_succ, List.filter_append, List.map_append, List.filter_cons, List.filter_nil]
  by_cases h : c.getD k 0 = i
  · rw [if_pos (decide_eq_true h), if_pos h]; rfl
  · rw [if_neg (by rw [decide_eq_false h]; exact Bool.false_ne_true), if_neg h, List.map_nil, List.append_nil]
theorem childU_length (c : List Int) (i : Int) (k : Nat) : (childU c i k).length ≤ k := by
  unfold childU
  rw [List.length_map]
  exact Nat.le_trans (List.length_filter_le _ _) (by simp)

/-- A tree that can be walked. -/
def fineAt (a b c : List Int) (i : Nat) : Prop := (0 ≤ a.getD i 0 ∧ a.getD i 0 ≤ 127) ∧ (0 ≤ b.getD i 0 ∧ b.getD i 0 ≤ 3) ∧ (0 < i → 0 ≤ c.getD i 0 ∧ c.getD i 0 ≤ (i : Int) - 1)
instance (a b c : List Int) (i : Nat) : Decidable (fineAt a b c i) := by unfold fineAt; infer_instance
def fineT (a b c : List Int) : Prop := (1 ≤ (a.length : Int) ∧ (a.length : Int) ≤ 20) ∧ (b.length : Int) = a.length ∧ (c.length : Int) = a.length ∧ c.getD 0 0 = -1 ∧ ∀ i, i < a.length → fineAt a b c i
instance (a b c : List Int) : Decidable (fineT a b c) := by unfold fineT; infer_instance

/-- How deep a node lies. -/
def depF (c : List Int) : Nat → Nat → Int
  | 0, _ => 0
  | f + 1, i => if 0 < i then depF c f (c.getD i 0).toNat + 1 else 0
def dep (c : List Int) (i : Nat) : Int := depF c i i
/-- Each node but the first lies under an earlier one. -/
def down (c : List Int) (n : Nat) : Prop := ∀ i, i < n → 0 < i → 0 ≤ c.getD i 0 ∧ c.getD i 0 ≤ (i : Int) - 1
theorem depF_fuel {c : List Int} {n : Nat} (hd : down c n) : ∀ (f : Nat) (g : Nat) (i : Nat), i < n → i ≤ f → i ≤ g → depF c f i = depF c g i
  | 0, 0, _, _, _, _ => rfl
  | 0, g + 1, i, _, h1, _ => by obtain rfl : i = 0 := by omega
                                rfl
  | f + 1, 0, i, _, _, h2 => by obtain rfl : i = 0 := by omega
                                rfl
  | f + 1, g + 1, i, hn, h1, h2 => by
    unfold depF
    by_cases h : 0 < i
    · have := hd i hn h
      rw [if_pos h, if_pos h, depF_fuel hd f g _ (by omega) (by omega) (by omega)]
    · rw [if_neg h, if_neg h]
theorem dep_zero (c : List Int) : dep c 0 = 0 := rfl
theorem dep_pos {c : List Int} {n : Nat} (hd : down c n) (i : Nat) (hn : i < n) (h : 0 < i) : dep c i = dep c (c.getD i 0).toNat + 1 := by
  have h0 := hd i hn h
  unfold dep
  obtain ⟨j, rfl⟩ : ∃ j, i = j + 1 := ⟨i - 1, by omega⟩
  rw [depF, if_pos h, depF_fuel hd j (c.getD (j + 1) 0).toNat _ (by omega) (by omega) (by omega)]
theorem dep_bound {c : List Int} {n : Nat} (hd : down c n) (i : Nat) (hn : i < n) : 0 ≤ dep c i ∧ dep c i ≤ i := by
  induction i using Nat.strongRecOn with
  | _ i ih =>
    by_cases h : 0 < i
    · have h0 := hd i hn h
      have := ih (c.getD i 0).toNat (by omega) (by omega)
      rw [dep_pos hd i hn h]; omega
    · obtain rfl : i = 0 := by omega
      rw [dep_zero]; omega
def depM (c : List Int) (k : Nat) : Int := (List.range k).foldl (fun m i => max m (dep c i)) 0
theorem depM_succ (c : List Int) (k : Nat) : depM c (k + 1) = max (depM c k) (dep c k) := by simp [depM, List.range_succ]
def depL (c : List Int) (k : Nat) : List Int := (List.range k).map (dep c)
theorem depL_succ (c : List Int) (k : Nat) : depL c (k + 1) = depL c k ++ [dep c k] := by simp [depL, List.range_succ]
@[simp] theorem depL_length (c : List Int) (k : Nat) : (depL c k).length = k := by simp [depL]
theorem depL_get (c : List Int) (k i : Nat) (h : i < k) : (depL c k).getD i 0 = dep c i := by simp [depL, List.getD, h]
theorem depL_bound {c : List Int} {k : Nat} (hd : down c k) (j : Nat) : 0 ≤ (depL c k).getD j 0 ∧ (depL c k).getD j 0 ≤ k := by
  by_cases h : j < k
  · have := dep_bound hd j h; rw [depL_get c k j h]; omega
  · simp [List.getD, depL, h]
def depthT (a b c : List Int) : Int := if fineT a b c then depM c c.length else -1
end Go.Pw
