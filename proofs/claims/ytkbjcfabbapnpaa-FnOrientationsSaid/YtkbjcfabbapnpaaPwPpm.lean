/- The plain mathematics of permutation models out of two orientations. -/
import Derived.Test.YtkbjcfabbapnpaaPwPor
import Derived.Test.YtkbjcfabbapnpaaKd
namespace Go.Pw
open Go
/-- How many of the first k have an arc to v. -/
def cU (F : Nat → Nat → Bool) (v k : Nat) : Nat := ((List.range k).filter fun u => F u v).length
theorem cU_succ (F : Nat → Nat → Bool) (v k : Nat) : cU F v (k + 1) = if F k v = true then cU F v k + 1 else cU F v k := by
  unfold cU
  rw [List.range_succ, List.filter_append, List.filter_cons, List.filter_nil]
  by_cases h : F k v = true
  · rw [if_pos h, if_pos h, List.length_append]; rfl
  · rw [if_neg h, if_neg h, List.append_nil]
theorem cU_le (F : Nat → Nat → Bool) (v k : Nat) : cU F v k ≤ k := by
  unfold cU
  exact Nat.le_trans (List.length_filter_le _ _) (by simp)
theorem cU_lt {F : Nat → Nat → Bool} {v n : Nat} (hv : v < n) (hi : F v v = false) : cU F v n < n := by
  unfold cU
  have h1 := filter_lt (fun u => F u v) (fun _ => true) (List.range n) (fun _ _ _ => rfl) ⟨v, List.mem_range.2 hv, rfl, hi⟩
  have h2 : ((List.range n).filter (fun _ => true)).length = n := by
    rw [List.filter_eq_self.2 (fun _ _ => rfl), List.length_range]
  omega
def ordU (n : Nat) (F : Nat → Nat → Bool) : Nat → List Int
  | 0 => List.replicate n 0
  | v + 1 => (ordU n F v).set (cU F v n) v
theorem ordU_len (n : Nat) (F : Nat → Nat → Bool) : ∀ v, (ordU n F v).length = n
  | 0 => by simp [ordU]
  | v + 1 => by rw [ordU, List.length_set, ordU_len n F v]
theorem mask_ior {f g : Nat → Bool} {n : Nat} (hn : n ≤ 7) : ior ((maskU f n : Nat) : Int) ((maskU g n : Nat) : Int) = ((maskU (fun u => f u || g u) n : Nat) : Int) := by
  have h7 : 2 ^ n ≤ 2 ^ 7 := Nat.pow_le_pow_right (by omega) hn
  have l1 := maskU_lt f n
  have l2 := maskU_lt g n
  rw [ior_nat (by omega) (by omega)]
  congr 1
  apply Nat.eq_of_testBit_eq
  intro i
  rw [Nat.testBit_or, maskU_bit, maskU_bit, maskU_bit, ← Bool.and_or_distrib_left]
def oriQ (size : Int) (rows : List Int) : Nat → Nat → Bool := (oriX size rows).getD fun _ _ => false
def pmOk (size : Int) (rows : List Int) : Bool := (oriX size rows).isSome && (oriX (barZ size rows) (barL size rows)).isSome
def pmFA (size : Int) (rows : List Int) (u v : Nat) : Bool := oriQ (barZ size rows) (barL size rows) u v || oriQ size rows u v
def pmFB (size : Int) (rows : List Int) (u v : Nat) : Bool := oriQ (barZ size rows) (barL size rows) u v || oriQ size rows v u
def pmA (size : Int) (rows : List Int) : List Int := if pmOk size rows = true then ordU rows.length (pmFA size rows) rows.length else []
def pmB (size : Int) (rows : List Int) : List Int := if pmOk size rows = true then ordU rows.length (pmFB size rows) rows.length else []
theorem ori_isG {size : Int} {rows : List Int} (h : (oriX size rows).isSome = true) : IsG size rows := by
  unfold oriX at h
  split at h
  · assumption
  · cases h
theorem ori_irr {size : Int} {rows : List Int} (i : Nat) : oriQ size rows i i = false := by
  unfold oriQ
  cases hx : oriX size rows with
  | none => rfl
  | some Q =>
    have hg : IsG size rows := ori_isG (by rw [hx]; rfl)
    obtain ⟨n, _, hrl, hn1, hn7⟩ := isG_size hg
    unfold oriX at hx
    rw [if_pos hg] at hx
    exact oriF_irr (by omega) (by omega) 50 (bits_irr hg) (fun _ => rfl) hx i
structure PmF (size : Int) (rows : List Int) : Prop where
  isG : IsG size rows
  one : (oriX size rows).isSome = true
  two : (oriX (barZ size rows) (barL size rows)).isSome = true
  o : oriL size rows = gRows rows.length (oriQ size rows)
  h : oriL (barZ size rows) (barL size rows) = gRows rows.length (oriQ (barZ size rows) (barL size rows))
theorem pm_facts {size : Int} {rows : List Int} (h : pmOk size rows = true) : PmF size rows := by
  unfold pmOk at h
  simp only [Bool.and_eq_true] at h
  obtain ⟨h1, h2⟩ := h
  have hg := ori_isG h1
  have key : ∀ (s : Int) (r : List Int), (oriX s r).isSome = true → oriL s r = gRows r.length (oriQ s r) := fun s r hs => by
    unfold oriL oriQ
    cases hx : oriX s r with
    | none => rw [hx] at hs; cases hs
    | some Q => rfl
  have hb := key _ _ h2
  rw [barL_length hg] at hb
  exact ⟨hg, h1, h2, key _ _ h1, hb⟩
theorem pm_lens (size : Int) (rows : List Int) : (pmA size rows).length ≤ 7 ∧ (pmB size rows).length ≤ 7 := by
  unfold pmA pmB
  cases h : pmOk size rows with
  | false => simp
  | true =>
    obtain ⟨n, _, hrl, _, hn7⟩ := isG_size (pm_facts h).isG
    rw [if_pos rfl, if_pos rfl, ordU_len, ordU_len]
    omega
theorem pmFA_irr (size : Int) (rows : List Int) (i : Nat) : pmFA size rows i i = false := by unfold pmFA; rw [ori_irr, ori_irr]; rfl
theorem pmFB_irr (size : Int) (rows : List Int) (i : Nat) : pmFB size rows i i = false := by unfold pmFB; rw [ori_irr, ori_irr]; rfl
theorem getD_el {l : List Int} {k : Nat} (h : k < l.length) : l.getD k 0 = l[k] := by simp [List.getD, h]
/-- An arc to i added at each of a list's first k. -/
def orC (Q : Nat → Nat → Bool) (i : Nat) (L : List Int) : Nat → Nat → Nat → Bool
  | 0 => Q
  | k + 1 => addQ (orC Q i L k) (L.getD k 0).toNat i
theorem orC_iff (Q : Nat → Nat → Bool) (i : Nat) (L : List Int) (w x : Nat) : ∀ k, orC Q i L k w x = true ↔ Q w x = true ∨ (x = i ∧ ∃ j, j < k ∧ (L.getD j 0).toNat = w)
  | 0 => by simp [orC]
  | k + 1 => by
    rw [orC, addQ, Bool.or_eq_true, orC_iff Q i L w x k, decide_eq_true_iff]
    constructor
    · rintro ((h | ⟨h, j, hj, e⟩) | ⟨h, e⟩)
      · exact .inl h
      · exact .inr ⟨h, j, by omega, e⟩
      · exact .inr ⟨e, k, by omega, h.symm⟩
    · rintro (h | ⟨h, j, hj, e⟩)
      · exact .inl (.inl h)
      · by_cases hjk : j = k
        · subst hjk; exact .inr ⟨e.symm, h⟩
        · exact .inl (.inr ⟨h, j, by omega, e⟩)
def aU (H O : Nat → Nat → Bool) (i u x : Nat) : Bool := H u x || (decide (u < i) && O u x)
def bU (H O : Nat → Nat → Bool) (i u x : Nat) : Bool := H u x || (decide (x < i) && O x u)
theorem aU_zero (n : Nat) (H O : Nat → Nat → Bool) : gRows n (aU H O 0) = gRows n H := gRows_congr fun i u _ _ => by simp [aU]
theorem bU_zero (n : Nat) (H O : Nat → Nat → Bool) : gRows n (bU H O 0) = gRows n H := gRows_congr fun i u _ _ => by simp [bU]
theorem aU_done (n : Nat) (H O : Nat → Nat → Bool) : gRows n (aU H O n) = gRows n (fun u v => H u v || O u v) := gRows_congr fun i u hi _ => by simp [aU, hi]
theorem bU_done (n : Nat) (H O : Nat → Nat → Bool) : gRows n (bU H O n) = gRows n (fun u v => H u v || O v u) := gRows_congr fun i u _ hu => by simp [bU, hu]
theorem aU_step {n i : Nat} (H O : Nat → Nat → Bool) (hn : n ≤ 7) (hi : i < n) : (gRows n (aU H O i)).set i (ior ((gRows n (aU H O i)).getD i 0) ((gRows n O).getD i 0)) = gRows n (aU H O (i + 1)) := by
  rw [gRows_get _ hi, gRows_get _ hi, mask_ior hn, gRows_set hi]
  refine gRows_congr fun u x _ _ => ?_
  by_cases h : u = i
  · subst h; rw [if_pos rfl]; simp [aU]
  · rw [if_neg h]
    have : u < i + 1 ↔ u < i := by omega
    simp [aU, this]
theorem row_list {n i : Nat} (O : Nat → Nat → Bool) (hn : n ≤ 7) (hi : i < n) (x : Int) : x ∈ listS ((gRows n O).getD i 0) ↔ ∃ w : Nat, x = w ∧ w < n ∧ O i w = true := by
  have h7 : 2 ^ n ≤ 2 ^ 7 := Nat.pow_le_pow_right (by omega) hn
  have l1 := maskU_lt (O i) n
  rw [mem_listS, gRows_get _ hi]
  constructor
  · rintro ⟨h0, w, e, hw, hb⟩
    rw [hasB_nat (by omega) (by omega), maskU_bit, Bool.and_eq_true, decide_eq_true_iff] at hb
    exact ⟨w, e, hb⟩
  · rintro ⟨w, e, hw, hb⟩
    refine ⟨by omega, w, e, by omega, ?_⟩
    rw [hasB_nat (by omega) (by omega), maskU_bit, Bool.and_eq_true, decide_eq_true_iff]
    exact ⟨hw, hb⟩
theorem row_getD {n i k : Nat} (O : Nat → Nat → Bool) (hn : n ≤ 7) (hi : i < n) (hk : k < (listS ((gRows n O).getD i 0)).length) : ∃ w : Nat, (listS ((gRows n O).getD i 0)).getD k 0 = w ∧ w < n := by
  have hm : (listS ((gRows n O).getD i 0)).getD k 0 ∈ listS ((gRows n O).getD i 0) := by
    rw [getD_el hk]; exact List.getElem_mem hk
  obtain ⟨w, e, hw, _⟩ := (row_list O hn hi _).1 hm
  exact ⟨w, e, hw⟩
theorem bU_step {n i : Nat} (H O : Nat → Nat → Bool) (hn : n ≤ 7) (hi : i < n) : gRows n (orC (bU H O i) i (listS ((gRows n O).getD i 0)) (listS ((gRows n O).getD i 0)).length) = gRows n (bU H O (i + 1)) := by
  refine gRows_congr fun u x hu _ => ?_
  rw [Bool.eq_iff_iff, orC_iff]
  have key : (∃ j, j < (listS ((gRows n O).getD i 0)).length ∧ ((listS ((gRows n O).getD i 0)).getD j 0).toNat = u) ↔ O i u = true := by
    constructor
    · rintro ⟨j, hj, e⟩
      have hm : (listS ((gRows n O).getD i 0)).getD j 0 ∈ listS ((gRows n O).getD i 0) := by
        rw [getD_el hj]; exact List.getElem_mem hj
      obtain ⟨w, e2, hw, ho⟩ := (row_list O hn hi _).1 hm
      rw [e2] at e
      obtain rfl : w = u := by simpa using e
      exact ho
    · intro ho
      have hm := (row_list O hn hi (u : Int)).2 ⟨u, rfl, hu, ho⟩
      obtain ⟨j, hj, e⟩ := List.getElem_of_mem hm
      refine ⟨j, hj, ?_⟩
      rw [getD_el hj, e]; rfl
  rw [key]
  unfold bU
  by_cases h : x = i
  · subst h; simp
  · have : x < i + 1 ↔ x < i := by omega
    simp [h, this]
end Go.Pw
