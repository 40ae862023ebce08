/- The plain mathematics of module trees: strong modules are few, two ways to order them, parents. -/
import Derived.Test.YtoejpckfeflkaaaGreatDoorPwPtw
import Derived.Test.YtoejpckfeflkaaaGreatDoorPwPsv
import Derived.Test.YtoejpckfeflkaaaGreatDoorPwPkd
import Derived.Test.YtoejpckfeflkaaaGreatDoorPwPpe
namespace Go.Pw
open Go
theorem mt_or_len {α : Type} (p q : α → Bool) : ∀ l : List α, (∀ x ∈ l, p x = true → q x = false) → (l.filter fun x => p x || q x).length = (l.filter p).length + (l.filter q).length
  | [], _ => rfl
  | x :: l, h => by
    have ih := mt_or_len p q l fun y hy => h y (List.mem_cons_of_mem _ hy)
    have hx := h x (List.mem_cons_self ..)
    simp only [List.filter_cons]
    cases hp : p x <;> cases hq : q x <;> simp [hp, hq] at hx ⊢ <;> omega
theorem cnt_or {A B : Nat} (h : A &&& B = 0) : cntN (A ||| B) = cntN A + cntN B := by
  unfold cntN
  rw [← mt_or_len]
  · congr 1
    apply List.filter_congr
    intro v _
    exact Nat.testBit_or A B v
  · intro v _ hA
    have : (A &&& B).testBit v = false := by rw [h]; simp
    rw [Nat.testBit_and, hA] at this
    simpa using this
theorem cnt_le7 (S : Nat) : cntN S ≤ 7 := by
  unfold cntN
  exact Nat.le_trans (List.length_filter_le _ _) (by simp)
theorem and_fold {A : Nat} : ∀ l : List Nat, (∀ b ∈ l, A &&& b = 0) → A &&& l.foldr (· ||| ·) 0 = 0
  | [], _ => by simp
  | b :: l, h => by
    rw [List.foldr_cons, Nat.and_or_distrib_left, h b (List.mem_cons_self ..), and_fold l fun x hx => h x (List.mem_cons_of_mem _ hx)]
    rfl
theorem disj_sum : ∀ l : List Nat, l.Pairwise (fun a b => a &&& b = 0) → (l.map cntN).sum = cntN (l.foldr (· ||| ·) 0)
  | [], _ => by decide
  | a :: l, h => by
    obtain ⟨h1, h2⟩ := List.pairwise_cons.1 h
    rw [List.map_cons, List.sum_cons, List.foldr_cons, cnt_or (and_fold l h1), disj_sum l h2]
theorem sum_same (c : Nat) : ∀ l : List Nat, (∀ x ∈ l, cntN x = c) → (l.map cntN).sum = l.length * c
  | [], _ => by simp
  | a :: l, h => by
    rw [List.map_cons, List.sum_cons, h a (List.mem_cons_self ..), sum_same c l fun x hx => h x (List.mem_cons_of_mem _ hx), List.length_cons, Nat.add_mul]
    omega
def sizeC (l : List Nat) (c : Nat) : Nat := (l.filter fun x => decide (cntN x = c)).length
theorem size_all : ∀ l : List Nat, (∀ x ∈ l, 1 ≤ cntN x) → l.length = sizeC l 1 + sizeC l 2 + sizeC l 3 + sizeC l 4 + sizeC l 5 + sizeC l 6 + sizeC l 7
  | [], _ => rfl
  | a :: l, h => by
    have ih := size_all l fun x hx => h x (List.mem_cons_of_mem _ hx)
    have h1 := h a (List.mem_cons_self ..)
    have h7 := cnt_le7 a
    have hs : ∀ c, sizeC (a :: l) c = sizeC l c + if cntN a = c then 1 else 0 := fun c => by
      unfold sizeC
      by_cases e : cntN a = c
      · rw [List.filter_cons, if_pos (decide_eq_true e), List.length_cons, if_pos e]
      · rw [List.filter_cons, if_neg (by rw [decide_eq_false e]; exact Bool.false_ne_true), if_neg e]; omega
    rw [hs, hs, hs, hs, hs, hs, hs, List.length_cons]
    have hc : cntN a = 1 ∨ cntN a = 2 ∨ cntN a = 3 ∨ cntN a = 4 ∨ cntN a = 5 ∨ cntN a = 6 ∨ cntN a = 7 := by omega
    rcases hc with e | e | e | e | e | e | e <;> (rw [e]; simp; omega)
theorem size_le {l : List Nat} (hlam : ∀ a ∈ l, ∀ b ∈ l, a &&& b = 0 ∨ SubN a b ∨ SubN b a) (hlt : ∀ a ∈ l, a < 128) (hnd : l.Nodup) (c : Nat) : sizeC l c * c ≤ 7 := by
  unfold sizeC
  have hm : ∀ x ∈ l.filter (fun x => decide (cntN x = c)), x ∈ l ∧ cntN x = c := fun x hx => by
    obtain ⟨h1, h2⟩ := List.mem_filter.1 hx
    exact ⟨h1, of_decide_eq_true h2⟩
  rw [← sum_same c _ fun x hx => (hm x hx).2, disj_sum]
  · exact cnt_le7 _
  · have hn : (l.filter fun x => decide (cntN x = c)).Nodup := hnd.sublist (List.filter_sublist)
    refine List.Pairwise.imp_of_mem (fun {a b} ha hb hab => ?_) hn
    obtain ⟨a1, a2⟩ := hm a ha
    obtain ⟨b1, b2⟩ := hm b hb
    rcases hlam a a1 b b1 with h | h | h
    · exact h
    · have := cnt_lt (hlt b b1) h hab; omega
    · have := cnt_lt (hlt a a1) h (fun e => hab e.symm); omega
theorem laminar_len {l : List Nat} (hlam : ∀ a ∈ l, ∀ b ∈ l, a &&& b = 0 ∨ SubN a b ∨ SubN b a) (hlt : ∀ a ∈ l, 0 < a ∧ a < 128) (hnd : l.Nodup) : l.length ≤ 16 := by
  have h0 := size_all l fun x hx => by
    have h := hlt x hx
    have := (cnt_pos ⟨x, h.2⟩).2 (by dsimp only; omega)
    exact this
  have hs := size_le hlam (fun a ha => (hlt a ha).2) hnd
  have := hs 1
  have := hs 2
  have := hs 3
  have := hs 4
  have := hs 5
  have := hs 6
  have := hs 7
  omega
theorem strong_mem {size : Int} {rows : List Int} {n : Nat} (hg : IsG size rows) (hn : size = n) {x : Int} (h : x ∈ strongL size rows) : ∃ M : Nat, x = M ∧ 0 < M ∧ M < 2 ^ n ∧ M < 128 ∧ ∀ y ∈ strongL size rows, ¬ overQ y x := by
  unfold strongL strongU at h
  obtain ⟨h1, h2⟩ := List.mem_filter.1 h
  have h1 := List.mem_of_mem_take h1
  obtain ⟨M, rfl, hM1, hM2⟩ := (mem_modsL hg hn).1 h1
  obtain ⟨n', hn', _, _, hn7⟩ := isG_size hg
  obtain rfl : n' = n := by omega
  have h7 := pow_le7 hn7
  refine ⟨M, rfl, Nat.pos_of_ne_zero hM2.1, hM1, by omega, fun y hy => ?_⟩
  unfold strongL strongU at hy
  have hy := List.mem_of_mem_take (List.mem_filter.1 hy).1
  unfold strongB at h2
  simp only [Bool.not_eq_true', List.any_eq_false] at h2
  have := h2 y hy
  simpa using this
theorem strong_pair (size : Int) (rows : List Int) : (strongL size rows).Pairwise (fun a b => a < b) := by
  unfold strongL strongU
  refine List.Pairwise.sublist (List.filter_sublist.trans (List.take_sublist _ _)) ?_
  unfold modsL
  split
  · unfold modsU
    refine List.Pairwise.map _ (fun a b h => ?_) (List.Pairwise.sublist (List.filter_sublist) (List.pairwise_lt_range))
    exact Int.ofNat_lt.2 h
  · exact List.Pairwise.nil
theorem strong_few (size : Int) (rows : List Int) : (strongL size rows).length ≤ 16 := by
  by_cases hg : IsG size rows
  · obtain ⟨n, hn, _⟩ := isG_size hg
    have hp := strong_pair size rows
    have hm := fun x hx => strong_mem hg hn (x := x) hx
    generalize strongL size rows = L at *
    have e : (L.map Int.toNat).length = L.length := by simp
    rw [← e]
    have back : ∀ a ∈ L.map Int.toNat, ((a : Nat) : Int) ∈ L := fun a ha => by
      obtain ⟨x, hx, rfl⟩ := List.mem_map.1 ha
      obtain ⟨M, rfl, _⟩ := hm x hx
      simpa using hx
    refine laminar_len (fun a ha b hb => ?_) (fun a ha => ?_) ?_
    · obtain ⟨A, hA, _, _, hA2, hA3⟩ := hm _ (back a ha)
      obtain ⟨B, hB, _, _, hB2, hB3⟩ := hm _ (back b hb)
      obtain rfl : A = a := by omega
      obtain rfl : B = b := by omega
      have h1 := hB3 _ (back A ha)
      rw [over_iff hA2 hB2, Classical.not_not, iand_nat (by omega) (by omega)] at h1
      rcases h1 with h1 | h1 | h1
      · left; rw [Nat.and_comm]; omega
      · right; right; rw [subN_and]; omega
      · right; left; rw [subN_and, Nat.and_comm]; omega
    · obtain ⟨A, hA, h0, _, hA2, _⟩ := hm _ (back a ha)
      omega
    · refine List.Pairwise.map _ (S := fun a b => a ≠ b) (R := fun a b => a ∈ L ∧ b ∈ L ∧ a < b) (fun a b h => ?_) (List.Pairwise.imp_of_mem (fun {a b} ha hb h => ⟨ha, hb, h⟩) hp)
      obtain ⟨h1, h2, h3⟩ := h
      obtain ⟨A, rfl, _⟩ := hm _ h1
      obtain ⟨B, rfl, _⟩ := hm _ h2
      simp; omega
  · unfold strongL strongU modsL
    rw [if_neg hg]
    simp
/-- The program's order and the reference's. -/
def cmpC (a b : Int) : Int := cntS b - cntS a
def ltC (a b : Int) : Bool := decide (cmpC a b < 0)
def ltD (a b : Int) : Bool := decide (cntS b < cntS a ∨ (cntS a = cntS b ∧ a < b))
theorem posR_congr {lt lt' : Int → Int → Bool} {x : Int} {l : List Int} (h : ∀ y ∈ l, lt x y = lt' x y) : ∀ k, k ≤ l.length → posR lt x l k = posR lt' x l k
  | 0, _ => rfl
  | k + 1, hk => by
    unfold posR
    rw [h _ (getD_mem (by omega)), posR_congr h k (by omega)]
theorem insR_congr {lt lt' : Int → Int → Bool} {x : Int} {l : List Int} (h : ∀ y ∈ l, lt x y = lt' x y) : insR lt x l = insR lt' x l := by
  unfold insR; rw [posR_congr h _ (Nat.le_refl _)]
theorem sort_CD (S : List Int) (hp : S.Pairwise (fun a b => a < b)) : sortR ltC S = sortR ltD S := by
  have key : ∀ k, k ≤ S.length → sortR ltC (S.take k) = sortR ltD (S.take k) := by
    intro k
    induction k with
    | zero => intro _; rfl
    | succ k ih =>
      intro hk
      rw [sortR_round (by omega), sortR_round (by omega), ih (by omega)]
      refine insR_congr fun y hy => ?_
      have hy := (sortR_perm ltD (S.take k)).mem_iff.1 hy
      obtain ⟨i, hi, rfl⟩ := List.mem_iff_getElem.1 hy
      have hik : i < k := by simp at hi; omega
      have := List.pairwise_iff_getElem.1 hp i k (by omega) (by omega) hik
      have e : S.getD k 0 = S[k] := by simp [List.getD, show k < S.length by omega]
      rw [List.getElem_take, e]
      unfold ltC ltD cmpC
      exact decide_eq_decide.2 (by omega)
  have := key S.length (Nat.le_refl _)
  rwa [List.take_length] at this
theorem ltD_trans (a b c : Int) (h1 : ltD b a = false) (h2 : ltD c b = false) : ltD c a = false := by
  unfold ltD at *
  simp only [decide_eq_false_iff_not] at *
  omega
theorem ltD_asym (a b : Int) (h : ltD a b = true) : ltD b a = false := by
  unfold ltD at *
  simp only [decide_eq_false_iff_not, decide_eq_true_eq] at *
  omega
def bkt (S : List Int) (m : Int) : List Int := S.filter fun x => decide (cntS x = m)
def bkD (S : List Int) (n : Nat) : Nat → List Int
  | 0 => []
  | t + 1 => bkD S n t ++ bkt S ((n : Int) - t)
theorem bkD_spec {S : List Int} (hp : S.Pairwise (fun a b => a < b)) (n : Nat) : ∀ t, (bkD S n t).Pairwise (fun a b => ltD a b = true) ∧ ∀ x, x ∈ bkD S n t ↔ x ∈ S ∧ (n : Int) - t < cntS x ∧ cntS x ≤ n
  | 0 => ⟨List.Pairwise.nil, fun x => ⟨fun h => (List.not_mem_nil h).elim, fun h => by omega⟩⟩
  | t + 1 => by
    obtain ⟨h1, h2⟩ := bkD_spec hp n t
    unfold bkD
    have hm : ∀ x, x ∈ bkt S ((n : Int) - t) ↔ x ∈ S ∧ cntS x = (n : Int) - t := fun x => by unfold bkt; rw [List.mem_filter]; simp
    refine ⟨List.pairwise_append.2 ⟨h1, ?_, fun a ha b hb => ?_⟩, fun x => ?_⟩
    · refine List.Pairwise.imp_of_mem (fun {a b} ha hb h => ?_) (List.Pairwise.sublist (List.filter_sublist (p := fun x => decide (cntS x = (n : Int) - t))) hp)
      have h3 := ((hm a).1 ha).2
      have h4 := ((hm b).1 hb).2
      exact decide_eq_true (by omega)
    · have h3 := (h2 a).1 ha
      have h4 := ((hm b).1 hb).2
      exact decide_eq_true (by omega)
    · rw [List.mem_append, h2, hm]
      constructor
      · rintro (h | h)
        · exact ⟨h.1, by omega, h.2.2⟩
        · exact ⟨h.1, by omega, by omega⟩
      · rintro ⟨h3, h4, h5⟩
        by_cases e : cntS x = (n : Int) - t
        · exact .inr ⟨h3, e⟩
        · exact .inl ⟨h3, by omega, h5⟩
theorem bkD_sort {S : List Int} (hp : S.Pairwise (fun a b => a < b)) (n : Nat) (hc : ∀ x ∈ S, 1 ≤ cntS x ∧ cntS x ≤ n) : bkD S n n = sortR ltC S := by
  rw [sort_CD S hp]
  obtain ⟨h1, h2⟩ := bkD_spec hp n n
  have nd : (bkD S n n).Nodup := List.Pairwise.imp (fun {a b} h e => by subst e; have := ltD_asym a a h; rw [h] at this; cases this) h1
  have ndS : S.Nodup := List.Pairwise.imp (fun h => by omega) hp
  refine List.Perm.eq_of_pairwise (le := fun a b => ltD b a = false) (fun a b _ _ h3 h4 => ?_) (List.Pairwise.imp (fun {a b} h => ltD_asym a b h) h1) (sortR_sorted ltD_trans ltD_asym S) ?_
  · unfold ltD at h3 h4
    simp only [decide_eq_false_iff_not] at h3 h4
    omega
  · refine (perm_of_mem nd ndS fun x => ?_).trans (sortR_perm ltD S).symm
    rw [h2]
    exact ⟨fun h => h.1, fun h => ⟨h, by have := hc x h; omega, (hc x h).2⟩⟩
theorem bkt_succ {S : List Int} {m : Int} {i : Nat} (h : i < S.length) : bkt (S.take (i + 1)) m = if cntS (S.getD i 0) = m then bkt (S.take i) m ++ [S.getD i 0] else bkt (S.take i) m := by
  unfold bkt
  rw [take_snoc h, List.filter_append, List.filter_cons, List.filter_nil]
  by_cases e : cntS (S.getD i 0) = m
  · rw [if_pos e, if_pos (decide_eq_true e)]
  · rw [if_neg e, if_neg (by rw [decide_eq_false e]; exact Bool.false_ne_true), List.append_nil]
theorem bk_sub (S : List Int) (n t i : Nat) : List.Sublist (bkD S n t ++ bkt (S.take i) ((n : Int) - t)) (bkD S n (t + 1)) := by
  rw [bkD]
  unfold bkt
  exact (List.Sublist.refl _).append ((List.take_sublist _ _).filter _)
theorem bk_mem {S : List Int} (hp : S.Pairwise (fun a b => a < b)) {n t i : Nat} {x : Int} (h : x ∈ bkD S n t ++ bkt (S.take i) ((n : Int) - t)) : x ∈ S :=
  (((bkD_spec hp n (t + 1)).2 x).1 ((bk_sub S n t i).subset h)).1
theorem bk_len {S : List Int} (hp : S.Pairwise (fun a b => a < b)) (n t i : Nat) : (bkD S n t ++ bkt (S.take i) ((n : Int) - t)).length ≤ S.length := by
  have nd : (bkD S n (t + 1)).Nodup := List.Pairwise.imp (fun {a b} h e => by subst e; have := ltD_asym a a h; rw [h] at this; cases this) (bkD_spec hp n (t + 1)).1
  exact nodup_len _ _ (nd.sublist (bk_sub S n t i)) fun x hx => bk_mem hp hx
theorem strong_cnt {size : Int} {rows : List Int} {n : Nat} (hg : IsG size rows) (hn : size = n) : ∀ x ∈ strongL size rows, 1 ≤ cntS x ∧ cntS x ≤ n := fun x hx => by
  obtain ⟨M, rfl, h0, h1, h2, _⟩ := strong_mem hg hn hx
  obtain ⟨n', hn', _, _, hn7⟩ := isG_size hg
  obtain rfl : n' = n := by omega
  have h3 := (cnt_pos ⟨M, h2⟩).2 (by dsimp only; omega)
  have h4 := cnt_le ⟨n', by omega⟩ ⟨M, h2⟩ h1
  dsimp only at h3 h4
  rw [cntS_nat h2]
  omega
/-- Parents. -/
def parU (T : List Int) (x : Int) : Nat → Int
  | 0 => -1
  | k + 1 => if iandnot x (T.getD k 0) = 0 then (k : Int) else parU T x k
def parL (T : List Int) (x : Int) : Int := parU T x T.length
def parsL (T : List Int) : List Int := (List.range T.length).map fun i => parL (T.take i) (T.getD i 0)
theorem parU_range (T : List Int) (x : Int) : ∀ k : Nat, -1 ≤ parU T x k ∧ parU T x k < k
  | 0 => by simp [parU]
  | k + 1 => by have := parU_range T x k; unfold parU; split <;> omega
theorem parsL_len (T : List Int) : (parsL T).length = T.length := by simp [parsL]
theorem parsL_snoc (T : List Int) (x : Int) : parsL (T ++ [x]) = parsL T ++ [parL T x] := by
  unfold parsL
  rw [List.length_append, List.length_singleton, List.range_succ, List.map_append, List.map_singleton]
  congr 1
  · refine List.map_congr_left fun i hi => ?_
    have hi := List.mem_range.1 hi
    rw [List.take_append_of_le_length (by omega)]
    congr 1
    simp [List.getD, List.getElem?_append, hi]
  · congr 1
    rw [List.take_append_of_le_length (Nat.le_refl _), List.take_length]
    congr 1
    simp [List.getD]
def mtS (size : Int) (rows : List Int) : List Int := if IsG size rows then sortR ltC (strongL size rows) else []
def mtK (size : Int) (rows : List Int) : List Int := (mtS size rows).map (kindX size rows)
def mtQ (size : Int) (rows : List Int) : List Int := parsL (mtS size rows)
theorem mt_lens (size : Int) (rows : List Int) : (mtS size rows).length ≤ 16 ∧ (mtK size rows).length = (mtS size rows).length ∧ (mtQ size rows).length = (mtS size rows).length := by
  refine ⟨?_, by simp [mtK], by simp [mtQ, parsL_len]⟩
  unfold mtS
  split
  · rw [sortR_len]; exact strong_few size rows
  · simp
theorem sub_iff {X T : Nat} (hX : X < 128) (hT : T < 128) : iand (T : Int) (X : Int) = X ↔ iandnot (X : Int) (T : Int) = 0 := by
  rw [andnot_zero hX, iand_nat (by omega) (by omega), subN_and, Nat.and_comm]
  omega
end Go.Pw
