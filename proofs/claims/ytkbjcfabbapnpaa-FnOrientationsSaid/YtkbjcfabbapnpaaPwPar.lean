/- The plain mathematics of arcs that force one another. -/
import Derived.Test.YtkbjcfabbapnpaaPwPed
import Derived.Test.YtkbjcfabbapnpaaPwSM
import Derived.Test.YtkbjcfabbapnpaaPwPld
namespace Go.Pw
open Go
/-- The first place of a list among lists, -1 if it is not there. -/
def placeA : List (List Int) → List Int → Int
  | [], _ => -1
  | y :: r, x => if y = x then 0 else if placeA r x < 0 then -1 else placeA r x + 1
theorem placeA_range (l : List (List Int)) (x : List Int) : -1 ≤ placeA l x ∧ placeA l x < l.length := by
  induction l with
  | nil => simp [placeA]
  | cons y r ih =>
    unfold placeA
    simp only [List.length_cons]
    split
    · omega
    · split <;> omega
theorem placeA_mem (l : List (List Int)) (x : List Int) : 0 ≤ placeA l x ↔ x ∈ l := by
  induction l with
  | nil => simp [placeA]
  | cons y r ih =>
    unfold placeA
    rw [List.mem_cons]
    have hr := placeA_range r x
    split
    · next h => simp [h]
    · next h =>
      have h' : ¬ x = y := fun e => h e.symm
      simp only [h', false_or, ← ih]
      split <;> omega
theorem placeA_none : ∀ (l : List (List Int)) (x : List Int), (∀ i, i < l.length → l.getD i [] ≠ x) → placeA l x = -1
  | [], _, _ => rfl
  | y :: r, x, h => by
    have h0 : y ≠ x := h 0 (by simp)
    have h1 := placeA_none r x fun i hi => h (i + 1) (by simp; omega)
    unfold placeA
    rw [if_neg h0, h1]; rfl
theorem placeA_some : ∀ (l : List (List Int)) (x : List Int) (k : Nat), k < l.length → l.getD k [] = x → (∀ i, i < k → l.getD i [] ≠ x) → placeA l x = k
  | [], _, _, h, _, _ => by simp at h
  | y :: r, x, 0, _, h, _ => by
    have h' : y = x := h
    unfold placeA; rw [if_pos h']; rfl
  | y :: r, x, k + 1, hk, h, hb => by
    have h0 : y ≠ x := hb 0 (by omega)
    have h1 := placeA_some r x k (by simpa using hk) h fun i hi => hb (i + 1) (by omega)
    unfold placeA
    rw [if_neg h0, h1, if_neg (by omega)]; push_cast; try rfl
theorem lss_getD (ps : Pairs) (k : Nat) : (lssOf ps).getD k [] = lsAt ps k := by
  simp only [lssOf, lsAt, List.getD, List.getElem?_map]
  cases ps[k]? <;> rfl
/-- Does the edge v u follow at once from a b? -/
def nextB (rows : List Int) (a b : Int) (v u : Nat) : Bool :=
  hasB (rows.getD v 0) (u : Nat) && (decide ((v : Int) = a) && !decide ((u : Int) = b) && !hasB (rows.getD u 0) b || decide ((u : Int) = b) && !decide ((v : Int) = a) && !hasB (rows.getD v 0) a)
theorem nextB_iff {rows : List Int} {a b : Int} {v u : Nat} : nextB rows a b v u = true ↔ hasB (rows.getD v 0) (u : Nat) = true ∧ (((v : Int) = a ∧ ¬ (u : Int) = b ∧ hasB (rows.getD u 0) b = false) ∨ ((u : Int) = b ∧ ¬ (v : Int) = a ∧ hasB (rows.getD v 0) a = false)) := by
  unfold nextB
  simp only [Bool.and_eq_true, Bool.or_eq_true, decide_eq_true_eq, Bool.not_eq_true', decide_eq_false_iff_not, and_assoc]
def nextRow (rows : List Int) (a b : Int) (v k : Nat) : List (List Int) := ((List.range k).filter (nextB rows a b v)).map fun u : Nat => [(v : Int), (u : Int)]
def nextU (rows : List Int) (n : Nat) (a b : Int) (v : Nat) : List (List Int) := (List.range v).flatMap fun x => nextRow rows a b x n
def nextA (rows : List Int) (a b : Int) : List (List Int) := nextU rows rows.length a b rows.length
theorem nextRow_succ (rows : List Int) (a b : Int) (v k : Nat) : nextRow rows a b v (k + 1) = if nextB rows a b v k = true then nextRow rows a b v k ++ [[(v : Int), (k : Int)]] else nextRow rows a b v k := by
  unfold nextRow
  rw [List.range_succ, List.filter_append, List.map_append]
  cases h : nextB rows a b v k <;> simp [h]
theorem nextU_succ (rows : List Int) (n : Nat) (a b : Int) (v : Nat) : nextU rows n a b (v + 1) = nextU rows n a b v ++ nextRow rows a b v n := by simp [nextU, List.range_succ]
theorem nextRow_length (rows : List Int) (a b : Int) (v k : Nat) : (nextRow rows a b v k).length ≤ k := by
  unfold nextRow; rw [List.length_map]
  exact Nat.le_trans (List.length_filter_le _ _) (by simp)
theorem nextU_length (rows : List Int) (n : Nat) (a b : Int) : ∀ v, (nextU rows n a b v).length ≤ v * n
  | 0 => by simp [nextU]
  | v + 1 => by
    have := nextU_length rows n a b v
    have h2 := nextRow_length rows a b v n
    rw [nextU_succ, List.length_append, Nat.succ_mul]; omega
theorem nextA_mem {rows : List Int} {a b : Int} {e : List Int} (h : e ∈ nextA rows a b) : ∃ v u : Nat, e = [(v : Int), (u : Int)] ∧ v < rows.length ∧ u < rows.length ∧ nextB rows a b v u = true := by
  obtain ⟨v, hv, h2⟩ := List.mem_flatMap.1 h
  obtain ⟨u, hu, rfl⟩ := List.mem_map.1 h2
  obtain ⟨hu1, hu2⟩ := List.mem_filter.1 hu
  exact ⟨v, u, rfl, List.mem_range.1 hv, List.mem_range.1 hu1, hu2⟩
/-- The program's way to the arcs out of a. -/
theorem testBit_andnot (a b x : Nat) : (a ^^^ (a &&& b)).testBit x = (a.testBit x && !b.testBit x) := by
  rw [Nat.testBit_xor, Nat.testBit_and]
  cases a.testBit x <;> cases b.testBit x <;> rfl
theorem andnot_lt {a b : Nat} (h : a < 128) : a ^^^ (a &&& b) < 128 :=
  Nat.xor_lt_two_pow (n := 7) h (Nat.lt_of_le_of_lt Nat.and_le_left h)
theorem andnot_bits {A B : Nat} (hA : A < 128) (hB : B < 128) : ∃ S : Nat, iandnot (A : Int) (B : Int) = S ∧ S < 128 ∧ ∀ x, x < 7 → S.testBit x = (A.testBit x && !B.testBit x) :=
  ⟨A ^^^ (A &&& B), iandnot_nat (by omega), andnot_lt hA, fun x _ => testBit_andnot A B x⟩
theorem range_filter_le {p : Nat → Bool} {n m : Nat} (h : n ≤ m) (hp : ∀ x, n ≤ x → x < m → p x = false) : (List.range m).filter p = (List.range n).filter p := by
  obtain ⟨d, rfl⟩ : ∃ d, m = n + d := ⟨m - n, by omega⟩
  induction d with
  | zero => rfl
  | succ d ih =>
    rw [← Nat.add_assoc, List.range_succ, List.filter_append, ih (by omega) fun x h1 h2 => hp x h1 (by omega)]
    have := hp (n + d) (by omega) (by omega)
    simp [this]
theorem next_out {size : Int} {rows : List Int} {a b : Nat} (hg : IsG size rows) (ha : a < rows.length) (hb : b < rows.length) :
    nextRow rows a b a rows.length = (listS (iandnot (iandnot (rows.getD a 0) (rows.getD b 0)) (ishl 1 (b : Int)))).map fun c => [(a : Int), c] := by
  obtain ⟨n, hn, hl, hn1, hn7⟩ := isG_size hg
  obtain ⟨A, a1, a2, a3⟩ := row_nat hg hn a
  obtain ⟨B, b1, b2, b3⟩ := row_nat hg hn b
  obtain ⟨S, s1, s2, s3⟩ := andnot_bits a3 b3
  have pb : 2 ^ b < 2 ^ 7 := Nat.pow_lt_pow_right (by omega) (by omega)
  obtain ⟨T, t1, t2, t3⟩ := andnot_bits s2 pb
  rw [a1, b1, s1, ishl_one_nat (by omega), t1, listS_eq ⟨by omega, by omega⟩]
  unfold nextRow listU
  rw [List.map_map, range_filter_le (n := rows.length) (m := 7) (by omega)]
  · have e : (List.range rows.length).filter (nextB rows a b a) = (List.range rows.length).filter fun v => hasB (T : Int) (v : Nat) := by
      refine List.filter_congr fun u hu => ?_
      have hu' := List.mem_range.1 hu
      have hsy := edge_sym hg (v := u) (u := b) hu' hb
      rw [hasB_nat (by omega) (by omega), t3 u (by omega), s3 u (by omega), Nat.testBit_two_pow]
      unfold nextB
      rw [hsy, a1, b1, hasB_nat (by omega) (by omega), hasB_nat (by omega) (by omega)]
      have e1 : decide ((a : Int) = (a : Int)) = true := by simp
      have e2 : decide ((u : Int) = (b : Int)) = decide (b = u) := by simp; omega
      rw [e1, e2]
      cases A.testBit u <;> cases B.testBit u <;> cases decide (b = u) <;> rfl
    rw [e]
    rfl
  · intro x h1 h2
    rw [hasB_nat (by omega) (by omega), t3 x h2, s3 x h2]
    have : A.testBit x = false := Nat.testBit_lt_two_pow (Nat.lt_of_lt_of_le a2 (Nat.pow_le_pow_right (by omega) (by omega)))
    rw [this]; rfl
theorem next_in {size : Int} {rows : List Int} {a b v : Nat} (hg : IsG size rows) (ha : a < rows.length) (hb : b < rows.length) (hv : v < rows.length) (hne : v ≠ a) :
    nextRow rows a b v rows.length = if hasB (iandnot (rows.getD b 0) (rows.getD a 0)) (v : Nat) = true then [[(v : Int), (b : Int)]] else [] := by
  obtain ⟨n, hn, hl, hn1, hn7⟩ := isG_size hg
  obtain ⟨A, a1, a2, a3⟩ := row_nat hg hn a
  obtain ⟨B, b1, b2, b3⟩ := row_nat hg hn b
  obtain ⟨S, s1, s2, s3⟩ := andnot_bits b3 a3
  have bA : ∀ x : Nat, x < 7 → hasB (A : Int) (x : Nat) = A.testBit x := fun x hx => hasB_nat (by omega) (by omega)
  have bB : ∀ x : Nat, x < 7 → hasB (B : Int) (x : Nat) = B.testBit x := fun x hx => hasB_nat (by omega) (by omega)
  have bS : ∀ x : Nat, x < 7 → hasB (S : Int) (x : Nat) = S.testBit x := fun x hx => hasB_nat (by omega) (by omega)
  have hf : ∀ u, nextB rows a b v u = (decide (u = b) && hasB (S : Int) (v : Nat)) := by
    intro u
    by_cases hub : u = b
    · subst hub
      have h1 := edge_sym hg (v := v) (u := u) hv hb
      have h2 := edge_sym hg (v := v) (u := a) hv ha
      unfold nextB
      have e1 : decide ((v : Int) = (a : Int)) = false := by simp; omega
      rw [h1, h2, e1, a1, b1, bB v (by omega), bB u (by omega), bA v (by omega), bS v (by omega), s3 v (by omega)]
      simp
    · unfold nextB
      have e1 : decide ((v : Int) = (a : Int)) = false := by simp; omega
      have e2 : decide ((u : Int) = (b : Int)) = false := by simp; omega
      rw [e1, e2]
      simp [hub]
  rw [b1, a1, s1]
  unfold nextRow
  have e : (List.range rows.length).filter (nextB rows a b v) = (List.range rows.length).filter fun u => decide (u = b) && hasB (S : Int) (v : Nat) := List.filter_congr fun u _ => hf u
  rw [e]
  cases hS : hasB (S : Int) (v : Nat) with
  | false => simp
  | true =>
    have : ∀ m, b < m → (List.range m).filter (fun u => decide (u = b) && true) = [b] := by
      intro m
      induction m with
      | zero => intro h; omega
      | succ m ih =>
        intro h
        rw [List.range_succ, List.filter_append]
        by_cases hm : b < m
        · rw [ih hm]
          have : ¬ m = b := by omega
          simp [this]
        · obtain rfl : b = m := by omega
          have : (List.range b).filter (fun u => decide (u = b) && true) = [] := by
            rw [List.filter_eq_nil_iff]
            intro x hx
            have := List.mem_range.1 hx
            simp; omega
          rw [this]; simp
    rw [this _ hb]; simp
/-- One more arc, if it is new. -/
def addA (k : Int) (s : List (List Int) × List Int) (e : List Int) : List (List Int) × List Int := if e ∈ s.1 then s else (s.1 ++ [e], s.2 ++ [k])
def stepA (rows : List Int) (s : List (List Int) × List Int) (k : Nat) : List (List Int) × List Int :=
  (nextA rows ((s.1.getD k []).getD 0 0) ((s.1.getD k []).getD 1 0)).foldl (addA k) s
def bfsA (rows : List Int) (a b : Int) : Nat → List (List Int) × List Int
  | 0 => ([[a, b]], [-1])
  | k + 1 => if k < (bfsA rows a b k).1.length then stepA rows (bfsA rows a b k) k else bfsA rows a b k
/-- An arc between the first n vertices. -/
def arcN (n : Nat) (e : List Int) : Prop := ∃ v u : Nat, e = [(v : Int), (u : Int)] ∧ v < n ∧ u < n
theorem nodup_lenA : ∀ (l m : List (List Int)), l.Nodup → (∀ x ∈ l, x ∈ m) → l.length ≤ m.length
  | [], _, _, _ => Nat.zero_le _
  | x :: r, m, hn, h => by
    obtain ⟨h1, h2⟩ := List.nodup_cons.1 hn
    have hx := h x (List.mem_cons_self ..)
    have := nodup_lenA r (m.erase x) h2 fun y hy => (List.mem_erase_of_ne (fun e => h1 (by rw [← e]; exact hy))).2 (h y (List.mem_cons_of_mem _ hy))
    have h3 := List.length_erase_of_mem hx
    have h4 := List.length_pos_of_mem hx
    simp only [List.length_cons]
    omega
def allArcs (n : Nat) : List (List Int) := (List.range n).flatMap fun v : Nat => (List.range n).map fun u : Nat => [(v : Int), (u : Int)]
theorem allArcs_len (n : Nat) : (allArcs n).length = n * n := by
  unfold allArcs
  rw [List.length_flatMap]
  have : ∀ m : Nat, (List.map (fun _ : Nat => n) (List.range m)).sum = m * n := by
    intro m
    induction m with
    | zero => simp
    | succ m ih => rw [List.range_succ, List.map_append, List.sum_append, ih, Nat.succ_mul]; simp
  simp only [List.length_map, List.length_range]
  exact this n
theorem arcN_mem {n : Nat} {e : List Int} (h : arcN n e) : e ∈ allArcs n := by
  obtain ⟨v, u, rfl, hv, hu⟩ := h
  exact List.mem_flatMap.2 ⟨v, List.mem_range.2 hv, List.mem_map.2 ⟨u, List.mem_range.2 hu, rfl⟩⟩
/-- What a search by breadth keeps true. -/
structure OkA (n : Nat) (s : List (List Int) × List Int) : Prop where
  arc : ∀ e ∈ s.1, arcN n e
  nodup : s.1.Nodup
  len : s.2.length = s.1.length
  back : ∀ i, i < s.2.length → -1 ≤ s.2.getD i 0 ∧ s.2.getD i 0 < i
theorem OkA.bound {n : Nat} {s : List (List Int) × List Int} (h : OkA n s) (hn : n ≤ 7) : s.1.length ≤ 49 := by
  have h1 := nodup_lenA s.1 (allArcs n) h.nodup fun x hx => arcN_mem (h.arc x hx)
  rw [allArcs_len] at h1
  have h2 : n * n ≤ 7 * 7 := Nat.mul_le_mul hn hn
  omega
theorem OkA.add {n : Nat} {s : List (List Int) × List Int} {k : Nat} {e : List Int} (h : OkA n s) (he : arcN n e) (hk : k < s.1.length) : OkA n (addA k s e) ∧ k < (addA k s e).1.length := by
  unfold addA
  split
  · exact ⟨h, hk⟩
  · rename_i hno
    refine ⟨⟨fun x hx => ?_, ?_, by simp [h.len], fun i hi => ?_⟩, by simp; omega⟩
    · rcases List.mem_append.1 hx with hx | hx
      · exact h.arc x hx
      · obtain rfl := List.mem_singleton.1 hx; exact he
    · refine List.nodup_append.2 ⟨h.nodup, List.pairwise_singleton _ _, fun x hx y hy => ?_⟩
      obtain rfl := List.mem_singleton.1 hy
      rintro rfl
      exact hno hx
    · simp only [List.length_append, List.length_singleton] at hi
      by_cases hlt : i < s.2.length
      · have := h.back i hlt
        simpa [List.getD, List.getElem?_append_left hlt] using this
      · obtain rfl : i = s.2.length := by omega
        have := h.len
        simp [List.getD]; omega
theorem OkA.fold {n : Nat} {k : Nat} : ∀ (l : List (List Int)) {s : List (List Int) × List Int}, OkA n s → (∀ e ∈ l, arcN n e) → k < s.1.length → OkA n (l.foldl (addA k) s) ∧ k < (l.foldl (addA k) s).1.length
  | [], _, h, _, hk => ⟨h, hk⟩
  | e :: r, s, h, hl, hk => by
    obtain ⟨h1, h2⟩ := h.add (hl e (List.mem_cons_self ..)) hk
    exact OkA.fold r h1 (fun x hx => hl x (List.mem_cons_of_mem _ hx)) h2
theorem nextA_arc {rows : List Int} {a b : Int} : ∀ e ∈ nextA rows a b, arcN rows.length e := fun e he => by
  obtain ⟨v, u, h, hv, hu, _⟩ := nextA_mem he
  exact ⟨v, u, h, hv, hu⟩
theorem bfsA_ok {rows : List Int} {a b : Int} (hab : arcN rows.length [a, b]) : ∀ k, OkA rows.length (bfsA rows a b k)
  | 0 => ⟨fun e he => by obtain rfl := List.mem_singleton.1 he; exact hab, List.pairwise_singleton _ _, rfl, fun i hi => by
      have : i = 0 := by simp [bfsA] at hi; omega
      subst this; simp [bfsA]⟩
  | k + 1 => by
    have ih := bfsA_ok hab k
    unfold bfsA
    split
    · rename_i hk
      exact (OkA.fold (k := k) _ ih nextA_arc hk).1
    · exact ih
theorem bfsA_stop {rows : List Int} {a b : Int} {k : Nat} (h : (bfsA rows a b k).1.length ≤ k) : ∀ m, k ≤ m → bfsA rows a b m = bfsA rows a b k := by
  intro m hm
  obtain ⟨d, rfl⟩ : ∃ d, m = k + d := ⟨m - k, by omega⟩
  induction d with
  | zero => rfl
  | succ d ih =>
    have e := ih (by omega)
    rw [← Nat.add_assoc]
    rw [bfsA, e, if_neg (by omega)]
/-- An arc and all that it forces, with the places by which they were found. -/
def forcedA (rows : List Int) (a b : Int) : List (List Int) × List Int := bfsA rows a b 49
theorem forcedA_ok {rows : List Int} {a b : Int} (hab : arcN rows.length [a, b]) : OkA rows.length (forcedA rows a b) := bfsA_ok hab 49
theorem forcedA_end {rows : List Int} {a b : Int} (hab : arcN rows.length [a, b]) (hn : rows.length ≤ 7) {k : Nat} (h : k = (bfsA rows a b k).1.length) : forcedA rows a b = bfsA rows a b k := by
  have := (bfsA_ok hab k).bound hn
  exact bfsA_stop (by omega) 49 (by omega)
def foldU (k : Int) (s : List (List Int) × List Int) (L : List (List Int)) (j : Nat) : List (List Int) × List Int := (L.take j).foldl (addA k) s
theorem foldU_succ {k : Int} {s : List (List Int) × List Int} {L : List (List Int)} {j : Nat} (h : j < L.length) : foldU k s L (j + 1) = addA k (foldU k s L j) (L.getD j []) := by
  unfold foldU
  rw [List.take_add_one, List.foldl_append]
  simp [List.getD, h]
theorem foldU_all (k : Int) (s : List (List Int) × List Int) (L : List (List Int)) : foldU k s L L.length = L.foldl (addA k) s := by
  unfold foldU; rw [List.take_length]
theorem foldU_ok {n k : Nat} {s : List (List Int) × List Int} (h : OkA n s) {L : List (List Int)} (hL : ∀ e ∈ L, arcN n e) (hk : k < s.1.length) (j : Nat) : OkA n (foldU k s L j) :=
  (h.fold (L.take j) (fun e he => hL e (List.mem_of_mem_take he)) hk).1
theorem addA_new {k : Int} {s : List (List Int) × List Int} {e : List Int} (h : placeA s.1 e < 0) : addA k s e = (s.1 ++ [e], s.2 ++ [k]) := by
  unfold addA; rw [if_neg (fun hm => by have := (placeA_mem s.1 e).2 hm; omega)]
theorem addA_old {k : Int} {s : List (List Int) × List Int} {e : List Int} (h : ¬ placeA s.1 e < 0) : addA k s e = s := by
  unfold addA; rw [if_pos ((placeA_mem s.1 e).1 (by omega))]
/-- The way back from an arc by the arcs by which they were found. -/
def chainF (f : List Int) : Nat → Int → List Nat
  | 0, _ => []
  | d + 1, i => if i < 0 then [] else chainF f d (f.getD i.toNat 0) ++ [i.toNat]
theorem chainF_fuel {f : List Int} (hf : ∀ i, i < f.length → -1 ≤ f.getD i 0 ∧ f.getD i 0 < i) : ∀ (d m : Nat) (i : Int), -1 ≤ i → i < d → i < m → i < f.length → chainF f d i = chainF f m i
  | 0, 0, _, _, _, _, _ => rfl
  | 0, m + 1, i, h0, h1, _, _ => by
    show [] = chainF f (m + 1) i
    unfold chainF; rw [if_pos (by omega)]
  | d + 1, 0, i, h0, _, h2, _ => by
    show chainF f (d + 1) i = []
    unfold chainF; rw [if_pos (by omega)]
  | d + 1, m + 1, i, h0, h1, h2, h3 => by
    unfold chainF
    split
    · rfl
    · have := hf i.toNat (by omega)
      rw [chainF_fuel hf d m (f.getD i.toNat 0) (by omega) (by omega) (by omega) (by omega)]
def chainI (f : List Int) (i : Int) : List Nat := chainF f (f.length + 1) i
theorem chainI_neg {f : List Int} {i : Int} (h : i < 0) : chainI f i = [] := by unfold chainI chainF; rw [if_pos h]
theorem chainI_step {f : List Int} (hf : ∀ i, i < f.length → -1 ≤ f.getD i 0 ∧ f.getD i 0 < i) {i : Nat} (h : i < f.length) : chainI f i = chainI f (f.getD i 0) ++ [i] := by
  unfold chainI
  rw [show chainF f (f.length + 1) (i : Int) = chainF f f.length (f.getD (i : Int).toNat 0) ++ [(i : Int).toNat] by
    rw [chainF, if_neg (by omega)]]
  have := hf i h
  rw [Int.toNat_natCast, chainF_fuel hf f.length (f.length + 1) (f.getD i 0) (by omega) (by omega) (by omega) (by omega)]
theorem chainI_lt {f : List Int} (hf : ∀ i, i < f.length → -1 ≤ f.getD i 0 ∧ f.getD i 0 < i) : ∀ (k : Nat) (i : Int), i < k → -1 ≤ i → i < f.length → (chainI f i).Pairwise (· < ·) ∧ ∀ x ∈ chainI f i, (x : Int) ≤ i
  | 0, i, h, _, _ => by rw [chainI_neg (by omega)]; exact ⟨List.Pairwise.nil, fun _ h => (List.not_mem_nil h).elim⟩
  | k + 1, i, h, h0, h1 => by
    by_cases hn : i < 0
    · rw [chainI_neg hn]; exact ⟨List.Pairwise.nil, fun _ h => (List.not_mem_nil h).elim⟩
    obtain ⟨j, rfl⟩ := Int.eq_ofNat_of_zero_le (show 0 ≤ i by omega)
    have hb := hf j (by omega)
    obtain ⟨h2, h3⟩ := chainI_lt hf k (f.getD j 0) (by omega) (by omega) (by omega)
    rw [chainI_step hf (by omega)]
    refine ⟨List.pairwise_append.2 ⟨h2, List.pairwise_singleton _ _, fun x hx y hy => ?_⟩, fun x hx => ?_⟩
    · obtain rfl := List.mem_singleton.1 hy
      have := h3 x hx
      omega
    · rcases List.mem_append.1 hx with hx | hx
      · have := h3 x hx; omega
      · obtain rfl := List.mem_singleton.1 hx; exact Int.le_refl _
/-- The chain by which an arc forces its opposite. -/
def chainX (rows : List Int) (a b : Int) : Option (List (List Int)) :=
  if [b, a] ∈ (forcedA rows a b).1 then some ((chainI (forcedA rows a b).2 (placeA (forcedA rows a b).1 [b, a])).map fun i => (forcedA rows a b).1.getD i []) else none
def chainK (rows : List Int) (es : List (List Int)) : Option (List (List Int)) := es.findSome? fun e => chainX rows (e.getD 0 0) (e.getD 1 0)
def forceX (size : Int) (rows : List Int) : Option (List (List Int)) := chainK rows (edgesL size rows)
theorem asc_len : ∀ (c : List Nat) (m : Nat), c.Pairwise (· < ·) → (∀ x ∈ c, m ≤ x ∧ x < 50) → c.length + m ≤ 50 ∨ c = []
  | [], _, _, _ => .inr rfl
  | x :: c, m, hp, h => by
    have h1 := List.pairwise_cons.1 hp
    have hx := h x (List.mem_cons_self ..)
    left
    rcases asc_len c (x + 1) h1.2 (fun y hy => ⟨h1.1 y hy, (h y (List.mem_cons_of_mem _ hy)).2⟩) with h2 | h2
    · simp only [List.length_cons]; omega
    · subst h2; simp only [List.length_cons, List.length_nil]; omega
theorem chainX_len {rows : List Int} {a b : Nat} (ha : a < rows.length) (hb : b < rows.length) (hn : rows.length ≤ 7) {L : List (List Int)} (h : chainX rows a b = some L) : L.length ≤ 50 ∧ ∀ e ∈ L, e.length = 2 := by
  have hab : arcN rows.length [(a : Int), (b : Int)] := ⟨a, b, rfl, ha, hb⟩
  have hok := forcedA_ok hab
  unfold chainX at h
  generalize forcedA rows a b = FA at *
  have hbd := hok.bound hn
  have hlen := hok.len
  have hpr := placeA_range FA.1 [(b : Int), (a : Int)]
  have hpm := placeA_mem FA.1 [(b : Int), (a : Int)]
  split at h
  · rename_i hm
    injection h with h
    subst h
    have h0 := hpm.2 hm
    obtain ⟨c1, c2⟩ := chainI_lt hok.back FA.2.length (placeA FA.1 [(b : Int), (a : Int)]) (by omega) (by omega) (by omega)
    refine ⟨?_, fun e he => ?_⟩
    · rw [List.length_map]
      rcases asc_len _ 0 c1 (fun x hx => by have := c2 x hx; omega) with h | h
      · omega
      · rw [h]; simp
    · obtain ⟨x, hx, rfl⟩ := List.mem_map.1 he
      have hx2 := c2 x hx
      obtain ⟨v, u, e1, _⟩ := hok.arc (FA.1.getD x []) (by
        have : x < FA.1.length := by omega
        simp [List.getD, this])
      rw [e1]; rfl
  · cases h
theorem force_bound (size : Int) (rows : List Int) : ((forceX size rows).getD []).length ≤ 1000 ∧ (((forceX size rows).getD []).map List.length).sum ≤ 100000 := by
  cases h : forceX size rows with
  | none => simp
  | some L =>
    unfold forceX chainK at h
    obtain ⟨e, he, h⟩ := List.exists_of_findSome?_eq_some h
    obtain ⟨a, b, rfl, hab, hb, hg, _⟩ := edges_mem he
    obtain ⟨n, _, hrl, _, hn7⟩ := isG_size hg
    obtain ⟨h1, h2⟩ := chainX_len (show a < rows.length by omega) hb (by omega) h
    show L.length ≤ 1000 ∧ (L.map List.length).sum ≤ 100000
    rw [sum_pairs L h2]
    omega
end Go.Pw
