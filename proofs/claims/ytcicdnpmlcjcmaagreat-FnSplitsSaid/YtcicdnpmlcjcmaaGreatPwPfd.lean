/- The plain mathematics of degrees: Hammer and Simeone, and twice the edges. -/
import Derived.Test.YtcicdnpmlcjcmaaGreatPwPfs
import Derived.Test.YtcicdnpmlcjcmaaGreatPwPgp
import Derived.Test.YtcicdnpmlcjcmaaGreatPwPed
namespace Go.Pw
open Go
/-- Pairs from one list to another that stand in a relation. -/
def eeL (E : Nat → Nat → Bool) (A B : List Nat) : Nat := (A.map fun x => B.countP (E x)).sum
theorem eeL_swap (E : Nat → Nat → Bool) (B : List Nat) : ∀ A : List Nat, eeL E A B = eeL (fun y x => E x y) B A
  | [] => by
    unfold eeL
    induction B with
    | nil => rfl
    | cons b B ih => simp at ih ⊢; exact ih
  | a :: A => by
    have ih := eeL_swap E B A
    have e1 : eeL E (a :: A) B = B.countP (E a) + eeL E A B := by simp [eeL]
    have e2 : ∀ B : List Nat, eeL (fun y x => E x y) B (a :: A) = B.countP (E a) + eeL (fun y x => E x y) B A := fun B => by
      induction B with
      | nil => rfl
      | cons b B ih =>
        have h1 : eeL (fun y x => E x y) (b :: B) (a :: A) = (a :: A).countP (fun x => E x b) + eeL (fun y x => E x y) B (a :: A) := by simp [eeL]
        have h2 : eeL (fun y x => E x y) (b :: B) A = A.countP (fun x => E x b) + eeL (fun y x => E x y) B A := by simp [eeL]
        rw [h1, h2, ih, List.countP_cons, List.countP_cons]
        omega
    rw [e1, e2, ih]
theorem eeL_append (E : Nat → Nat → Bool) (A B C : List Nat) : eeL E A (B ++ C) = eeL E A B + eeL E A C := by
  unfold eeL
  induction A with
  | nil => rfl
  | cons a A ih =>
    simp only [List.map_cons, List.sum_cons, List.countP_append] at ih ⊢
    omega
theorem count_self {p : Nat → Bool} {x : Nat} {A : List Nat} (hx : x ∈ A) (hp : p x = false) : A.countP p + 1 ≤ A.length := by
  have h := List.length_eq_countP_add_countP p (l := A)
  have : 0 < A.countP (fun a => decide ¬ p a = true) := List.countP_pos_iff.2 ⟨x, hx, by simp [hp]⟩
  omega
/-- A list of different vertices: at most all pairs, exactly for a clique. -/
theorem eeL_le {E : Nat → Nat → Bool} {L : Nat} : ∀ (A B : List Nat), B.length = L → (∀ x ∈ A, B.countP (E x) + 1 ≤ L) → eeL E A B + A.length ≤ A.length * L
  | [], _, _, _ => by simp [eeL]
  | a :: A, B, hL, h => by
    have ih := eeL_le A B hL fun x hx => h x (List.mem_cons_of_mem _ hx)
    have ha := h a (List.mem_cons_self ..)
    have e1 : eeL E (a :: A) B = B.countP (E a) + eeL E A B := by simp [eeL]
    rw [e1, List.length_cons, Nat.succ_mul]
    omega
theorem eeL_all {E : Nat → Nat → Bool} {L : Nat} : ∀ (A B : List Nat), B.length = L → (∀ x ∈ A, B.countP (E x) + 1 ≤ L) → A.length * L ≤ eeL E A B + A.length → ∀ x ∈ A, L ≤ B.countP (E x) + 1
  | [], _, _, _, _, _, hx => by cases hx
  | a :: A, B, hL, h, hs, x, hx => by
    have ih := eeL_le A B hL fun x hx => h x (List.mem_cons_of_mem _ hx)
    have ha := h a (List.mem_cons_self ..)
    have e1 : eeL E (a :: A) B = B.countP (E a) + eeL E A B := by simp [eeL]
    rw [e1, List.length_cons, Nat.succ_mul] at hs
    rcases List.mem_cons.1 hx with rfl | hx
    · omega
    · exact eeL_all A B hL (fun x hx => h x (List.mem_cons_of_mem _ hx)) (by omega) x hx
theorem eeL_eq {E : Nat → Nat → Bool} {L : Nat} : ∀ (A B : List Nat), (∀ x ∈ A, B.countP (E x) + 1 = L) → eeL E A B + A.length = A.length * L
  | [], _, _ => by simp [eeL]
  | a :: A, B, h => by
    have ih := eeL_eq A B fun x hx => h x (List.mem_cons_of_mem _ hx)
    have ha := h a (List.mem_cons_self ..)
    have e1 : eeL E (a :: A) B = B.countP (E a) + eeL E A B := by simp [eeL]
    rw [e1, List.length_cons, Nat.succ_mul]
    omega
theorem eeL_zero {E : Nat → Nat → Bool} {A B : List Nat} : eeL E A B = 0 ↔ ∀ x ∈ A, ∀ y ∈ B, E x y = false := by
  unfold eeL
  rw [List.sum_eq_zero_iff_forall_eq_nat]
  constructor
  · intro h x hx y hy
    have := h _ (List.mem_map.2 ⟨x, hx, rfl⟩)
    rw [List.countP_eq_zero] at this
    simpa using this y hy
  · intro h c hc
    obtain ⟨x, hx, rfl⟩ := List.mem_map.1 hc
    rw [List.countP_eq_zero]
    intro y hy
    rw [h x hx y hy]; exact Bool.false_ne_true
/-- The pairs within a clique, and the other way round. -/
theorem ee_clique {E : Nat → Nat → Bool} (hirr : ∀ x, E x x = false) {A : List Nat} (hA : A.Nodup) : (eeL E A A + A.length ≤ A.length * A.length) ∧ (eeL E A A + A.length = A.length * A.length ↔ ∀ x ∈ A, ∀ y ∈ A, x ≠ y → E x y = true) := by
  have hle : ∀ x ∈ A, A.countP (E x) + 1 ≤ A.length := fun x hx => count_self hx (hirr x)
  refine ⟨eeL_le A A rfl hle, ?_, ?_⟩
  · intro h x hx y hy hne
    have h1 := eeL_all A A rfl hle (by omega) x hx
    have h2 : A.countP (fun y => decide (y ≠ x)) + 1 ≤ A.length := count_self hx (by simp)
    refine count_backS A (p := E x) (q := fun y => decide (y ≠ x)) (fun y _ hxy => ?_) (by omega) y hy (by simpa using fun e => hne e.symm)
    have : y ≠ x := fun e => by subst e; rw [hirr] at hxy; cases hxy
    simp [this]
  · intro h
    refine eeL_eq A A fun x hx => ?_
    have h1 : A.countP (E x) = A.countP (fun y => decide (y ≠ x)) := by
      refine List.countP_congr fun y hy => ?_
      constructor
      · intro hxy
        have : y ≠ x := fun e => by subst e; rw [hirr] at hxy; cases hxy
        simp [this]
      · intro hne
        exact h x hx y hy (fun e => by subst e; simp at hne)
    have h2 := List.length_eq_countP_add_countP (fun y => decide (y ≠ x)) (l := A)
    have h3 : A.countP (fun a => decide ¬ (decide (a ≠ x) = true)) = A.count x := by
      unfold List.count
      refine List.countP_congr fun y _ => ?_
      simp
    have h4 := List.nodup_iff_count.1 hA x
    have h5 : 0 < A.count x := List.count_pos_iff.2 hx
    omega
/-- Sums of the first and of the others. -/
theorem hiU_split {A B : List Int} : ∀ k, k ≤ (A ++ B).length → hiU (A ++ B) A.length k = (A.take k).sum ∧ loU (A ++ B) A.length k = (B.take (k - A.length)).sum
  | 0, _ => by simp [hiU, loU]
  | k + 1, hk => by
    obtain ⟨h1, h2⟩ := hiU_split (A := A) (B := B) k (by omega)
    rw [List.length_append] at hk
    unfold hiU loU
    by_cases h : k < A.length
    · rw [if_pos (by omega), if_pos (by omega), h1, h2]
      refine ⟨?_, by rw [show k + 1 - A.length = 0 by omega, show k - A.length = 0 by omega]⟩
      rw [List.take_add_one, List.sum_append]
      simp [List.getD, List.getElem?_append_left h, h]
    · rw [if_neg (by omega), if_neg (by omega), h1, h2]
      refine ⟨by rw [List.take_of_length_le (by omega), List.take_of_length_le (by omega)], ?_⟩
      rw [show k + 1 - A.length = (k - A.length) + 1 by omega, List.take_add_one, List.sum_append]
      have hb : k - A.length < B.length := by omega
      simp [List.getD, List.getElem?_append_right (show A.length ≤ k by omega), hb]
theorem sum_cast (l : List Nat) (f : Nat → Nat) : (l.map fun v => (f v : Int)).sum = ((l.map f).sum : Nat) := by
  induction l with
  | nil => rfl
  | cons a l ih => simp only [List.map_cons, List.sum_cons, ih]; push_cast; rfl
/-- The degree of a vertex. -/
theorem deg_count {rows : List Int} {n : Nat} (hg : IsG n rows) (v : Nat) : cntS (rows.getD v 0) = ((List.range n).countP (eN (rowN rows) v) : Nat) := by
  have hr := ng_of hg rfl
  have h7 := pow_le7 hr.le
  have hn7 := hr.le
  have hlt := hr.lt v
  unfold cntS
  rw [rowN_eq hg v, listS_nat (by omega), List.length_map, ← List.countP_eq_length_filter]
  congr 1
  have e : List.range 7 = List.range n ++ (List.range (7 - n)).map (fun x => n + x) := by rw [← List.range_add]; congr 1; omega
  rw [e, List.countP_append]
  have : ((List.range (7 - n)).map (fun x => n + x)).countP (fun y => (rowN rows v).testBit y) = 0 := by
    rw [List.countP_eq_zero]
    intro y hy h
    obtain ⟨x, _, rfl⟩ := List.mem_map.1 hy
    have := has_lt hlt h
    omega
  rw [this]; rfl
/-- Any order of the vertices by falling degrees gives the list of degrees. -/
theorem degL_order {rows : List Int} {n : Nat} (hg : IsG n rows) {o : List Nat} (ho : o.Perm (List.range n)) (hd : o.Pairwise fun a b => (List.range n).countP (eN (rowN rows) b) ≤ (List.range n).countP (eN (rowN rows) a)) :
    degL n rows = o.map fun v => (((List.range n).countP (eN (rowN rows) v) : Nat) : Int) := by
  obtain ⟨m, hm, hrl, _, _⟩ := isG_size hg
  obtain rfl : n = m := by omega
  unfold degL
  rw [if_pos hg, ← List.reverse_reverse (o.map _)]
  congr 1
  refine perm_sorted_eq _ _ ?_ (sortI_sorted _) ?_
  · refine (sortI_perm _).trans ?_
    refine List.Perm.trans ?_ (List.reverse_perm _).symm
    unfold degU
    rw [hrl, show (fun i => cntS (rows.getD i 0)) = (fun v => (((List.range n).countP (eN (rowN rows) v) : Nat) : Int)) from funext fun v => deg_count hg v]
    exact (ho.symm.map _)
  · rw [List.pairwise_reverse, List.pairwise_map]
    exact hd.imp fun h => by omega
/-- With such an order cut in two: the criterion says that the first are a clique and the others independent. -/
theorem sbd_cut {rows : List Int} {n : Nat} (hg : IsG n rows) {A B : List Nat} (ho : (A ++ B).Perm (List.range n)) (hd : degL n rows = (A ++ B).map fun v => (((List.range n).countP (eN (rowN rows) v) : Nat) : Int)) (hm : mL (degL n rows) = A.length) :
    sbdP n rows ↔ (∀ x ∈ A, ∀ y ∈ A, x ≠ y → eN (rowN rows) x y = true) ∧ ∀ x ∈ B, ∀ y ∈ B, eN (rowN rows) x y = false := by
  have hs := eN_sym hg rfl
  have hA : A.Nodup := (List.nodup_append.1 (ho.nodup_iff.2 List.nodup_range)).1
  have hcnt : ∀ v, (List.range n).countP (eN (rowN rows) v) = (A ++ B).countP (eN (rowN rows) v) := fun v => (ho.countP_eq _).symm
  unfold sbdP
  rw [hm, hd, List.map_append]
  have h1 := hiU_split (A := A.map fun v => (((List.range n).countP (eN (rowN rows) v) : Nat) : Int)) (B := B.map fun v => (((List.range n).countP (eN (rowN rows) v) : Nat) : Int)) _ (Nat.le_refl _)
  rw [List.length_map] at h1
  obtain ⟨h1, h2⟩ := h1
  rw [h1, h2, List.take_of_length_le (by simp), List.take_of_length_le (by simp), sum_cast, sum_cast]
  have sA : (A.map fun v => (List.range n).countP (eN (rowN rows) v)).sum = eeL (eN (rowN rows)) A A + eeL (eN (rowN rows)) A B := by
    rw [← eeL_append]; unfold eeL; congr 1; exact List.map_congr_left fun v _ => hcnt v
  have sB : (B.map fun v => (List.range n).countP (eN (rowN rows) v)).sum = eeL (eN (rowN rows)) B A + eeL (eN (rowN rows)) B B := by
    rw [← eeL_append]; unfold eeL; congr 1; exact List.map_congr_left fun v _ => hcnt v
  have sw : eeL (eN (rowN rows)) B A = eeL (eN (rowN rows)) A B := by
    rw [eeL_swap]
    congr 1
    funext y x
    exact hs x y
  rw [sA, sB, sw]
  obtain ⟨c1, c2⟩ := ee_clique (eN_out hg) hA
  rw [← c2, ← eeL_zero (A := B) (B := B)]
  have hsq : (A.length : Int) * ((A.length : Int) - 1) = ((A.length * A.length : Nat) : Int) - A.length := by push_cast; rw [Int.mul_sub, Int.mul_one]
  rw [hsq]
  constructor
  · rintro ⟨_, h⟩
    exact ⟨by omega, by omega⟩
  · rintro ⟨h3, h4⟩
    exact ⟨hg, by omega⟩
theorem clique_count {E : Nat → Nat → Bool} (hirr : ∀ x, E x x = false) {A : List Nat} (hA : A.Nodup) (h : ∀ x ∈ A, ∀ y ∈ A, x ≠ y → E x y = true) {x : Nat} (hx : x ∈ A) : A.countP (E x) + 1 = A.length := by
  have hle : ∀ x ∈ A, A.countP (E x) + 1 ≤ A.length := fun x hx => count_self hx (hirr x)
  obtain ⟨c1, c2⟩ := ee_clique hirr hA
  have := eeL_all A A rfl hle (Nat.le_of_eq (c2.2 h).symm) x hx
  have := hle x hx
  omega
/-- An order by falling degrees. -/
theorem fall_order (f : Nat → Nat) (l : List Nat) : ∃ o : List Nat, o.Perm l ∧ o.Pairwise fun a b => f b ≤ f a := by
  refine ⟨l.mergeSort (fun a b => decide (f b ≤ f a)), List.mergeSort_perm _ _, ?_⟩
  have := List.pairwise_mergeSort (le := fun a b => decide (f b ≤ f a)) (fun a b c h1 h2 => by simp at *; omega) (fun a b => by simp; omega) l
  exact this.imp fun h => by simpa using h
theorem mU_at {d : List Int} {k : Nat} (hk : 1 ≤ k) (h1 : d.getD (k - 1) 0 ≥ ((k - 1 : Nat) : Int)) (h2 : ∀ i, k ≤ i → d.getD i 0 < i) : ∀ j, k ≤ j → mU d j = k
  | 0, h => by omega
  | j + 1, h => by
    unfold mU
    by_cases e : k = j + 1
    · subst e
      rw [if_pos (by simpa using h1)]; push_cast; rfl
    · rw [if_neg (by have := h2 j (by omega); omega)]
      exact mU_at hk h1 h2 j (by omega)
/-- Hammer and Simeone. -/
theorem sbd_iff {rows : List Int} {n : Nat} (hg : IsG n rows) : sbdP n rows ↔ isSp n rows = true := by
  have hr := ng_of hg rfl
  have hs := eN_sym hg rfl
  have hn7 := hr.le
  rw [isSp_iff hg]
  constructor
  · intro h
    obtain ⟨o, o1, o2⟩ := fall_order (fun v => (List.range n).countP (eN (rowN rows) v)) (List.range n)
    have hd := degL_order hg o1 o2
    have hol : o.length = n := by rw [o1.length_eq, List.length_range]
    have hdl : (degL n rows).length = n := by rw [hd, List.length_map, hol]
    have hrg := mU_range (degL n rows) (degL n rows).length
    obtain ⟨m, hm⟩ := Int.eq_ofNat_of_zero_le (show 0 ≤ mL (degL n rows) from hrg.1)
    have hmn : m ≤ n := by unfold mL at hm; omega
    have hta : o.take m ++ o.drop m = o := List.take_append_drop m o
    have hc := (sbd_cut hg (A := o.take m) (B := o.drop m) (by rw [hta]; exact o1) (by rw [hta]; exact hd) (by rw [hm, List.length_take]; omega)).1 h
    have hmem : ∀ x, x < n → x ∈ o := fun x hx => o1.mem_iff.2 (List.mem_range.2 hx)
    refine ⟨maskU (fun x => decide (x ∈ o.take m)) n, maskU_lt _ _, fun x y hx hy hne => ?_, fun x y hx hy kx ky => ?_⟩
    · rw [maskU_bit] at hx hy
      simp only [Bool.and_eq_true, decide_eq_true_eq] at hx hy
      exact hc.1 x hx.2 y hy.2 hne
    · rw [maskU_bit, decide_eq_true hx, Bool.true_and, decide_eq_false_iff_not] at kx
      rw [maskU_bit, decide_eq_true hy, Bool.true_and, decide_eq_false_iff_not] at ky
      have mx := hmem x hx
      have my := hmem y hy
      rw [← hta, List.mem_append] at mx my
      exact hc.2 x (mx.resolve_left kx) y (my.resolve_left ky)
  · rintro ⟨K0, p1, p2, p3⟩
    have hpos : 0 < 2 ^ n := Nat.pow_pos (by omega)
    obtain ⟨K, k1, ⟨k2, k3⟩, k4⟩ := mostS (p := fun K => clqM (eN (rowN rows)) K ∧ ∀ x y, x < n → y < n → K.testBit x = false → K.testBit y = false → eN (rowN rows) x y = false) (fun K => wSum (fun _ => 1) K.testBit 7) (2 ^ n) ⟨K0, p1, p2, p3⟩
    have hKn : ∀ i, K.testBit i = true → i < n := fun i hi => has_lt k1 hi
    have hmax : ∀ u, u < n → K.testBit u = false → ∃ z, K.testBit z = true ∧ eN (rowN rows) u z = false := fun u hu hku => by
      apply Classical.byContradiction
      intro hno
      have hall : ∀ z, K.testBit z = true → eN (rowN rows) u z = true := fun z hz => by
        cases h : eN (rowN rows) u z with
        | true => rfl
        | false => exact absurd ⟨z, hz, h⟩ hno
      have hb : ∀ i, (maskU (fun v => K.testBit v || decide (v = u)) n).testBit i = (K.testBit i || decide (i = u)) := fun i => by
        rw [maskU_bit]
        by_cases hi : i < n
        · rw [decide_eq_true hi]; rfl
        · have h1 : K.testBit i = false := by
            cases h : K.testBit i with
            | false => rfl
            | true => exact absurd (hKn i h) hi
          rw [decide_eq_false hi, h1, decide_eq_false (by omega)]; rfl
      have := k4 _ (maskU_lt (fun v => K.testBit v || decide (v = u)) n) ⟨fun x y hx hy hne => by
        rw [hb] at hx hy
        simp only [Bool.or_eq_true, decide_eq_true_eq] at hx hy
        rcases hx with hx | rfl <;> rcases hy with hy | rfl
        · exact k2 x y hx hy hne
        · rw [hs]; exact hall x hx
        · exact hall y hy
        · exact absurd rfl hne, fun x y hx hy kx ky => by
        rw [hb, Bool.or_eq_false_iff] at kx ky
        exact k3 x y hx hy kx.1 ky.1⟩
      rw [wSum_congr (q := fun v => K.testBit v || decide (v = u)) 7 fun v _ => hb v, wSum_add hku 7 (by omega)] at this
      omega
    obtain ⟨A, a1, a2⟩ := fall_order (fun v => (List.range n).countP (eN (rowN rows) v)) ((List.range n).filter K.testBit)
    obtain ⟨B, b1, b2⟩ := fall_order (fun v => (List.range n).countP (eN (rowN rows) v)) ((List.range n).filter fun v => !K.testBit v)
    have ho : (A ++ B).Perm (List.range n) := (a1.append b1).trans (List.filter_append_perm _ _)
    have hmA : ∀ x, x ∈ A ↔ K.testBit x = true := fun x => by
      rw [a1.mem_iff, List.mem_filter, List.mem_range]
      exact ⟨fun h => h.2, fun h => ⟨hKn x h, h⟩⟩
    have hmB : ∀ x, x ∈ B ↔ x < n ∧ K.testBit x = false := fun x => by
      rw [b1.mem_iff, List.mem_filter, List.mem_range, Bool.not_eq_true']
    have hA : A.Nodup := (List.nodup_append.1 (ho.nodup_iff.2 List.nodup_range)).1
    have hcl : ∀ x ∈ A, ∀ y ∈ A, x ≠ y → eN (rowN rows) x y = true := fun x hx y hy hne => k2 x y ((hmA x).1 hx) ((hmA y).1 hy) hne
    have hin : ∀ x ∈ B, ∀ y ∈ B, eN (rowN rows) x y = false := fun x hx y hy => k3 x y ((hmB x).1 hx).1 ((hmB y).1 hy).1 ((hmB x).1 hx).2 ((hmB y).1 hy).2
    have hcnt : ∀ v, (List.range n).countP (eN (rowN rows) v) = A.countP (eN (rowN rows) v) + B.countP (eN (rowN rows) v) := fun v => by rw [← ho.countP_eq, List.countP_append]
    have dA : ∀ x ∈ A, A.length ≤ (List.range n).countP (eN (rowN rows) x) + 1 := fun x hx => by
      have := clique_count (eN_out hg) hA hcl hx
      rw [hcnt]; omega
    have dB : ∀ x ∈ B, (List.range n).countP (eN (rowN rows) x) + 1 ≤ A.length := fun x hx => by
      obtain ⟨z, z1, z2⟩ := hmax x ((hmB x).1 hx).1 ((hmB x).1 hx).2
      have h1 := count_self ((hmA z).2 z1) z2
      have h2 : B.countP (eN (rowN rows) x) = 0 := by
        rw [List.countP_eq_zero]
        intro y hy
        rw [hin x hx y hy]; exact Bool.false_ne_true
      rw [hcnt]; omega
    have hd := degL_order hg ho (List.pairwise_append.2 ⟨a2, b2, fun a ha b hb => by have := dA a ha; have := dB b hb; omega⟩)
    obtain ⟨_, hm0, _, hn1, _⟩ := isG_size hg
    have hA1 : 1 ≤ A.length := by
      cases h : K.testBit 0 with
      | true => exact List.length_pos_of_mem ((hmA 0).2 h)
      | false =>
        obtain ⟨z, z1, _⟩ := hmax 0 (by omega) h
        exact List.length_pos_of_mem ((hmA z).2 z1)
    have hget : ∀ i, (hi : i < (A ++ B).length) → (degL n rows).getD i 0 = (((List.range n).countP (eN (rowN rows) (A ++ B)[i]) : Nat) : Int) := fun i hi => by
      rw [hd]; simp only [List.getD, List.getElem?_map, List.getElem?_eq_getElem hi]; rfl
    have hlen : (degL n rows).length = (A ++ B).length := by rw [hd, List.length_map]
    have hm : mL (degL n rows) = A.length := by
      unfold mL
      refine mU_at hA1 ?_ (fun i hi => ?_) _ (by rw [hlen, List.length_append]; omega)
      · have hi : A.length - 1 < (A ++ B).length := by rw [List.length_append]; omega
        rw [hget _ hi]
        have hmem : (A ++ B)[A.length - 1] ∈ A := by
          rw [List.getElem_append_left (by omega)]; exact List.getElem_mem _
        have := dA _ hmem
        omega
      · by_cases hil : i < (A ++ B).length
        · rw [hget _ hil]
          have hmem : (A ++ B)[i] ∈ B := by
            rw [List.getElem_append_right (by omega)]; exact List.getElem_mem _
          have := dB _ hmem
          omega
        · have : (degL n rows).getD i 0 = 0 := by simp [List.getD, List.getElem?_eq_none (show (degL n rows).length ≤ i by omega)]
          omega
    exact (sbd_cut hg ho hd hm).2 ⟨hcl, hin⟩
theorem sbd_eq (size : Int) (rows : List Int) : decide (sbdP size rows) = isSp size rows := by
  by_cases hg : IsG size rows
  · obtain ⟨n, rfl, _, _, _⟩ := isG_size hg
    rw [Bool.eq_iff_iff, decide_eq_true_iff]
    exact sbd_iff hg
  · rw [isSp_no hg]
    exact decide_eq_false fun h => hg h.1
/-- The sum of the first k. -/
def sumU (d : List Int) : Nat → Int
  | 0 => 0
  | k + 1 => sumU d k + d.getD k 0
theorem sumU_take (d : List Int) : ∀ k, k ≤ d.length → sumU d k = (d.take k).sum
  | 0, _ => by simp [sumU]
  | k + 1, h => by
    rw [sumU, sumU_take d k (by omega), List.take_add_one, List.sum_append]
    simp [List.getD, show k < d.length by omega]
theorem sumU_bound {d : List Int} (hd : ∀ i, 0 ≤ d.getD i 0 ∧ d.getD i 0 ≤ 7) : ∀ k : Nat, 0 ≤ sumU d k ∧ sumU d k ≤ 7 * k
  | 0 => by simp [sumU]
  | k + 1 => by
    have := sumU_bound hd k
    have := hd k
    unfold sumU
    omega
theorem sum_perm {l m : List Int} (h : l.Perm m) : l.sum = m.sum := by
  induction h with
  | nil => rfl
  | cons x _ ih => simp [ih]
  | swap x y l => simp only [List.sum_cons]; omega
  | trans _ _ h1 h2 => rw [h1, h2]
theorem ee_halves (E : Nat → Nat → Bool) (hirr : ∀ x, E x x = false) (B : List Nat) : ∀ A, eeL E A B = eeL (fun v u => decide (v < u) && E v u) A B + eeL (fun v u => decide (u < v) && E v u) A B
  | [] => rfl
  | a :: A => by
    have ih := ee_halves E hirr B A
    have e : ∀ F : Nat → Nat → Bool, eeL F (a :: A) B = B.countP (F a) + eeL F A B := fun F => by simp [eeL]
    have hc : ∀ B : List Nat, B.countP (E a) = B.countP (fun u => decide (a < u) && E a u) + B.countP (fun u => decide (u < a) && E a u) := fun B => by
      induction B with
      | nil => rfl
      | cons b B ih =>
        rw [List.countP_cons, List.countP_cons, List.countP_cons, ih]
        rcases Nat.lt_trichotomy a b with h | rfl | h
        · rw [decide_eq_true h, decide_eq_false (show ¬ b < a by omega)]
          simp; omega
        · rw [hirr]; simp
        · rw [decide_eq_true h, decide_eq_false (show ¬ a < b by omega)]
          simp; omega
    rw [e, e, e, ih, hc]
    omega
/-- Twice the edges. -/
theorem hand_shake (size : Int) (rows : List Int) : sumU (degL size rows) (degL size rows).length = 2 * ((edgesL size rows).length : Int) := by
  rw [sumU_take _ _ (Nat.le_refl _), List.take_of_length_le (Nat.le_refl _)]
  by_cases hg : IsG size rows
  case neg =>
    unfold degL edgesL
    rw [if_neg hg, if_neg hg]; rfl
  obtain ⟨n, rfl, hrl, _, _⟩ := isG_size hg
  have hs := eN_sym hg rfl
  have e1 : (degL n rows).sum = ((eeL (eN (rowN rows)) (List.range n) (List.range n) : Nat) : Int) := by
    unfold degL
    rw [if_pos hg, sum_perm (List.reverse_perm _), sum_perm (sortI_perm _)]
    unfold degU
    rw [hrl, show (fun i => cntS (rows.getD i 0)) = (fun v => (((List.range n).countP (eN (rowN rows) v) : Nat) : Int)) from funext fun v => deg_count hg v, sum_cast]
    rfl
  have e2 : (edgesL n rows).length = eeL (fun v u => decide (v < u) && eN (rowN rows) v u) (List.range n) (List.range n) := by
    unfold edgesL edU eeL
    rw [if_pos hg, List.length_flatMap, hrl]
    congr 1
    refine List.map_congr_left fun v _ => ?_
    unfold edRow
    rw [List.length_map, ← List.countP_eq_length_filter]
    refine List.countP_congr fun u hu => ?_
    rw [hasB_eN hg v u (List.mem_range.1 hu)]
  have e3 := ee_halves (eN (rowN rows)) (eN_out hg) (List.range n) (List.range n)
  have e4 : eeL (fun v u => decide (u < v) && eN (rowN rows) v u) (List.range n) (List.range n) = eeL (fun v u => decide (v < u) && eN (rowN rows) v u) (List.range n) (List.range n) := by
    rw [eeL_swap]
    congr 1
    funext y x
    rw [hs x y]
  rw [e1, e2]
  omega
end Go.Pw
