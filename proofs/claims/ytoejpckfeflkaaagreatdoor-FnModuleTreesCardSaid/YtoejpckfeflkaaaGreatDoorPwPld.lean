/- The plain mathematics of lists of different vertices. -/
import Derived.Test.YtoejpckfeflkaaaGreatDoorPwPlc
namespace Go.Pw
open Go

/-- The first place of a number in a list, -1 if it is not there. -/
def placeL : List Int → Int → Int
  | [], _ => -1
  | y :: r, x => if y = x then 0 else if placeL r x < 0 then -1 else placeL r x + 1
theorem placeL_none : ∀ (l : List Int) (x : Int), (∀ i, i < l.length → l.getD i 0 ≠ x) → placeL l x = -1
  | [], _, _ => rfl
  | y :: r, x, h => by
    have h0 : y ≠ x := h 0 (by simp)
    have h1 := placeL_none r x fun i hi => h (i + 1) (by simp; omega)
    unfold placeL
    rw [if_neg h0, h1]; rfl
theorem placeL_some : ∀ (l : List Int) (x : Int) (k : Nat), k < l.length → l.getD k 0 = x → (∀ i, i < k → l.getD i 0 ≠ x) → placeL l x = k
  | [], _, _, h, _, _ => by simp at h
  | y :: r, x, 0, _, h, _ => by
    have h' : y = x := h
    unfold placeL; rw [if_pos h']; rfl
  | y :: r, x, k + 1, hk, h, hb => by
    have h0 : y ≠ x := hb 0 (by omega)
    have h1 := placeL_some r x k (by simpa using hk) h fun i hi => hb (i + 1) (by omega)
    unfold placeL
    rw [if_neg h0, h1, if_neg (by omega)]; push_cast; try rfl
theorem placeL_range (l : List Int) (x : Int) : -1 ≤ placeL l x ∧ placeL l x < l.length := by
  induction l with
  | nil => simp [placeL]
  | cons y r ih =>
    unfold placeL
    simp only [List.length_cons]
    split
    · omega
    · split <;> omega
theorem placeL_mem (l : List Int) (x : Int) : 0 ≤ placeL l x ↔ x ∈ l := by
  induction l with
  | nil => simp [placeL]
  | cons y r ih =>
    unfold placeL
    rw [List.mem_cons]
    have hr := placeL_range r x
    split
    · next h => simp [h]
    · next h =>
      have h' : ¬ x = y := fun e => h e.symm
      simp only [h', false_or, ← ih]
      split <;> omega
theorem placeL_get (l : List Int) (x : Int) (h : x ∈ l) : l.getD (placeL l x).toNat 0 = x := by
  induction l with
  | nil => simp at h
  | cons y r ih =>
    unfold placeL
    split
    · next e => simpa using e
    · next e =>
      have hr : x ∈ r := by
        rcases List.mem_cons.1 h with rfl | h
        · exact absurd rfl e
        · exact h
      have h0 := (placeL_mem r x).2 hr
      rw [if_neg (by omega)]
      have : (placeL r x + 1).toNat = (placeL r x).toNat + 1 := by omega
      rw [this]
      simpa using ih hr
theorem mem_take {l : List Int} {k : Nat} {x : Int} (hk : k ≤ l.length) : x ∈ l.take k ↔ ∃ i, i < k ∧ l.getD i 0 = x := by
  constructor
  · intro h
    obtain ⟨i, hi, e⟩ := mem_getD h
    rw [List.length_take] at hi
    refine ⟨i, by omega, ?_⟩
    rw [← e]
    simp only [List.getD, List.getElem?_take]
    rw [if_pos (by omega)]
  · rintro ⟨i, hi, rfl⟩
    have hlt : i < (l.take k).length := by rw [List.length_take]; omega
    have : (l.take k).getD i 0 = l.getD i 0 := by simp only [List.getD, List.getElem?_take]; rw [if_pos hi]
    rw [← this]; exact getD_mem hlt

/-- Different vertices of a graph. -/
def apartL (l : List Int) : Prop := ∀ i, i < l.length → ∀ j, j < i → l.getD j 0 ≠ l.getD i 0
instance (l : List Int) : Decidable (apartL l) := by unfold apartL; infer_instance
def inL (lo hi : Int) (l : List Int) : Prop := ∀ i, i < l.length → lo ≤ l.getD i 0 ∧ l.getD i 0 ≤ hi
instance (lo hi : Int) (l : List Int) : Decidable (inL lo hi l) := by unfold inL; infer_instance
def distinctP (size : Int) (rows l : List Int) : Prop := IsG size rows ∧ inL 0 (size - 1) l ∧ apartL l
instance (size : Int) (rows l : List Int) : Decidable (distinctP size rows l) := by unfold distinctP; infer_instance

/-- The set of the first k members. -/
def setU (l : List Int) : Nat → Int
  | 0 => 0
  | k + 1 => setU l k + ishl 1 (l.getD k 0)
theorem add_pow_nat : ∀ x : Fin 7, ∀ a : Fin 128, a.val.testBit x.val = false → a.val + 2 ^ x.val = a.val ||| 2 ^ x.val := by decide +kernel
/-- So far all are in range and different: the set's members are those. -/
theorem setU_nat (l : List Int) : ∀ k : Nat, (∀ i, i < k → 0 ≤ l.getD i 0 ∧ l.getD i 0 ≤ 6) → (∀ i, i < k → ∀ j, j < i → l.getD j 0 ≠ l.getD i 0) →
    ∃ S : Nat, setU l k = S ∧ S < 128 ∧ ∀ x : Nat, x ≤ 63 → (S.testBit x = true ↔ ∃ i, i < k ∧ l.getD i 0 = x)
  | 0, _, _ => ⟨0, rfl, by omega, fun x _ => by simp⟩
  | k + 1, h1, h2 => by
    obtain ⟨S, e1, e2, e3⟩ := setU_nat l k (fun i hi => h1 i (by omega)) (fun i hi => h2 i (by omega))
    have hk := h1 k (by omega)
    obtain ⟨y, hy⟩ := Int.eq_ofNat_of_zero_le hk.1
    have hno : S.testBit y = false := by
      rw [← Bool.not_eq_true, e3 y (by omega)]
      rintro ⟨i, hi, e⟩
      exact h2 k (by omega) i hi (by rw [e, hy])
    have h3 := add_pow_nat ⟨y, by omega⟩ ⟨S, e2⟩ hno
    dsimp only at h3
    have h4 := Nat.or_lt_two_pow (n := 7) (x := S) (y := 2 ^ y) (by omega) (Nat.pow_lt_pow_right (by omega) (by omega))
    refine ⟨S ||| 2 ^ y, ?_, by omega, fun x hx => ?_⟩
    · unfold setU
      rw [e1, hy]
      have := ishl_one_nat (v := y) (by omega)
      show (S : Int) + ishl 1 (y : Int) = _
      rw [this, ← h3]; push_cast; try rfl
    · rw [Nat.testBit_or, Bool.or_eq_true, e3 x hx, Nat.testBit_two_pow]
      constructor
      · rintro (⟨i, hi, e⟩ | h)
        · exact ⟨i, by omega, e⟩
        · exact ⟨k, by omega, by rw [hy]; simp at h; rw [h]; try rfl⟩
      · rintro ⟨i, hi, e⟩
        by_cases hik : i < k
        · exact .inl ⟨i, hik, e⟩
        · obtain rfl : i = k := by omega
          right
          rw [hy] at e
          simp; exact Int.ofNat.inj e
def okS (l : List Int) : Prop := inL 0 6 l ∧ apartL l
instance (l : List Int) : Decidable (okS l) := by unfold okS; infer_instance
def setX (l : List Int) : Int := if okS l then setU l l.length else 0
theorem setX_lt {l : List Int} {n : Nat} (hn7 : n ≤ 7) (h : okS l) : (0 ≤ setX l ∧ setX l < ishl 1 n) ↔ inL 0 ((n : Int) - 1) l := by
  obtain ⟨S, e1, e2, e3⟩ := setU_nat l l.length h.1 h.2
  rw [setX, if_pos h, e1, ishl_one_nat (by omega)]
  constructor
  · rintro ⟨_, hlt⟩ i hi
    have hin := h.1 i hi
    obtain ⟨y, hy⟩ := Int.eq_ofNat_of_zero_le hin.1
    have hb := (e3 y (by omega)).2 ⟨i, hi, hy⟩
    have := has_lt (s := S) (v := y) (n := n) (by omega) hb
    omega
  · intro hin
    refine ⟨by omega, ?_⟩
    have : S < 2 ^ n := by
      refine Nat.lt_pow_two_of_testBit S fun x hx => ?_
      by_cases hx63 : x ≤ 63
      · rw [← Bool.not_eq_true, e3 x hx63]
        rintro ⟨i, hi, e⟩
        have := hin i hi
        omega
      · exact Nat.testBit_lt_two_pow (Nat.lt_of_lt_of_le e2 (by
          have : 2 ^ 7 ≤ 2 ^ x := Nat.pow_le_pow_right (by omega) (by omega)
          omega))
    omega

/-- A distinct list is no longer than one that holds it. -/
theorem nodup_len : ∀ (l m : List Int), l.Nodup → (∀ x ∈ l, x ∈ m) → l.length ≤ m.length
  | [], _, _, _ => Nat.zero_le _
  | x :: r, m, hn, h => by
    obtain ⟨h1, h2⟩ := List.nodup_cons.1 hn
    have hx := h x (List.mem_cons_self ..)
    have := nodup_len r (m.erase x) h2 fun y hy => (List.mem_erase_of_ne (fun e => h1 (by rw [← e]; exact hy))).2 (h y (List.mem_cons_of_mem _ hy))
    have h3 := List.length_erase_of_mem hx
    have h4 := List.length_pos_of_mem hx
    simp only [List.length_cons]
    omega
theorem nodup_of_apart {l : List Int} (h : apartL l) : l.Nodup := by
  refine List.pairwise_iff_getElem.2 fun i j hi hj hij => ?_
  have := h j hj i hij
  simpa [List.getD, hi, hj] using this
/-- Each vertex stands in an order. -/
theorem order_mem {l : List Int} {n : Nat} (h1 : inL 0 ((n : Int) - 1) l) (h2 : apartL l) (h3 : l.length = n) (v : Nat) (hv : v < n) : (v : Int) ∈ l := by
  by_cases hm : (v : Int) ∈ l
  · exact hm
  · exfalso
    have hlen : (((List.range n).map Int.ofNat).erase (v : Int)).length = n - 1 := by
      have hmem : (v : Int) ∈ (List.range n).map Int.ofNat := List.mem_map.2 ⟨v, List.mem_range.2 hv, rfl⟩
      rw [List.length_erase_of_mem hmem]; simp
    have := nodup_len l (((List.range n).map Int.ofNat).erase (v : Int)) (nodup_of_apart h2) fun x hx => by
      refine (List.mem_erase_of_ne (fun e => hm (by rw [← e]; exact hx))).2 ?_
      obtain ⟨i, hi, rfl⟩ := mem_getD hx
      have := h1 i hi
      obtain ⟨y, hy⟩ := Int.eq_ofNat_of_zero_le this.1
      rw [hy]
      exact List.mem_map.2 ⟨y, List.mem_range.2 (by omega), rfl⟩
    omega
/-- Edges go both ways. -/
theorem edge_sym {size : Int} {rows : List Int} (hg : IsG size rows) {v u : Nat} (hv : v < rows.length) (hu : u < rows.length) : hasB (rows.getD v 0) u = hasB (rows.getD u 0) v := by
  rcases Nat.lt_trichotomy u v with h | rfl | h
  · exact hg.2.2.2 v hv u h
  · rfl
  · exact (hg.2.2.2 u hu v h).symm
def orderP (size : Int) (rows l : List Int) : Prop := distinctP size rows l ∧ (l.length : Int) = size
instance (size : Int) (rows l : List Int) : Decidable (orderP size rows l) := by unfold orderP; infer_instance
/-- The place of a member of different ones. -/
theorem placeL_at {l : List Int} (h : apartL l) {k : Nat} (hk : k < l.length) : placeL l (l.getD k 0) = k :=
  placeL_some l _ k hk rfl fun i hi => h k hk i hi
theorem order_has {size : Int} {rows l : List Int} (h : orderP size rows l) {v : Nat} (hv : v < rows.length) : (v : Int) ∈ l := by
  obtain ⟨⟨hg, h1, h2⟩, h3⟩ := h
  obtain ⟨n, hn, hl, _, _⟩ := isG_size hg
  exact order_mem (n := n) (by rw [← hn]; exact h1) h2 (by omega) v (by omega)
theorem placeL_inj {l : List Int} {x y : Int} (hx : x ∈ l) (hy : y ∈ l) (h : placeL l x = placeL l y) : x = y := by
  rw [← placeL_get l x hx, ← placeL_get l y hy, h]
/-- Two orders turn a pair exactly if it is an edge. -/
theorem dec_swap {x y : Int} (h : ¬ x = y) : decide (x < y) = !decide (y < x) := by
  by_cases h1 : x < y
  · rw [decide_eq_true h1, decide_eq_false (by omega)]; rfl
  · rw [decide_eq_false h1, decide_eq_true (by omega)]; rfl
def turnQ (rows a b : List Int) (v u : Nat) : Prop := (decide (placeL a v < placeL a u) != decide (placeL b v < placeL b u)) = hasB (rows.getD v 0) u
instance (rows a b : List Int) (v u : Nat) : Decidable (turnQ rows a b v u) := by unfold turnQ; infer_instance
def pmodP (size : Int) (rows a b : List Int) : Prop := orderP size rows a ∧ orderP size rows b ∧ ∀ v, v < rows.length → ∀ u, u < v → turnQ rows a b v u
instance (size : Int) (rows a b : List Int) : Decidable (pmodP size rows a b) := by unfold pmodP; infer_instance
theorem turnQ_sym {size : Int} {rows a b : List Int} (ha : orderP size rows a) (hb : orderP size rows b) {v u : Nat} (hv : v < rows.length) (hu : u < rows.length) (hne : v ≠ u) (h : turnQ rows a b v u) : turnQ rows a b u v := by
  unfold turnQ at h ⊢
  rw [edge_sym ha.1.1 hu hv, ← h]
  have e1 : ¬ placeL a v = placeL a u := fun e => hne (by have := placeL_inj (order_has ha hv) (order_has ha hu) e; omega)
  have e2 : ¬ placeL b v = placeL b u := fun e => hne (by have := placeL_inj (order_has hb hv) (order_has hb hu) e; omega)
  rw [dec_swap e1, dec_swap e2]
  cases decide (placeL a u < placeL a v) <;> cases decide (placeL b u < placeL b v) <;> rfl
def pmodQ (rows a b : List Int) (k i : Nat) : Prop := hasB (rows.getD (a.getD i 0).toNat 0) (a.getD k 0) = decide (placeL b (a.getD k 0) < placeL b (a.getD i 0))
theorem pmod_iff {size : Int} {rows a b : List Int} (ha : orderP size rows a) (hb : orderP size rows b) : (∀ k, k < a.length → ∀ i, i < k → pmodQ rows a b k i) ↔ pmodP size rows a b := by
  obtain ⟨n, hn, hl, _, _⟩ := isG_size ha.1.1
  have hal : a.length = rows.length := by have := ha.2; omega
  have key : ∀ k, k < a.length → ∀ i, i < k → (pmodQ rows a b k i ↔ turnQ rows a b (a.getD k 0).toNat (a.getD i 0).toNat) := by
    intro k hk i hi
    have hkr := ha.1.2.1 k hk
    have hir := ha.1.2.1 i (by omega)
    have pk := placeL_at ha.1.2.2 hk
    have pi := placeL_at ha.1.2.2 (k := i) (by omega)
    obtain ⟨x, hx⟩ := Int.eq_ofNat_of_zero_le hkr.1
    obtain ⟨y, hy⟩ := Int.eq_ofNat_of_zero_le hir.1
    rw [hx] at pk; rw [hy] at pi
    unfold pmodQ turnQ
    rw [hx, hy, Int.toNat_natCast, Int.toNat_natCast, pk, pi, edge_sym ha.1.1 (v := y) (u := x) (by omega) (by omega)]
    have e : decide ((k : Int) < (i : Int)) = false := by simp; omega
    rw [e, Bool.false_bne]
    exact eq_comm
  constructor
  · intro h
    refine ⟨ha, hb, fun v hv u hu => ?_⟩
    have mv := order_has ha hv
    have mu := order_has ha (v := u) (by omega)
    have gv := placeL_get a v mv
    have gu := placeL_get a u mu
    have rv := placeL_range a v
    have ru := placeL_range a u
    have zv := (placeL_mem a v).2 mv
    have zu := (placeL_mem a u).2 mu
    rcases Int.lt_trichotomy (placeL a v) (placeL a u) with h1 | h1 | h1
    · have := (key _ (by omega) _ (by omega)).1 (h (placeL a u).toNat (by omega) (placeL a v).toNat (by omega))
      rw [gv, gu] at this
      exact turnQ_sym ha hb (by omega) hv (by omega) this
    · exact absurd (placeL_inj mv mu h1) (by omega)
    · have := (key _ (by omega) _ (by omega)).1 (h (placeL a v).toNat (by omega) (placeL a u).toNat (by omega))
      rw [gv, gu] at this
      exact this
  · rintro ⟨_, _, h⟩ k hk i hi
    refine (key k hk i hi).2 ?_
    have hkr := ha.1.2.1 k hk
    have hir := ha.1.2.1 i (by omega)
    have hne := ha.1.2.2 k hk i hi
    rcases Nat.lt_trichotomy (a.getD k 0).toNat (a.getD i 0).toNat with h1 | h1 | h1
    · exact turnQ_sym ha hb (by omega) (by omega) (by omega) (h _ (by omega) _ h1)
    · omega
    · exact h _ (by omega) _ h1
/-- Odd cycles. -/
def cycQ (rows l : List Int) (i : Nat) : Prop := hasB (rows.getD (l.getD i 0).toNat 0) (l.getD ((i + 1) % l.length) 0) = true
instance (rows l : List Int) (i : Nat) : Decidable (cycQ rows l i) := by unfold cycQ; infer_instance
def oddP (size : Int) (rows l : List Int) : Prop := distinctP size rows l ∧ 3 ≤ l.length ∧ l.length % 2 = 1 ∧ ∀ i, i < l.length → cycQ rows l i
instance (size : Int) (rows l : List Int) : Decidable (oddP size rows l) := by unfold oddP; infer_instance
theorem distinct_set {size : Int} {rows l : List Int} : distinctP size rows l ↔ IsG size rows ∧ okS l ∧ 0 ≤ setX l ∧ setX l < ishl 1 size := by
  constructor
  · rintro ⟨hg, h1, h2⟩
    obtain ⟨n, hn, _, _, hn7⟩ := isG_size hg
    have ho : okS l := ⟨fun i hi => by have := h1 i hi; omega, h2⟩
    refine ⟨hg, ho, ?_⟩
    rw [hn]
    exact (setX_lt hn7 ho).2 (by rw [← hn]; exact h1)
  · rintro ⟨hg, ho, h⟩
    obtain ⟨n, hn, _, _, hn7⟩ := isG_size hg
    rw [hn] at h
    refine ⟨hg, ?_, ho.2⟩
    rw [hn]
    exact (setX_lt hn7 ho).1 h
theorem distinct_len {size : Int} {rows l : List Int} (h : distinctP size rows l) : (l.length : Int) ≤ size := by
  obtain ⟨hg, h1, h2⟩ := h
  obtain ⟨n, hn, _, _, hn7⟩ := isG_size hg
  have := nodup_len l ((List.range n).map Int.ofNat) (nodup_of_apart h2) fun x hx => by
    obtain ⟨i, hi, rfl⟩ := mem_getD hx
    have := h1 i hi
    obtain ⟨y, hy⟩ := Int.eq_ofNat_of_zero_le this.1
    rw [hy]
    exact List.mem_map.2 ⟨y, List.mem_range.2 (by omega), rfl⟩
  simp at this
  omega
theorem tmod_succ (a b : Nat) : ((a : Int) + 1).tmod (b : Int) = (((a + 1) % b : Nat) : Int) := by
  rw [show ((a : Int) + 1) = ((a + 1 : Nat) : Int) by omega, Int.ofNat_tmod]
/-- Just those pairs of a list of different vertices are neighbours for which something holds. -/
def joinQ (rows l : List Int) (J : Nat → Nat → Bool) (k i : Nat) : Prop := hasB (rows.getD (l.getD i 0).toNat 0) (l.getD k 0) = J i k
instance (rows l : List Int) (J : Nat → Nat → Bool) (k i : Nat) : Decidable (joinQ rows l J k i) := by unfold joinQ; infer_instance
def joinP (size : Int) (rows l : List Int) (J : Nat → Nat → Bool) : Prop := distinctP size rows l ∧ ∀ k, k < l.length → ∀ i, i < k → joinQ rows l J k i
instance (size : Int) (rows l : List Int) (J : Nat → Nat → Bool) : Decidable (joinP size rows l J) := by unfold joinP; infer_instance
theorem distinct_at {size : Int} {rows l : List Int} (h : distinctP size rows l) {i : Nat} (hi : i < l.length) : 0 ≤ l.getD i 0 ∧ l.getD i 0 < rows.length := by
  obtain ⟨n, hn, hl, _, _⟩ := isG_size h.1
  have := h.2.1 i hi
  omega
theorem edge_l {size : Int} {rows l : List Int} (h : distinctP size rows l) {i k : Nat} (hi : i < l.length) (hk : k < l.length) :
    hasB (rows.getD (l.getD i 0).toNat 0) (l.getD k 0) = hasB (rows.getD (l.getD k 0).toNat 0) (l.getD i 0) := by
  obtain ⟨a1, a2⟩ := distinct_at h hi
  obtain ⟨b1, b2⟩ := distinct_at h hk
  obtain ⟨x, hx⟩ := Int.eq_ofNat_of_zero_le a1
  obtain ⟨y, hy⟩ := Int.eq_ofNat_of_zero_le b1
  rw [hx, hy, Int.toNat_natCast, Int.toNat_natCast]
  exact edge_sym h.1 (by omega) (by omega)
def holeJ (n : Nat) (i k : Nat) : Bool := decide (k = i + 1 ∨ (i = 0 ∧ k + 1 = n))
def holeP (size : Int) (rows l : List Int) : Prop := 4 ≤ l.length ∧ joinP size rows l (holeJ l.length)
instance (size : Int) (rows l : List Int) : Decidable (holeP size rows l) := by unfold holeP; infer_instance
def pathJ (i k : Nat) : Bool := decide (k = i + 1)
def pathP (size : Int) (rows l : List Int) : Prop := 1 ≤ l.length ∧ joinP size rows l pathJ
instance (size : Int) (rows l : List Int) : Decidable (pathP size rows l) := by unfold pathP; infer_instance
def twoJ (i k : Nat) : Bool := decide ((i = 0 ∧ k = 1) ∨ (i = 2 ∧ k = 3))
def twoP (size : Int) (rows l : List Int) : Prop := l.length = 4 ∧ joinP size rows l twoJ
instance (size : Int) (rows l : List Int) : Decidable (twoP size rows l) := by unfold twoP; infer_instance
theorem two_iff {size : Int} {rows l : List Int} (h4 : l.length = 4) (hd : distinctP size rows l) : twoP size rows l ↔
    hasB (rows.getD (l.getD 0 0).toNat 0) (l.getD 1 0) = true ∧ hasB (rows.getD (l.getD 2 0).toNat 0) (l.getD 3 0) = true ∧ hasB (rows.getD (l.getD 0 0).toNat 0) (l.getD 2 0) = false ∧
    hasB (rows.getD (l.getD 0 0).toNat 0) (l.getD 3 0) = false ∧ hasB (rows.getD (l.getD 1 0).toNat 0) (l.getD 2 0) = false ∧ hasB (rows.getD (l.getD 1 0).toNat 0) (l.getD 3 0) = false := by
  constructor
  · rintro ⟨_, _, h⟩
    exact ⟨h 1 (by omega) 0 (by omega), h 3 (by omega) 2 (by omega), h 2 (by omega) 0 (by omega), h 3 (by omega) 0 (by omega), h 2 (by omega) 1 (by omega), h 3 (by omega) 1 (by omega)⟩
  · rintro ⟨e1, e2, e3, e4, e5, e6⟩
    refine ⟨h4, hd, fun k hk i hi => ?_⟩
    have : (k = 1 ∧ i = 0) ∨ (k = 2 ∧ i = 0) ∨ (k = 2 ∧ i = 1) ∨ (k = 3 ∧ i = 0) ∨ (k = 3 ∧ i = 1) ∨ (k = 3 ∧ i = 2) := by omega
    rcases this with ⟨rfl, rfl⟩ | ⟨rfl, rfl⟩ | ⟨rfl, rfl⟩ | ⟨rfl, rfl⟩ | ⟨rfl, rfl⟩ | ⟨rfl, rfl⟩
    · exact e1
    · exact e3
    · exact e5
    · exact e4
    · exact e6
    · exact e2
def splitObsP (size : Int) (rows l : List Int) : Prop := twoP size rows l ∨ (l.length ≤ 5 ∧ holeP size rows l)
instance (size : Int) (rows l : List Int) : Decidable (splitObsP size rows l) := by unfold splitObsP; infer_instance
def thrObsP (size : Int) (rows l : List Int) : Prop := l.length = 4 ∧ (twoP size rows l ∨ holeP size rows l ∨ pathP size rows l)
instance (size : Int) (rows l : List Int) : Decidable (thrObsP size rows l) := by unfold thrObsP; infer_instance
end Go.Pw
