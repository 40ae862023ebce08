/- The plain mathematics of distances and sides. -/
import Derived.Test.YthmpcidkjkeicaaPwPcc
namespace Go.Pw
open Go

/-- A set that leads to nothing else within a greater one. -/
def ShutN (r : Nat → Nat) (set X : Nat) : Prop := ∀ x y, X.testBit x = true → set.testBit y = true → (r x).testBit y = true → X.testBit y = true
theorem iter_shut {r : Nat → Nat} {n set S X : Nat} (hX : ShutN r set X) (h : SubN S X) : ∀ t, SubN (iterN (growN r n set) t S) X
  | 0 => h
  | t + 1 => fun i hi => by
    have ih := iter_shut (n := n) hX h t
    rcases (growN_bit.1 hi) with ⟨h1, h2 | ⟨v, _, h3, h4⟩⟩
    · exact ih i h2
    · exact hX v i (ih v h3) h1 h4
theorem comp_shut {r : Nat → Nat} {n set S : Nat} (hn : n ≤ 7) (hset : set < 2 ^ n) (h0 : S ≠ 0) (h : SubN S set) : ShutN r set (compN r n set S) := fun x y hx hy hxy => by
  rw [← comp_fixed (r := r) hn hset h0 h, growN_bit]
  have hxs := comp_in (r := r) (n := n) h n x hx
  exact ⟨hy, .inr ⟨x, has_lt hset hxs, hx, hxy⟩⟩
/-- Each member of a part has that part. -/
theorem comp_same {r : Nat → Nat} {n set u v : Nat} (hr : NG n r) (hset : set < 2 ^ n) (hu : set.testBit u = true) (hv : (compN r n set (2 ^ u)).testBit v = true) : compN r n set (2 ^ v) = compN r n set (2 ^ u) := by
  have hn := hr.le
  have hus := pow_sub hu
  have hp0 : ∀ i, 2 ^ i ≠ 0 := fun i => Nat.pos_iff_ne_zero.1 (Nat.pow_pos (by omega))
  have hcu := comp_shut (r := r) hn hset (hp0 u) hus
  have hvset := comp_in (r := r) (n := n) hus n v hv
  have hvs := pow_sub hvset
  have hcv := comp_shut (r := r) hn hset (hp0 v) hvs
  have h1 : SubN (compN r n set (2 ^ v)) (compN r n set (2 ^ u)) := iter_shut hcu (pow_sub hv) n
  refine SubN.antisymm h1 ?_
  have huv : (compN r n set (2 ^ v)).testBit u = true := by
    cases hb : (compN r n set (2 ^ v)).testBit u with
    | true => rfl
    | false =>
      exfalso
      have hle : compN r n set (2 ^ u) < 128 := by have := lt_of_sub (comp_in (r := r) (n := n) hus n) hset; have := pow_le7 hn; show iterN _ _ _ < 128; omega
      have hD := sub_bit hle h1
      have hshut : ShutN r set (compN r n set (2 ^ u) - compN r n set (2 ^ v)) := fun x y hx hy hxy => by
        rw [hD, Bool.and_eq_true] at hx ⊢
        have hyu := hcu x y hx.1 hy hxy
        refine ⟨hyu, ?_⟩
        cases hc : (compN r n set (2 ^ v)).testBit y with
        | false => rfl
        | true =>
          have hxs := comp_in (r := r) (n := n) hus n x hx.1
          have := hcv y x hc hxs (by rw [hr.sym y x (has_lt hset hy) (has_lt hset hxs)]; exact hxy)
          rw [this] at hx
          simp at hx
      have huu : (compN r n set (2 ^ u)).testBit u = true := comp_up (r := r) (n := n) hus n u (by rw [Nat.testBit_two_pow]; simp)
      have hsub : SubN (2 ^ u) (compN r n set (2 ^ u) - compN r n set (2 ^ v)) := pow_sub (by
        rw [hD, hb, huu]; rfl)
      have := iter_shut hshut hsub n v hv
      rw [hD] at this
      have hvv := comp_up (r := r) (n := n) hvs n v (by rw [Nat.testBit_two_pow]; simp)
      rw [show (compN r n set (2 ^ v)).testBit v = true from hvv] at this
      simp at this
  exact iter_shut hcv (pow_sub huv) n

/-- How many steps lead from v to w: those below t are tried. -/
def distU (r : Nat → Nat) (n v w : Nat) : Nat → Int
  | 0 => -1
  | t + 1 => if 0 ≤ distU r n v w t then distU r n v w t else if (iterN (growN r n (2 ^ n - 1)) t (2 ^ v)).testBit w = true then t else -1
theorem distU_none {r : Nat → Nat} {n v w : Nat} : ∀ t, (∀ i, i < t → (iterN (growN r n (2 ^ n - 1)) i (2 ^ v)).testBit w = false) → distU r n v w t = -1
  | 0, _ => rfl
  | t + 1, h => by
    have h1 := distU_none t fun i hi => h i (by omega)
    unfold distU
    rw [h1, if_neg (by omega), if_neg (by rw [h t (by omega)]; exact Bool.false_ne_true)]
theorem distU_some {r : Nat → Nat} {n v w d : Nat} (hd : (iterN (growN r n (2 ^ n - 1)) d (2 ^ v)).testBit w = true) (hb : ∀ i, i < d → (iterN (growN r n (2 ^ n - 1)) i (2 ^ v)).testBit w = false) : ∀ t, d < t → distU r n v w t = d
  | 0, h => by omega
  | t + 1, h => by
    unfold distU
    by_cases e : d = t
    · subst e
      rw [distU_none d hb, if_neg (by omega), if_pos hd]
    · rw [distU_some hd hb t (by omega), if_pos (by omega)]
def distX (size : Int) (rows : List Int) (v w : Int) : Int := if IsG size rows ∧ (0 ≤ v ∧ v < size) ∧ (0 ≤ w ∧ w < size) then distU (rowN rows) size.toNat v.toNat w.toNat size.toNat else -1
/-- Within all vertices the way round a set is the set beside its neighbours. -/
theorem grow_all {r : Nat → Nat} {n S : Nat} (hr : NG n r) (hS : S < 2 ^ n) : growN r n (2 ^ n - 1) S = S ||| nbN r S n := by
  unfold growN
  have h := Nat.or_lt_two_pow hS (nbN_lt hr.lt S n)
  have hs : SubN (S ||| nbN r S n) (2 ^ n - 1) := fun i hi => by rw [Nat.testBit_two_pow_sub_one]; exact decide_eq_true (has_lt h hi)
  exact subN_and.1 hs
theorem all_sub {n S : Nat} (hS : S < 2 ^ n) : SubN S (2 ^ n - 1) := fun i hi => by rw [Nat.testBit_two_pow_sub_one]; exact decide_eq_true (has_lt hS hi)
/-- Not shut yet: one more step is within reach. -/
theorem dist_more {r : Nat → Nat} {n v t : Nat} (hr : NG n r) (hv : v < n) (h : growN r n (2 ^ n - 1) (iterN (growN r n (2 ^ n - 1)) t (2 ^ v)) ≠ iterN (growN r n (2 ^ n - 1)) t (2 ^ v)) : t + 1 < n := by
  have hn := hr.le
  have h7 := pow_le7 hn
  have hpos : 0 < 2 ^ n := Nat.pow_pos (by omega)
  have hvl : 2 ^ v < 2 ^ n := Nat.pow_lt_pow_right (by omega) hv
  have hset : 2 ^ n - 1 < 2 ^ n := by omega
  have hs := all_sub hvl
  have hp0 : 2 ^ v ≠ 0 := Nat.pos_iff_ne_zero.1 (Nat.pow_pos (by omega))
  have hin := comp_in (r := r) (n := n) hs (t + 1)
  have hlt := lt_of_sub hin hset
  have h1 := cnt_lt (A := iterN (growN r n (2 ^ n - 1)) t (2 ^ v)) (B := iterN (growN r n (2 ^ n - 1)) (t + 1) (2 ^ v)) (by omega) (growN_up (comp_in hs t)) (fun e => h e.symm)
  have h2 := cnt_le ⟨n, by omega⟩ ⟨iterN (growN r n (2 ^ n - 1)) (t + 1) (2 ^ v), by omega⟩ hlt
  dsimp only at h2
  rcases comp_grows (r := r) hn hset hp0 hs t with h3 | h3
  · exact absurd h3 h
  · omega
def evenN (r : Nat → Nat) (n v : Nat) : Bool := decide ((distU r n (lowN (compN r n (2 ^ n - 1) (2 ^ v))) v n).tmod 2 = 0)
/-- The vertices at an even distance, of those below k. -/
def sdU (r : Nat → Nat) (n : Nat) : Nat → Nat
  | 0 => 0
  | k + 1 => if evenN r n k = true then sdU r n k + 2 ^ k else sdU r n k
theorem sdU_lt (r : Nat → Nat) (n : Nat) : ∀ k, sdU r n k < 2 ^ k
  | 0 => by simp [sdU]
  | k + 1 => by
    have := sdU_lt r n k
    unfold sdU
    rw [Nat.pow_succ]
    split <;> omega
theorem add_pow_bit {a k : Nat} (h : a < 2 ^ k) (i : Nat) : (a + 2 ^ k).testBit i = (a.testBit i || decide (k = i)) := by
  have e : a + 2 ^ k = 2 ^ k ||| a := by rw [Nat.add_comm]; have := Nat.two_pow_add_eq_or_of_lt h 1; simpa using this
  rw [e, Nat.testBit_or, Nat.testBit_two_pow, Bool.or_comm]
theorem sdU_bit (r : Nat → Nat) (n i : Nat) : ∀ k, (sdU r n k).testBit i = (decide (i < k) && evenN r n i)
  | 0 => by simp [sdU]
  | k + 1 => by
    have ih := sdU_bit r n i k
    have hl := sdU_lt r n k
    unfold sdU
    by_cases hik : i = k
    · subst hik
      have h0 : decide (i < i) = false := by simp
      rw [h0, Bool.false_and] at ih
      have h1 : decide (i < i + 1) = true := by simp
      rw [h1, Bool.true_and]
      cases he : evenN r n i with
      | true => rw [if_pos rfl, add_pow_bit hl]; simp
      | false => rw [if_neg Bool.false_ne_true]; exact ih
    · have h1 : decide (i < k + 1) = decide (i < k) := decide_eq_decide.2 (by omega)
      rw [h1]
      split
      · rw [add_pow_bit hl, ih, show decide (k = i) = false from decide_eq_false (fun e => hik e.symm), Bool.or_false]
      · exact ih
def sdF (r : Nat → Nat) (n a : Nat) (l : List Int) : Nat := l.foldl (fun a x => if evenN r n x.toNat = true then a ||| 2 ^ x.toNat else a) a
theorem sdF_snoc (r : Nat → Nat) (n a : Nat) (l : List Int) (x : Int) : sdF r n a (l ++ [x]) = if evenN r n x.toNat = true then sdF r n a l ||| 2 ^ x.toNat else sdF r n a l := by simp [sdF]
theorem sdF_bit (r : Nat → Nat) (n i : Nat) : ∀ (l : List Int) (a : Nat), (sdF r n a l).testBit i = true ↔ a.testBit i = true ∨ ∃ x ∈ l, x.toNat = i ∧ evenN r n i = true
  | [], a => by simp [sdF]
  | x :: l, a => by
    have : sdF r n a (x :: l) = sdF r n (if evenN r n x.toNat = true then a ||| 2 ^ x.toNat else a) l := rfl
    rw [this, sdF_bit r n i l]
    constructor
    · rintro (h | ⟨y, hy, h⟩)
      · split at h
        · next he =>
          rw [Nat.testBit_or, Bool.or_eq_true, Nat.testBit_two_pow, decide_eq_true_eq] at h
          rcases h with h | h
          · exact .inl h
          · exact .inr ⟨x, List.mem_cons_self .., h, by rw [← h]; exact he⟩
        · exact .inl h
      · exact .inr ⟨y, List.mem_cons_of_mem _ hy, h⟩
    · rintro (h | ⟨y, hy, h, he⟩)
      · left
        split
        · rw [Nat.testBit_or, h]; rfl
        · exact h
      · rcases List.mem_cons.1 hy with rfl | hy
        · left
          rw [h, if_pos he, Nat.testBit_or, Nat.testBit_two_pow]; simp
        · exact .inr ⟨y, hy, h, he⟩
theorem sdF_lt {r : Nat → Nat} {n a : Nat} {l : List Int} (hl : ∀ x ∈ l, x.toNat < 7) (ha : a < 128) : sdF r n a l < 128 := by
  have : sdF r n a l < 2 ^ 7 := by
    refine Nat.lt_pow_two_of_testBit _ fun i hi => ?_
    rw [← Bool.not_eq_true, sdF_bit]
    rintro (h | ⟨x, hx, h, _⟩)
    · have := has_lt (n := 7) (by omega) h; omega
    · have := hl x hx; omega
  omega
def sdP (r : Nat → Nat) (n : Nat) (P : List Int) : Nat := P.foldl (fun a p => sdF r n a (listS p)) 0
theorem sdP_snoc (r : Nat → Nat) (n : Nat) (P : List Int) (p : Int) : sdP r n (P ++ [p]) = sdF r n (sdP r n P) (listS p) := by simp [sdP]
theorem sdP_bit (r : Nat → Nat) (n i : Nat) (P : List Int) : (sdP r n P).testBit i = true ↔ evenN r n i = true ∧ ∃ p ∈ P, ∃ x ∈ listS p, x.toNat = i := by
  generalize hq : P.reverse = q
  induction q generalizing P with
  | nil => obtain rfl : P = [] := by simpa using hq
           simp [sdP]
  | cons p q ih =>
    have hP : P = q.reverse ++ [p] := by rw [← List.reverse_reverse P, hq]; simp
    subst hP
    rw [sdP_snoc, sdF_bit, ih q.reverse (by simp)]
    constructor
    · rintro (⟨h, p', hp', h'⟩ | ⟨x, hx, h, he⟩)
      · exact ⟨h, p', List.mem_append_left _ hp', h'⟩
      · exact ⟨he, p, List.mem_append_right _ (List.mem_singleton_self p), x, hx, h⟩
    · rintro ⟨he, p', hp', x, hx, h⟩
      rcases List.mem_append.1 hp' with hp' | hp'
      · exact .inl ⟨he, p', hp', x, hx, h⟩
      · have := List.mem_singleton.1 hp'
        subst this
        exact .inr ⟨x, hx, h, he⟩
theorem sdP_lt (r : Nat → Nat) (n : Nat) (P : List Int) : sdP r n P < 128 := by
  have : sdP r n P < 2 ^ 7 := by
    refine Nat.lt_pow_two_of_testBit _ fun i hi => ?_
    rw [← Bool.not_eq_true, sdP_bit]
    rintro ⟨_, p, _, x, hx, h⟩
    obtain ⟨_, v, rfl, hv, _⟩ := mem_listS.1 hx
    simp at h; omega
  omega
/-- The parts: each is that of a vertex, and together they hold all. -/
theorem parts_spec {r : Nat → Nat} {n set : Nat} (hr : NG n r) (hset : set < 2 ^ n) : ∀ f left, SplitN r left set → left < f →
    (∀ p ∈ partsN r n set f left, ∃ u, left.testBit u = true ∧ p = compN r n set (2 ^ u)) ∧ ∀ i, left.testBit i = true → ∃ p ∈ partsN r n set f left, p.testBit i = true
  | 0, left, _, h => by omega
  | f + 1, left, hsp, hlt => by
    have hn := hr.le
    have h7 := pow_le7 hn
    have hleft := lt_of_sub hsp.1 hset
    unfold partsN
    by_cases h0 : left = 0
    · subst h0
      rw [if_pos rfl]
      exact ⟨fun p hp => (by cases hp), fun i hi => by simp at hi⟩
    · rw [if_neg h0]
      obtain ⟨q1, q2, _⟩ := low_spec ⟨left, by omega⟩ h0
      dsimp only at q1 q2
      have hps := pow_sub q1
      have hp0 : 2 ^ lowN left ≠ 0 := Nat.pos_iff_ne_zero.1 (Nat.pow_pos (by omega))
      have hcs := comp_split (n := n) hsp hps
      have hnext := split_next (S := 2 ^ lowN left) hn hr hset hsp hp0 hps
      have hcin : SubN (compN r n left (2 ^ lowN left)) left := comp_in hps n
      have hpos := comp_pos (r := r) (n := n) hps hp0
      have hle := sub_le hcin
      rw [hcs] at hnext hcin hpos hle
      obtain ⟨ih1, ih2⟩ := parts_spec hr hset f _ hnext (by omega)
      refine ⟨fun p hp => ?_, fun i hi => ?_⟩
      · rcases List.mem_cons.1 hp with rfl | hp
        · exact ⟨_, q1, rfl⟩
        · obtain ⟨u, hu, e⟩ := ih1 p hp
          rw [sub_bit (by omega) hcin, Bool.and_eq_true] at hu
          exact ⟨u, hu.1, e⟩
      · cases hc : (compN r n set (2 ^ lowN left)).testBit i with
        | true => exact ⟨_, List.mem_cons_self .., hc⟩
        | false =>
          obtain ⟨p, hp, h⟩ := ih2 i (by rw [sub_bit (by omega) hcin, hi, hc]; rfl)
          exact ⟨p, List.mem_cons_of_mem _ hp, h⟩
def sdX (size : Int) (rows : List Int) : Nat := sdU (rowN rows) size.toNat size.toNat
def sideB (size : Int) (rows : List Int) : Prop := IsG size rows ∧ indepP size rows (sdX size rows : Nat) ∧ indepP size rows (ishl 1 size - 1 - (sdX size rows : Nat))
instance (size : Int) (rows : List Int) : Decidable (sideB size rows) := by unfold sideB; infer_instance
def sideS (size : Int) (rows : List Int) : Int := if sideB size rows then (sdX size rows : Nat) else 0
end Go.Pw
