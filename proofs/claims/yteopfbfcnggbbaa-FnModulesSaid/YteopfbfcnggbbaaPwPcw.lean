/- Clique numbers of vertex sets, and how they add up over parts. -/
import Derived.Test.YteopfbfcnggbbaaPwPcg
import Derived.Test.YteopfbfcnggbbaaPwPqg
namespace Go.Pw
open Go
def clqM (E : Nat → Nat → Bool) (C : Nat) : Prop := ∀ x y, C.testBit x = true → C.testBit y = true → x ≠ y → E x y = true
def IsOm (E : Nat → Nat → Bool) (S m : Nat) : Prop := (∃ C, C < 128 ∧ SubN C S ∧ clqM E C ∧ cntN C = m) ∧ ∀ C, C < 128 → SubN C S → clqM E C → cntN C ≤ m
theorem IsOm.uniq {E : Nat → Nat → Bool} {S m k : Nat} (h : IsOm E S m) (h' : IsOm E S k) : m = k := by
  obtain ⟨⟨C, a1, a2, a3, a4⟩, a5⟩ := h
  obtain ⟨⟨D, b1, b2, b3, b4⟩, b5⟩ := h'
  have := a5 D b1 b2 b3
  have := b5 C a1 a2 a3
  omega
theorem cntN_zero : cntN 0 = 0 := by decide
theorem cntN_le7 (S : Nat) : cntN S ≤ 7 := Nat.le_trans (List.length_filter_le _ _) (by simp)
theorem isOm_ex (E : Nat → Nat → Bool) (S : Nat) : ∃ m, IsOm E S m := by
  have key : ∀ d m, m + d = 8 → (∃ C, C < 128 ∧ SubN C S ∧ clqM E C ∧ m ≤ cntN C) → ∃ k, IsOm E S k := by
    intro d
    induction d with
    | zero => rintro m hm ⟨C, _, _, _, h⟩; have := cntN_le7 C; omega
    | succ d ih =>
      rintro m hm ⟨C, h1, h2, h3, h4⟩
      by_cases hx : ∃ C, C < 128 ∧ SubN C S ∧ clqM E C ∧ m + 1 ≤ cntN C
      · exact ih (m + 1) (by omega) hx
      · refine ⟨m, ⟨C, h1, h2, h3, ?_⟩, fun D d1 d2 d3 => ?_⟩
        · have : ¬ m + 1 ≤ cntN C := fun h => hx ⟨C, h1, h2, h3, h⟩
          omega
        · have : ¬ m + 1 ≤ cntN D := fun h => hx ⟨D, d1, d2, d3, h⟩
          omega
  exact key 8 0 rfl ⟨0, by omega, fun i hi => by simp at hi, fun x y hx => by simp at hx, Nat.zero_le _⟩
noncomputable def omM (E : Nat → Nat → Bool) (S : Nat) : Nat := Classical.choose (isOm_ex E S)
theorem omM_is (E : Nat → Nat → Bool) (S : Nat) : IsOm E S (omM E S) := Classical.choose_spec (isOm_ex E S)
theorem omM_eq {E : Nat → Nat → Bool} {S m : Nat} (h : IsOm E S m) : omM E S = m := (omM_is E S).uniq h
theorem omM_le (E : Nat → Nat → Bool) (S : Nat) : omM E S ≤ 7 := by
  obtain ⟨⟨C, _, _, _, h⟩, _⟩ := omM_is E S
  rw [← h]; exact cntN_le7 C
theorem omM_zero (E : Nat → Nat → Bool) : omM E 0 = 0 := omM_eq ⟨⟨0, by omega, SubN.refl _, fun x y hx => by simp at hx, cntN_zero⟩, fun C _ h _ => by
  have : C = 0 := by have := subN_and.1 h; simpa using this.symm
  rw [this, cntN_zero]; exact Nat.le_refl _⟩
theorem filter_or_len {α : Type} (p q : α → Bool) : ∀ l : List α, (∀ x ∈ l, ¬ (p x = true ∧ q x = true)) → (l.filter fun x => p x || q x).length = (l.filter p).length + (l.filter q).length
  | [], _ => rfl
  | x :: l, h => by
    have ih := filter_or_len p q l fun y hy => h y (List.mem_cons_of_mem _ hy)
    have hx := h x List.mem_cons_self
    rw [List.filter_cons, List.filter_cons, List.filter_cons]
    cases hp : p x <;> cases hq : q x
    · simpa using ih
    · simp [ih]; omega
    · simp [ih]; omega
    · exact absurd ⟨hp, hq⟩ hx
def DisN (A B : Nat) : Prop := ∀ i, A.testBit i = true → ¬ B.testBit i = true
theorem cnt_union {A B : Nat} (h : DisN A B) : cntN (A ||| B) = cntN A + cntN B := by
  unfold cntN
  rw [← filter_or_len _ _ _ fun x _ hx => h x hx.1 hx.2]
  simp [Nat.testBit_or]
theorem and_or_parts {C A B : Nat} (h : SubN C (A ||| B)) : (C &&& A) ||| (C &&& B) = C := by
  rw [← Nat.and_or_distrib_left]; exact subN_and.1 h
theorem sub_or {C A B : Nat} (h : SubN C A) : SubN C (A ||| B) := fun i hi => by rw [Nat.testBit_or, h i hi]; rfl
theorem sub_or' {C A B : Nat} (h : SubN C B) : SubN C (A ||| B) := fun i hi => by rw [Nat.testBit_or, h i hi]; simp
theorem om_none {E : Nat → Nat → Bool} {A B : Nat} (hd : DisN A B) (h : ∀ x y, A.testBit x = true → B.testBit y = true → E x y = false) : omM E (A ||| B) = max (omM E A) (omM E B) := by
  obtain ⟨⟨CA, a1, a2, a3, a4⟩, a5⟩ := omM_is E A
  obtain ⟨⟨CB, b1, b2, b3, b4⟩, b5⟩ := omM_is E B
  refine omM_eq ⟨?_, fun C h1 h2 h3 => ?_⟩
  · rcases Nat.le_total (omM E A) (omM E B) with hle | hle
    · exact ⟨CB, b1, sub_or' b2, b3, by omega⟩
    · exact ⟨CA, a1, sub_or a2, a3, by omega⟩
  · by_cases hB : ∃ y, C.testBit y = true ∧ B.testBit y = true
    · obtain ⟨y, hy, hyB⟩ := hB
      have : SubN C B := fun x hx => by
        have hx2 := h2 x hx
        rw [Nat.testBit_or, Bool.or_eq_true] at hx2
        rcases hx2 with hx2 | hx2
        · have hne : x ≠ y := fun e => hd x hx2 (e ▸ hyB)
          have e1 := h3 x y hx hy hne
          rw [h x y hx2 hyB] at e1; cases e1
        · exact hx2
      have := b5 C h1 this h3
      omega
    · have : SubN C A := fun x hx => by
        have hx2 := h2 x hx
        rw [Nat.testBit_or, Bool.or_eq_true] at hx2
        rcases hx2 with hx2 | hx2
        · exact hx2
        · exact absurd ⟨x, hx, hx2⟩ hB
      have := a5 C h1 this h3
      omega
theorem om_all {E : Nat → Nat → Bool} (hs : ∀ x y, E x y = E y x) {A B : Nat} (hd : DisN A B) (h : ∀ x y, A.testBit x = true → B.testBit y = true → E x y = true) : omM E (A ||| B) = omM E A + omM E B := by
  obtain ⟨⟨CA, a1, a2, a3, a4⟩, a5⟩ := omM_is E A
  obtain ⟨⟨CB, b1, b2, b3, b4⟩, b5⟩ := omM_is E B
  refine omM_eq ⟨⟨CA ||| CB, Nat.or_lt_two_pow (n := 7) a1 b1, fun i hi => ?_, fun x y hx hy hne => ?_, ?_⟩, fun C h1 h2 h3 => ?_⟩
  · rw [Nat.testBit_or, Bool.or_eq_true] at hi
    rcases hi with hi | hi
    · exact sub_or a2 i hi
    · exact sub_or' b2 i hi
  · rw [Nat.testBit_or, Bool.or_eq_true] at hx hy
    rcases hx with hx | hx <;> rcases hy with hy | hy
    · exact a3 x y hx hy hne
    · exact h x y (a2 x hx) (b2 y hy)
    · rw [hs]; exact h y x (a2 y hy) (b2 x hx)
    · exact b3 x y hx hy hne
  · rw [cnt_union fun i hi hi' => hd i (a2 i hi) (b2 i hi'), a4, b4]
  · have e := and_or_parts h2
    have sA : SubN (C &&& A) A := fun i hi => by rw [Nat.testBit_and, Bool.and_eq_true] at hi; exact hi.2
    have sB : SubN (C &&& B) B := fun i hi => by rw [Nat.testBit_and, Bool.and_eq_true] at hi; exact hi.2
    have cA : SubN (C &&& A) C := fun i hi => by rw [Nat.testBit_and, Bool.and_eq_true] at hi; exact hi.1
    have cB : SubN (C &&& B) C := fun i hi => by rw [Nat.testBit_and, Bool.and_eq_true] at hi; exact hi.1
    have l1 := a5 (C &&& A) (Nat.lt_of_le_of_lt Nat.and_le_left h1) sA fun x y hx hy => h3 x y (cA x hx) (cA y hy)
    have l2 := b5 (C &&& B) (Nat.lt_of_le_of_lt Nat.and_le_left h1) sB fun x y hx hy => h3 x y (cB x hx) (cB y hy)
    have := cnt_union (A := C &&& A) (B := C &&& B) fun i hi hi' => hd i (sA i hi) (sB i hi')
    rw [e] at this
    omega
/-- The edges that rows of masks hold. -/
def eN (r : Nat → Nat) (x y : Nat) : Bool := (r x).testBit y
theorem om_congr {E F : Nat → Nat → Bool} {S : Nat} (h : ∀ x y, S.testBit x = true → S.testBit y = true → x ≠ y → E x y = F x y) : omM E S = omM F S := by
  obtain ⟨⟨C, b1, b2, b3, b4⟩, b5⟩ := omM_is F S
  exact omM_eq ⟨⟨C, b1, b2, fun x y hx hy hne => by rw [h x y (b2 x hx) (b2 y hy) hne]; exact b3 x y hx hy hne, b4⟩,
    fun D d1 d2 d3 => b5 D d1 d2 fun x y hx hy hne => by rw [← h x y (d2 x hx) (d2 y hy) hne]; exact d3 x y hx hy hne⟩
theorem or_sub {A B : Nat} (hA : A < 128) (h : SubN B A) : B ||| (A - B) = A := by
  apply Nat.eq_of_testBit_eq
  intro i
  rw [Nat.testBit_or, sub_bit hA h]
  cases ha : A.testBit i <;> cases hb : B.testBit i <;> first | rfl | (have := h i hb; rw [ha] at this; cases this)
structure PartF (r : Nat → Nat) (n set left p : Nat) : Prop where
  sub : SubN p left
  pos : p ≠ 0
  next : SplitN r (left - p) set
  far : ∀ x y, p.testBit x = true → (left - p).testBit y = true → (r x).testBit y = false
theorem part_facts {r : Nat → Nat} {n set left : Nat} (hr : NG n r) (hset : set < 2 ^ n) (h : SplitN r left set) (h0 : left ≠ 0) : PartF r n set left (compN r n set (2 ^ lowN left)) := by
  have hl := lt_of_sub h.1 hset
  have h7 := pow_le7 hr.le
  have hlow := (low_spec ⟨left, by omega⟩ h0).1
  have hps : SubN (2 ^ lowN left) left := pow_sub hlow
  have hp0 : 2 ^ lowN left ≠ 0 := Nat.pos_iff_ne_zero.1 (Nat.two_pow_pos _)
  have hs := split_next hr.le hr hset h hp0 hps
  have hin : SubN (compN r n left (2 ^ lowN left)) left := comp_in hps n
  rw [comp_split h hps] at hs hin
  refine ⟨hin, comp_pos (SubN.trans hps h.1) hp0, hs, fun x y hx hy => ?_⟩
  cases hb : (r x).testBit y with
  | false => rfl
  | true =>
    have hxl := hin x hx
    have hyl : left.testBit y = true := by rw [sub_bit (by omega) hin, Bool.and_eq_true] at hy; exact hy.1
    have := hs.2 y x hy (h.1 x hxl) (by rw [hr.sym y x (has_lt hl hyl) (has_lt hl hxl)]; exact hb)
    rw [sub_bit (by omega) hin, hx] at this
    simp at this
theorem parts_in {r : Nat → Nat} {n set : Nat} (hr : NG n r) (hset : set < 2 ^ n) : ∀ f left, SplitN r left set → ∀ p ∈ partsN r n set f left, SubN p left ∧ p ≠ 0
  | 0, _, _, p, hp => by simp [partsN] at hp
  | f + 1, left, h, p, hp => by
    rw [partsN] at hp
    by_cases h0 : left = 0
    · rw [if_pos h0] at hp; cases hp
    · rw [if_neg h0] at hp
      have hf := part_facts hr hset h h0
      rcases List.mem_cons.1 hp with rfl | hp
      · exact ⟨hf.sub, hf.pos⟩
      · have := parts_in hr hset f _ hf.next p hp
        have h7 := pow_le7 hr.le
        have hl := lt_of_sub h.1 hset
        exact ⟨fun i hi => by have := this.1 i hi; rw [sub_bit (by omega) hf.sub, Bool.and_eq_true] at this; exact this.1, this.2⟩
theorem parts_om {r : Nat → Nat} {n set : Nat} (hr : NG n r) (hset : set < 2 ^ n) : ∀ f left, SplitN r left set → cntN left ≤ f → ∀ a b,
    ((partsN r n set f left).map (omM (eN r))).foldl max a = max a (omM (eN r) left) ∧ ((partsN r n set f left).map (omM (coE (eN r)))).foldl (· + ·) b = b + omM (coE (eN r)) left
  | 0, left, h, hc, a, b => by
    have h7 := pow_le7 hr.le
    have hl := lt_of_sub h.1 hset
    have : left = 0 := Classical.byContradiction fun h0 => by
      have := (cnt_pos ⟨left, by omega⟩).2 h0
      dsimp only at this; omega
    subst this
    rw [omM_zero, omM_zero]; simp [partsN]
  | f + 1, left, h, hc, a, b => by
    rw [partsN]
    by_cases h0 : left = 0
    · subst h0; rw [if_pos rfl, omM_zero, omM_zero]; simp
    · rw [if_neg h0]
      have hf := part_facts hr hset h h0
      have h7 := pow_le7 hr.le
      have hl := lt_of_sub h.1 hset
      generalize compN r n set (2 ^ lowN left) = p at hf ⊢
      have hor := or_sub (by omega) hf.sub
      have hdis : DisN p (left - p) := fun i hi hi' => by rw [sub_bit (by omega) hf.sub, hi] at hi'; simp at hi'
      have hlt : cntN (left - p) < cntN left := cnt_lt (by omega) (fun i hi => by rw [sub_bit (by omega) hf.sub, Bool.and_eq_true] at hi; exact hi.1) (fun e => by
        obtain ⟨i, hi⟩ := Nat.exists_testBit_of_ne_zero hf.pos
        have := hdis i hi; rw [e] at this; exact this (hf.sub i hi))
      have sE : ∀ x y, p.testBit x = true → (left - p).testBit y = true → eN r x y = false := hf.far
      have e1 := om_none (E := eN r) hdis sE
      have ih := parts_om hr hset f (left - p) hf.next (by omega) (max a (omM (eN r) p)) (b + omM (coE (eN r)) p)
      have e2 : omM (coE (eN r)) (p ||| (left - p)) = omM (coE (eN r)) p + omM (coE (eN r)) (left - p) := by
        have hc2 : ∀ S, SubN S left → omM (coE (eN r)) S = omM (fun x y => decide (x < n) && decide (y < n) && coE (eN r) x y) S := fun S hS => om_congr fun x y hx hy _ => by
          have := has_lt hl (hS x hx); have := has_lt hl (hS y hy); simp [*]
        rw [hc2 _ (by rw [hor]; exact SubN.refl _), hc2 p hf.sub, hc2 (left - p) (fun i hi => by rw [sub_bit (by omega) hf.sub, Bool.and_eq_true] at hi; exact hi.1)]
        refine om_all (fun x y => ?_) hdis fun x y hx hy => ?_
        · by_cases hx : x < n <;> by_cases hy : y < n <;> simp [hx, hy]
          unfold coE eN
          rw [hr.sym x y hx hy]
          by_cases e : x = y
          · subst e; rfl
          · have e' : ¬ y = x := fun h => e h.symm
            simp [e, e']
        · have hyl : left.testBit y = true := by rw [sub_bit (by omega) hf.sub, Bool.and_eq_true] at hy; exact hy.1
          have a1 := has_lt hl (hf.sub x hx)
          have a2 := has_lt hl hyl
          have a3 : coE (eN r) x y = true := coE_true.2 ⟨sE x y hx hy, fun e => hdis x hx (e ▸ hy)⟩
          simp [a1, a2, a3]
      rw [hor] at e1 e2
      simp only [List.map_cons, List.foldl_cons]
      rw [ih.1, ih.2, e1, e2]
      exact ⟨by omega, by omega⟩
theorem comp_sub {r : Nat → Nat} {n set T S : Nat} (h : SplitN r T set) (hS : SubN S T) : SubN (compN r n set S) T := by
  rw [← comp_split h hS]; exact comp_in hS n
/-- If a set is its own only part, no cut of it is without edges. -/
theorem parts_one {r : Nat → Nat} {n set : Nat} (hr : NG n r) (hset : set < 2 ^ n) (h0 : set ≠ 0) {p : Nat} (hp : p ∈ partsN r n set 128 set) (he : p = set) :
    (partsN r n set 128 set).length = 1 ∧ compN r n set (2 ^ lowN set) = set := by
  have hss : SplitN r set set := ⟨SubN.refl _, fun _ _ _ h _ => h⟩
  have hf := part_facts hr hset hss h0
  have h7 := pow_le7 hr.le
  rw [show (128 : Nat) = 127 + 1 from rfl, partsN, if_neg h0] at hp ⊢
  have key : compN r n set (2 ^ lowN set) = set := by
    rcases List.mem_cons.1 hp with e | hp
    · rw [← e, he]
    · exfalso
      have := (parts_in hr hset 127 _ hf.next p hp).1
      obtain ⟨i, hi⟩ := Nat.exists_testBit_of_ne_zero hf.pos
      have h2 := this i (by rw [he]; exact hf.sub i hi)
      rw [sub_bit (by omega) hf.sub, hi] at h2
      simp at h2
  refine ⟨?_, key⟩
  rw [key, Nat.sub_self]
  simp [partsN]
theorem one_part {r : Nat → Nat} {n set : Nat} (hr : NG n r) (hset : set < 2 ^ n) (h0 : set ≠ 0) (h1 : (partsN r n set 128 set).length = 1) : compN r n set (2 ^ lowN set) = set := by
  have hss : SplitN r set set := ⟨SubN.refl _, fun _ _ _ h _ => h⟩
  have hf := part_facts hr hset hss h0
  have h7 := pow_le7 hr.le
  rw [show (128 : Nat) = 126 + 1 + 1 from rfl, partsN, if_neg h0, partsN] at h1
  by_cases hz : set - compN r n set (2 ^ lowN set) = 0
  · refine SubN.antisymm hf.sub fun i hi => ?_
    have := sub_bit (by omega) hf.sub i
    rw [hz, hi] at this
    simpa using this.symm
  · rw [if_neg hz] at h1; simp at h1
theorem one_no_cut {r : Nat → Nat} {n set : Nat} (hr : NG n r) (hset : set < 2 ^ n) (h0 : set ≠ 0) (h1 : compN r n set (2 ^ lowN set) = set) {Q : Nat → Prop} (hQ : Cuts (eN r) (fun x => set.testBit x = true) Q false) : False := by
  have h7 := pow_le7 hr.le
  obtain ⟨⟨q, hq⟩, hQS, ⟨y, hy, hny⟩, hc⟩ := hQ
  have hlow := (low_spec ⟨set, by omega⟩ h0).1
  dsimp only at hlow
  have key : ∀ R : Nat → Prop, R (lowN set) → (∀ x, R x → set.testBit x = true) → (∀ x y, R x → set.testBit y = true → ¬ R y → eN r x y = false) → ∀ z, set.testBit z = true → R z := fun R hR hRS hRc z hz => by
    have hbit : ∀ i, (maskU (fun i => @decide (R i) (Classical.propDecidable _)) n).testBit i = true ↔ R i := fun i => by
      rw [maskU_bit, Bool.and_eq_true]
      simp only [decide_eq_true_eq]
      exact ⟨fun h => h.2, fun h => ⟨has_lt hset (hRS i h), h⟩⟩
    have hsp : SplitN r (maskU (fun i => @decide (R i) (Classical.propDecidable _)) n) set := ⟨fun i hi => hRS i ((hbit i).1 hi), fun x y hx hy hxy => (hbit y).2 (Classical.byContradiction fun hn => by
      have := hRc x y ((hbit x).1 hx) hy hn
      unfold eN at this; rw [this] at hxy; cases hxy)⟩
    have := comp_sub (n := n) hsp (pow_sub ((hbit _).2 hR))
    rw [h1] at this
    exact (hbit z).1 (this z hz)
  by_cases hl : Q (lowN set)
  · exact hny (key Q hl hQS hc y hy)
  · refine (key (fun x => set.testBit x = true ∧ ¬ Q x) ⟨hlow, hl⟩ (fun x h => h.1) (fun x z hx hz hnz => ?_) q (hQS q hq)).2 hq
    have hzQ : Q z := Classical.byContradiction fun h => hnz ⟨hz, h⟩
    have := hc z x hzQ hx.1 hx.2
    unfold eN at this ⊢
    rw [hr.sym x z (has_lt hset hx.1) (has_lt hset hz)]; exact this
/-- In a graph without induced path of four, a set of two or more vertices is no part of itself in the graph, or none in the complement. -/
theorem cog_parts {r s : Nat → Nat} {n set : Nat} (hr : NG n r) (hs : NG n s) (hco : ∀ x y, x < n → y < n → eN s x y = coE (eN r) x y) (hp : P4f (eN r)) (hsym : ∀ x y, eN r x y = eN r y x) (hset : set < 2 ^ n) (h2 : 1 < cntN set) :
    ((partsN r n set 128 set).length = 1 → ∀ p ∈ partsN s n set 128 set, cntN p < cntN set) ∧ ((partsN r n set 128 set).length ≠ 1 → ∀ p ∈ partsN r n set 128 set, cntN p < cntN set) := by
  have h7 := pow_le7 hr.le
  have h0 : set ≠ 0 := fun e => by rw [e, cntN_zero] at h2; omega
  have hself : ∀ q : Nat → Nat, SplitN q set set := fun q => ⟨SubN.refl _, fun _ _ _ h _ => h⟩
  have hlt : ∀ q, NG n q → ∀ p ∈ partsN q n set 128 set, p ≠ set → cntN p < cntN set := fun q hq p hpm hne => cnt_lt (by omega) (parts_in hq hset 128 set (hself q) p hpm).1 hne
  refine ⟨fun h1 p hpm => hlt s hs p hpm fun e => ?_, fun h1 p hpm => hlt r hr p hpm fun e => h1 (parts_one hr hset h0 hpm e).1⟩
  have c1 := one_part hr hset h0 h1
  have c2 := (parts_one hs hset h0 hpm e).2
  obtain ⟨x, y, hx, hy, hne⟩ : ∃ x y, set.testBit x = true ∧ set.testBit y = true ∧ x ≠ y := by
    obtain ⟨x, hx⟩ := Nat.exists_testBit_of_ne_zero h0
    refine Classical.byContradiction fun hno => ?_
    have hsub : SubN set (2 ^ x) := fun i hi => by
      have : i = x := Classical.byContradiction fun hne => hno ⟨i, x, hi, hx, hne⟩
      rw [this, Nat.testBit_two_pow]; simp
    have he : set = 2 ^ x := SubN.antisymm hsub (pow_sub hx)
    have hx7 : x < 7 := has_lt (by omega : set < 2 ^ 7) hx
    have : ∀ v : Fin 7, cntN (2 ^ v.val) = 1 := by decide
    have := this ⟨x, hx7⟩
    rw [he] at h2; dsimp only at this; omega
  obtain ⟨Q, c, hQ⟩ := cog_cut hsym hp n (fun x => set.testBit x = true) (fun x hx => has_lt hset hx) ⟨x, y, hx, hy, hne⟩
  cases c with
  | false => exact one_no_cut hr hset h0 c1 hQ
  | true =>
    refine one_no_cut hs hset h0 c2 (Q := Q) ⟨hQ.1, hQ.2.1, hQ.2.2.1, fun x y hx hy hny => ?_⟩
    rw [hco x y (has_lt hset (hQ.2.1 x hx)) (has_lt hset hy)]
    exact coE_false.2 (.inl (hQ.2.2.2 x y hx hy hny))
end Go.Pw
