import Derived.Test.YtoejpckfeflkaaaGreatDoorPwPcc
import Derived.Test.YtoejpckfeflkaaaGreatDoorPwPqg
import Derived.Test.YtoejpckfeflkaaaGreatDoorPwPfl
import Derived.Test.YtoejpckfeflkaaaGreatDoorPwPkd
/- The plain mathematics of cographs: a set of two or more vertices falls in two parts, with no edges or all edges between; clique numbers of such sets. -/
namespace Go.Pw
open Go
def P4f (E : Nat → Nat → Bool) : Prop := ∀ a b c d, E a b = true → E b c = true → E c d = true → E a c = false → E a d = false → E b d = false → False
def coE (E : Nat → Nat → Bool) (x y : Nat) : Bool := !E x y && decide (x ≠ y)
theorem coE_true {E : Nat → Nat → Bool} {x y : Nat} : coE E x y = true ↔ E x y = false ∧ x ≠ y := by simp [coE]
theorem coE_false {E : Nat → Nat → Bool} {x y : Nat} : coE E x y = false ↔ E x y = true ∨ x = y := by
  unfold coE
  cases E x y <;> simp
theorem coE_sym {E : Nat → Nat → Bool} (hs : ∀ x y, E x y = E y x) (x y : Nat) : coE E x y = coE E y x := by
  unfold coE
  rw [hs x y]
  by_cases h : x = y
  · subst h; rfl
  · have h2 : ¬ y = x := fun e => h e.symm
    simp [h, h2]
theorem P4f.co {E : Nat → Nat → Bool} (hs : ∀ x y, E x y = E y x) (h : P4f E) : P4f (coE E) := by
  intro a b c d h1 h2 h3 h4 h5 h6
  have nac : a ≠ c := fun e => by subst e; rw [h3] at h5; cases h5
  have nad : a ≠ d := fun e => by
    subst e; rw [coE_sym hs] at h3; rw [h3] at h4; cases h4
  have nbd : b ≠ d := fun e => by subst e; rw [h1] at h5; cases h5
  rw [coE_true] at h1 h2 h3
  rw [coE_false] at h4 h5 h6
  have e1 : E a c = true := h4.resolve_right nac
  have e2 : E a d = true := h5.resolve_right nad
  have e3 : E b d = true := h6.resolve_right nbd
  exact h c a d b (by rw [hs]; exact e1) e2 (by rw [hs]; exact e3) h3.1 (by rw [hs]; exact h2.1) h1.1
/-- A set Q cuts a set S: not empty, not all, and between it and the rest there are no edges or all edges. -/
def Cuts (E : Nat → Nat → Bool) (S Q : Nat → Prop) (c : Bool) : Prop := (∃ x, Q x) ∧ (∀ x, Q x → S x) ∧ (∃ y, S y ∧ ¬ Q y) ∧ ∀ x y, Q x → S y → ¬ Q y → E x y = c
theorem cut_key1 {F : Nat → Nat → Bool} (hs : ∀ x y, F x y = F y x) (hp : P4f F) {A B : Nat → Prop} {v : Nat} (hv : ¬ A v) (hAB : ∀ a b, A a → B b → F a b = false)
    {b d : Nat} (hb : A b) (hvb : F v b = false) (hd : B d) (hvd : F v d = true) : ∃ Q, Cuts F (fun x => A x ∨ B x ∨ x = v) Q false := by
  refine ⟨fun x => A x ∧ F v x = false, ⟨b, hb, hvb⟩, fun x h => .inl h.1, ⟨v, .inr (.inr rfl), fun h => hv h.1⟩, fun x y hx hy hny => ?_⟩
  rcases hy with hy | hy | rfl
  · cases hvy : F v y with
    | false => exact absurd ⟨hy, hvy⟩ hny
    | true =>
      cases hxy : F x y with
      | false => rfl
      | true => exact (hp x y v d hxy (by rw [hs]; exact hvy) hvd (by rw [hs]; exact hx.2) (hAB _ _ hx.1 hd) (hAB _ _ hy hd)).elim
  · exact hAB _ _ hx.1 hy
  · rw [hs]; exact hx.2
theorem cut_key {F : Nat → Nat → Bool} (hs : ∀ x y, F x y = F y x) (hp : P4f F) {A B : Nat → Prop} {v : Nat} (hvA : ¬ A v) (hvB : ¬ B v) (hd : ∀ x, A x → ¬ B x) (hA : ∃ x, A x) (hB : ∃ x, B x)
    (hAB : ∀ a b, A a → B b → F a b = false) : ∃ Q c, Cuts F (fun x => A x ∨ B x ∨ x = v) Q c := by
  obtain ⟨a0, ha0⟩ := hA
  obtain ⟨b0, hb0⟩ := hB
  by_cases h1 : ∃ d, B d ∧ F v d = true
  case neg =>
    refine ⟨B, false, ⟨b0, hb0⟩, fun x h => .inr (.inl h), ⟨a0, .inl ha0, hd _ ha0⟩, fun x y hx hy hny => ?_⟩
    rcases hy with hy | hy | rfl
    · rw [hs]; exact hAB _ _ hy hx
    · exact absurd hy hny
    · cases hf : F x y with
      | false => rfl
      | true => exact absurd ⟨x, hx, by rw [hs]; exact hf⟩ h1
  by_cases h2 : ∃ d, A d ∧ F v d = true
  case neg =>
    refine ⟨A, false, ⟨a0, ha0⟩, fun x h => .inl h, ⟨b0, .inr (.inl hb0), fun h => hd _ h hb0⟩, fun x y hx hy hny => ?_⟩
    rcases hy with hy | hy | rfl
    · exact absurd hy hny
    · exact hAB _ _ hx hy
    · cases hf : F x y with
      | false => rfl
      | true => exact absurd ⟨x, hx, by rw [hs]; exact hf⟩ h2
  obtain ⟨dB, hdB, hvdB⟩ := h1
  obtain ⟨dA, hdA, hvdA⟩ := h2
  by_cases h3 : ∃ b, A b ∧ F v b = false
  · obtain ⟨b, hb, hvb⟩ := h3
    obtain ⟨Q, hQ⟩ := cut_key1 hs hp hvA hAB hb hvb hdB hvdB
    exact ⟨Q, false, hQ⟩
  by_cases h4 : ∃ b, B b ∧ F v b = false
  · obtain ⟨b, hb, hvb⟩ := h4
    obtain ⟨Q, hQ⟩ := cut_key1 (A := B) (B := A) hs hp hvB (fun a b ha hb => by rw [hs]; exact hAB _ _ hb ha) hb hvb hdA hvdA
    refine ⟨Q, false, ?_⟩
    have : (fun x => B x ∨ A x ∨ x = v) = (fun x => A x ∨ B x ∨ x = v) := by
      funext x; apply propext; constructor <;> (intro h; rcases h with h | h | h <;> simp [h])
    rw [this] at hQ; exact hQ
  refine ⟨fun x => x = v, true, ⟨v, rfl⟩, fun x h => .inr (.inr h), ⟨a0, .inl ha0, fun e => hvA (e ▸ ha0)⟩, fun x y hx hy hny => ?_⟩
  subst hx
  rcases hy with hy | hy | hy
  · cases hf : F x y with
    | true => rfl
    | false => exact absurd ⟨y, hy, hf⟩ h3
  · cases hf : F x y with
    | true => rfl
    | false => exact absurd ⟨y, hy, hf⟩ h4
  · exact absurd hy hny
theorem cog_cut {E : Nat → Nat → Bool} (hs : ∀ x y, E x y = E y x) (hp : P4f E) : ∀ k (S : Nat → Prop), (∀ x, S x → x < k) → (∃ x y, S x ∧ S y ∧ x ≠ y) → ∃ Q c, Cuts E S Q c
  | 0, S, hk, ⟨x, _, hx, _⟩ => absurd (hk x hx) (Nat.not_lt_zero x)
  | k + 1, S, hk, h2 => by
    by_cases hSk : S k
    case neg => exact cog_cut hs hp k S (fun x hx => by have := hk x hx; have : x ≠ k := fun e => hSk (e ▸ hx); omega) h2
    by_cases h3 : ∃ x y, (S x ∧ x ≠ k) ∧ (S y ∧ y ≠ k) ∧ x ≠ y
    case neg =>
      obtain ⟨x, y, hx, hy, hxy⟩ := h2
      obtain ⟨u, hu, huk⟩ : ∃ u, S u ∧ u ≠ k := by
        by_cases hxk : x = k
        · exact ⟨y, hy, fun e => hxy (hxk.trans e.symm)⟩
        · exact ⟨x, hx, hxk⟩
      refine ⟨fun x => x = k, E k u, ⟨k, rfl⟩, fun x e => e ▸ hSk, ⟨u, hu, huk⟩, fun a b ha hb hnb => ?_⟩
      have : b = u := Classical.byContradiction fun hbu => h3 ⟨b, u, ⟨hb, hnb⟩, ⟨hu, huk⟩, hbu⟩
      rw [ha, this]
    obtain ⟨Q, c, ⟨q0, hq0⟩, hQS, ⟨y0, hy0, hny0⟩, hQ⟩ := cog_cut hs hp k (fun x => S x ∧ x ≠ k) (fun x hx => by have := hk x hx.1; have := hx.2; omega) h3
    have key : ∀ F : Nat → Nat → Bool, (∀ x y, F x y = F y x) → P4f F → (∀ x y, Q x → (S y ∧ y ≠ k) → ¬ Q y → F x y = false) → ∃ Q c, Cuts F S Q c := fun F hFs hFp hF => by
      obtain ⟨R, d, hR⟩ := cut_key (A := Q) (B := fun x => (S x ∧ x ≠ k) ∧ ¬ Q x) (v := k) hFs hFp (fun h => (hQS _ h).2 rfl) (fun h => h.1.2 rfl) (fun x h h' => h'.2 h) ⟨q0, hq0⟩ ⟨y0, hy0, hny0⟩ (fun a b ha hb => hF a b ha hb.1 hb.2)
      refine ⟨R, d, ?_⟩
      have : (fun x => Q x ∨ ((S x ∧ x ≠ k) ∧ ¬ Q x) ∨ x = k) = S := by
        funext x; apply propext; constructor
        · rintro (h | h | h)
          · exact (hQS _ h).1
          · exact h.1.1
          · exact h ▸ hSk
        · intro h
          by_cases hxk : x = k
          · exact .inr (.inr hxk)
          · by_cases hq : Q x
            · exact .inl hq
            · exact .inr (.inl ⟨⟨h, hxk⟩, hq⟩)
      rw [this] at hR; exact hR
    cases c with
    | false => exact key E hs hp hQ
    | true =>
      obtain ⟨R, d, h1, h2, h3, h4⟩ := key (coE E) (coE_sym hs) (hp.co hs) (fun x y hx hy hny => coE_false.2 (.inl (hQ x y hx hy hny)))
      refine ⟨R, !d, h1, h2, h3, fun x y hx hy hny => ?_⟩
      have hne : x ≠ y := fun e => hny (e ▸ hx)
      have := h4 x y hx hy hny
      unfold coE at this
      rw [← this]; simp [hne]
end Go.Pw
/- Clique numbers of vertex sets, and how they add up over parts. -/
namespace Go.Pw
open Go
def clqM (E : Nat → Nat → Bool) (C : Nat) : Prop := ∀ x y, C.testBit x = true → C.testBit y = true → x ≠ y → E x y = true
def IsOm (E : Nat → Nat → Bool) (S m : Nat) : Prop := (∃ C, C < 128 ∧ SubN C S ∧ clqM E C ∧ cntN C = m) ∧ ∀ C, C < 128 → SubN C S → clqM E C → cntN C ≤ m
theorem IsOm.uniq {E : Nat → Nat → Bool} {S m k : Nat} (h : IsOm E S m) (h' : IsOm E S k) : m = k := by
  obtain ⟨⟨C, a1, a2, a3, a4⟩, a5⟩ := h
  obtain ⟨⟨D, b1, b2, b3, b4⟩, b5⟩ := h'
  have := a5 D b1 b2 b3
  have := b5 C a1 a2 a3
  omega
theorem cntN_zero : cntN 0 = 0 := by decide
theorem cntN_le7 (S : Nat) : cntN S ≤ 7 := Nat.le_trans (List.length_filter_le _ _) (by simp)
theorem isOm_ex (E : Nat → Nat → Bool) (S : Nat) : ∃ m, IsOm E S m := by
  have key : ∀ d m, m + d = 8 → (∃ C, C < 128 ∧ SubN C S ∧ clqM E C ∧ m ≤ cntN C) → ∃ k, IsOm E S k := by
    intro d
    induction d with
    | zero => rintro m hm ⟨C, _, _, _, h⟩; have := cntN_le7 C; omega
    | succ d ih =>
      rintro m hm ⟨C, h1, h2, h3, h4⟩
      by_cases hx : ∃ C, C < 128 ∧ SubN C S ∧ clqM E C ∧ m + 1 ≤ cntN C
      · exact ih (m + 1) (by omega) hx
      · refine ⟨m, ⟨C, h1, h2, h3, ?_⟩, fun D d1 d2 d3 => ?_⟩
        · have : ¬ m + 1 ≤ cntN C := fun h => hx ⟨C, h1, h2, h3, h⟩
          omega
        · have : ¬ m + 1 ≤ cntN D := fun h => hx ⟨D, d1, d2, d3, h⟩
          omega
  exact key 8 0 rfl ⟨0, by omega, fun i hi => by simp at hi, fun x y hx => by simp at hx, Nat.zero_le _⟩
noncomputable def omM (E : Nat → Nat → Bool) (S : Nat) : Nat := Classical.choose (isOm_ex E S)
theorem omM_is (E : Nat → Nat → Bool) (S : Nat) : IsOm E S (omM E S) := Classical.choose_spec (isOm_ex E S)
theorem omM_eq {E : Nat → Nat → Bool} {S m : Nat} (h : IsOm E S m) : omM E S = m := (omM_is E S).uniq h
theorem omM_le (E : Nat → Nat → Bool) (S : Nat) : omM E S ≤ 7 := by
  obtain ⟨⟨C, _, _, _, h⟩, _⟩ := omM_is E S
  rw [← h]; exact cntN_le7 C
theorem omM_zero (E : Nat → Nat → Bool) : omM E 0 = 0 := omM_eq ⟨⟨0, by omega, SubN.refl _, fun x y hx => by simp at hx, cntN_zero⟩, fun C _ h _ => by
  have : C = 0 := by have := subN_and.1 h; simpa using this.symm
  rw [this, cntN_zero]; exact Nat.le_refl _⟩
theorem filter_or_len {α : Type} (p q : α → Bool) : ∀ l : List α, (∀ x ∈ l, ¬ (p x = true ∧ q x = true)) → (l.filter fun x => p x || q x).length = (l.filter p).length + (l.filter q).length
  | [], _ => rfl
  | x :: l, h => by
    have ih := filter_or_len p q l fun y hy => h y (List.mem_cons_of_mem _ hy)
    have hx := h x List.mem_cons_self
    rw [List.filter_cons, List.filter_cons, List.filter_cons]
    cases hp : p x <;> cases hq : q x
    · simpa using ih
    · simp [ih]; omega
    · simp [ih]; omega
    · exact absurd ⟨hp, hq⟩ hx
def DisN (A B : Nat) : Prop := ∀ i, A.testBit i = true → ¬ B.testBit i = true
theorem cnt_union {A B : Nat} (h : DisN A B) : cntN (A ||| B) = cntN A + cntN B := by
  unfold cntN
  rw [← filter_or_len _ _ _ fun x _ hx => h x hx.1 hx.2]
  simp [Nat.testBit_or]
theorem and_or_parts {C A B : Nat} (h : SubN C (A ||| B)) : (C &&& A) ||| (C &&& B) = C := by
  rw [← Nat.and_or_distrib_left]; exact subN_and.1 h
theorem sub_or {C A B : Nat} (h : SubN C A) : SubN C (A ||| B) := fun i hi => by rw [Nat.testBit_or, h i hi]; rfl
theorem sub_or' {C A B : Nat} (h : SubN C B) : SubN C (A ||| B) := fun i hi => by rw [Nat.testBit_or, h i hi]; simp
theorem om_none {E : Nat → Nat → Bool} {A B : Nat} (hd : DisN A B) (h : ∀ x y, A.testBit x = true → B.testBit y = true → E x y = false) : omM E (A ||| B) = max (omM E A) (omM E B) := by
  obtain ⟨⟨CA, a1, a2, a3, a4⟩, a5⟩ := omM_is E A
  obtain ⟨⟨CB, b1, b2, b3, b4⟩, b5⟩ := omM_is E B
  refine omM_eq ⟨?_, fun C h1 h2 h3 => ?_⟩
  · rcases Nat.le_total (omM E A) (omM E B) with hle | hle
    · exact ⟨CB, b1, sub_or' b2, b3, by omega⟩
    · exact ⟨CA, a1, sub_or a2, a3, by omega⟩
  · by_cases hB : ∃ y, C.testBit y = true ∧ B.testBit y = true
    · obtain ⟨y, hy, hyB⟩ := hB
      have : SubN C B := fun x hx => by
        have hx2 := h2 x hx
        rw [Nat.testBit_or, Bool.or_eq_true] at hx2
        rcases hx2 with hx2 | hx2
        · have hne : x ≠ y := fun e => hd x hx2 (e ▸ hyB)
          have e1 := h3 x y hx hy hne
          rw [h x y hx2 hyB] at e1; cases e1
        · exact hx2
      have := b5 C h1 this h3
      omega
    · have : SubN C A := fun x hx => by
        have hx2 := h2 x hx
        rw [Nat.testBit_or, Bool.or_eq_true] at hx2
        rcases hx2 with hx2 | hx2
        · exact hx2
        · exact absurd ⟨x, hx, hx2⟩ hB
      have := a5 C h1 this h3
      omega
theorem om_all {E : Nat → Nat → Bool} (hs : ∀ x y, E x y = E y x) {A B : Nat} (hd : DisN A B) (h : ∀ x y, A.testBit x = true → B.testBit y = true → E x y = true) : omM E (A ||| B) = omM E A + omM E B := by
  obtain ⟨⟨CA, a1, a2, a3, a4⟩, a5⟩ := omM_is E A
  obtain ⟨⟨CB, b1, b2, b3, b4⟩, b5⟩ := omM_is E B
  refine omM_eq ⟨⟨CA ||| CB, Nat.or_lt_two_pow (n := 7) a1 b1, fun i hi => ?_, fun x y hx hy hne => ?_, ?_⟩, fun C h1 h2 h3 => ?_⟩
  · rw [Nat.testBit_or, Bool.or_eq_true] at hi
    rcases hi with hi | hi
    · exact sub_or a2 i hi
    · exact sub_or' b2 i hi
  · rw [Nat.testBit_or, Bool.or_eq_true] at hx hy
    rcases hx with hx | hx <;> rcases hy with hy | hy
    · exact a3 x y hx hy hne
    · exact h x y (a2 x hx) (b2 y hy)
    · rw [hs]; exact h y x (a2 y hy) (b2 x hx)
    · exact b3 x y hx hy hne
  · rw [cnt_union fun i hi hi' => hd i (a2 i hi) (b2 i hi'), a4, b4]
  · have e := and_or_parts h2
    have sA : SubN (C &&& A) A := fun i hi => by rw [Nat.testBit_and, Bool.and_eq_true] at hi; exact hi.2
    have sB : SubN (C &&& B) B := fun i hi => by rw [Nat.testBit_and, Bool.and_eq_true] at hi; exact hi.2
    have cA : SubN (C &&& A) C := fun i hi => by rw [Nat.testBit_and, Bool.and_eq_true] at hi; exact hi.1
    have cB : SubN (C &&& B) C := fun i hi => by rw [Nat.testBit_and, Bool.and_eq_true] at hi; exact hi.1
    have l1 := a5 (C &&& A) (Nat.lt_of_le_of_lt Nat.and_le_left h1) sA fun x y hx hy => h3 x y (cA x hx) (cA y hy)
    have l2 := b5 (C &&& B) (Nat.lt_of_le_of_lt Nat.and_le_left h1) sB fun x y hx hy => h3 x y (cB x hx) (cB y hy)
    have := cnt_union (A := C &&& A) (B := C &&& B) fun i hi hi' => hd i (sA i hi) (sB i hi')
    rw [e] at this
    omega
/-- The edges that rows of masks hold. -/
def eN (r : Nat → Nat) (x y : Nat) : Bool := (r x).testBit y
theorem om_congr {E F : Nat → Nat → Bool} {S : Nat} (h : ∀ x y, S.testBit x = true → S.testBit y = true → x ≠ y → E x y = F x y) : omM E S = omM F S := by
  obtain ⟨⟨C, b1, b2, b3, b4⟩, b5⟩ := omM_is F S
  exact omM_eq ⟨⟨C, b1, b2, fun x y hx hy hne => by rw [h x y (b2 x hx) (b2 y hy) hne]; exact b3 x y hx hy hne, b4⟩,
    fun D d1 d2 d3 => b5 D d1 d2 fun x y hx hy hne => by rw [← h x y (d2 x hx) (d2 y hy) hne]; exact d3 x y hx hy hne⟩
theorem or_sub {A B : Nat} (hA : A < 128) (h : SubN B A) : B ||| (A - B) = A := by
  apply Nat.eq_of_testBit_eq
  intro i
  rw [Nat.testBit_or, sub_bit hA h]
  cases ha : A.testBit i <;> cases hb : B.testBit i <;> first | rfl | (have := h i hb; rw [ha] at this; cases this)
structure PartF (r : Nat → Nat) (n set left p : Nat) : Prop where
  sub : SubN p left
  pos : p ≠ 0
  next : SplitN r (left - p) set
  far : ∀ x y, p.testBit x = true → (left - p).testBit y = true → (r x).testBit y = false
theorem part_facts {r : Nat → Nat} {n set left : Nat} (hr : NG n r) (hset : set < 2 ^ n) (h : SplitN r left set) (h0 : left ≠ 0) : PartF r n set left (compN r n set (2 ^ lowN left)) := by
  have hl := lt_of_sub h.1 hset
  have h7 := pow_le7 hr.le
  have hlow := (low_spec ⟨left, by omega⟩ h0).1
  have hps : SubN (2 ^ lowN left) left := pow_sub hlow
  have hp0 : 2 ^ lowN left ≠ 0 := Nat.pos_iff_ne_zero.1 (Nat.two_pow_pos _)
  have hs := split_next hr.le hr hset h hp0 hps
  have hin : SubN (compN r n left (2 ^ lowN left)) left := comp_in hps n
  rw [comp_split h hps] at hs hin
  refine ⟨hin, comp_pos (SubN.trans hps h.1) hp0, hs, fun x y hx hy => ?_⟩
  cases hb : (r x).testBit y with
  | false => rfl
  | true =>
    have hxl := hin x hx
    have hyl : left.testBit y = true := by rw [sub_bit (by omega) hin, Bool.and_eq_true] at hy; exact hy.1
    have := hs.2 y x hy (h.1 x hxl) (by rw [hr.sym y x (has_lt hl hyl) (has_lt hl hxl)]; exact hb)
    rw [sub_bit (by omega) hin, hx] at this
    simp at this
theorem parts_in {r : Nat → Nat} {n set : Nat} (hr : NG n r) (hset : set < 2 ^ n) : ∀ f left, SplitN r left set → ∀ p ∈ partsN r n set f left, SubN p left ∧ p ≠ 0
  | 0, _, _, p, hp => by simp [partsN] at hp
  | f + 1, left, h, p, hp => by
    rw [partsN] at hp
    by_cases h0 : left = 0
    · rw [if_pos h0] at hp; cases hp
    · rw [if_neg h0] at hp
      have hf := part_facts hr hset h h0
      rcases List.mem_cons.1 hp with rfl | hp
      · exact ⟨hf.sub, hf.pos⟩
      · have := parts_in hr hset f _ hf.next p hp
        have h7 := pow_le7 hr.le
        have hl := lt_of_sub h.1 hset
        exact ⟨fun i hi => by have := this.1 i hi; rw [sub_bit (by omega) hf.sub, Bool.and_eq_true] at this; exact this.1, this.2⟩
theorem parts_om {r : Nat → Nat} {n set : Nat} (hr : NG n r) (hset : set < 2 ^ n) : ∀ f left, SplitN r left set → cntN left ≤ f → ∀ a b,
    ((partsN r n set f left).map (omM (eN r))).foldl max a = max a (omM (eN r) left) ∧ ((partsN r n set f left).map (omM (coE (eN r)))).foldl (· + ·) b = b + omM (coE (eN r)) left
  | 0, left, h, hc, a, b => by
    have h7 := pow_le7 hr.le
    have hl := lt_of_sub h.1 hset
    have : left = 0 := Classical.byContradiction fun h0 => by
      have := (cnt_pos ⟨left, by omega⟩).2 h0
      dsimp only at this; omega
    subst this
    rw [omM_zero, omM_zero]; simp [partsN]
  | f + 1, left, h, hc, a, b => by
    rw [partsN]
    by_cases h0 : left = 0
    · subst h0; rw [if_pos rfl, omM_zero, omM_zero]; simp
    · rw [if_neg h0]
      have hf := part_facts hr hset h h0
      have h7 := pow_le7 hr.le
      have hl := lt_of_sub h.1 hset
      generalize compN r n set (2 ^ lowN left) = p at hf ⊢
      have hor := or_sub (by omega) hf.sub
      have hdis : DisN p (left - p) := fun i hi hi' => by rw [sub_bit (by omega) hf.sub, hi] at hi'; simp at hi'
      have hlt : cntN (left - p) < cntN left := cnt_lt (by omega) (fun i hi => by rw [sub_bit (by omega) hf.sub, Bool.and_eq_true] at hi; exact hi.1) (fun e => by
        obtain ⟨i, hi⟩ := Nat.exists_testBit_of_ne_zero hf.pos
        have := hdis i hi; rw [e] at this; exact this (hf.sub i hi))
      have sE : ∀ x y, p.testBit x = true → (left - p).testBit y = true → eN r x y = false := hf.far
      have e1 := om_none (E := eN r) hdis sE
      have ih := parts_om hr hset f (left - p) hf.next (by omega) (max a (omM (eN r) p)) (b + omM (coE (eN r)) p)
      have e2 : omM (coE (eN r)) (p ||| (left - p)) = omM (coE (eN r)) p + omM (coE (eN r)) (left - p) := by
        have hc2 : ∀ S, SubN S left → omM (coE (eN r)) S = omM (fun x y => decide (x < n) && decide (y < n) && coE (eN r) x y) S := fun S hS => om_congr fun x y hx hy _ => by
          have := has_lt hl (hS x hx); have := has_lt hl (hS y hy); simp [*]
        rw [hc2 _ (by rw [hor]; exact SubN.refl _), hc2 p hf.sub, hc2 (left - p) (fun i hi => by rw [sub_bit (by omega) hf.sub, Bool.and_eq_true] at hi; exact hi.1)]
        refine om_all (fun x y => ?_) hdis fun x y hx hy => ?_
        · by_cases hx : x < n <;> by_cases hy : y < n <;> simp [hx, hy]
          unfold coE eN
          rw [hr.sym x y hx hy]
          by_cases e : x = y
          · subst e; rfl
          · have e' : ¬ y = x := fun h => e h.symm
            simp [e, e']
        · have hyl : left.testBit y = true := by rw [sub_bit (by omega) hf.sub, Bool.and_eq_true] at hy; exact hy.1
          have a1 := has_lt hl (hf.sub x hx)
          have a2 := has_lt hl hyl
          have a3 : coE (eN r) x y = true := coE_true.2 ⟨sE x y hx hy, fun e => hdis x hx (e ▸ hy)⟩
          simp [a1, a2, a3]
      rw [hor] at e1 e2
      simp only [List.map_cons, List.foldl_cons]
      rw [ih.1, ih.2, e1, e2]
      exact ⟨by omega, by omega⟩
theorem comp_sub {r : Nat → Nat} {n set T S : Nat} (h : SplitN r T set) (hS : SubN S T) : SubN (compN r n set S) T := by
  rw [← comp_split h hS]; exact comp_in hS n
/-- If a set is its own only part, no cut of it is without edges. -/
theorem parts_one {r : Nat → Nat} {n set : Nat} (hr : NG n r) (hset : set < 2 ^ n) (h0 : set ≠ 0) {p : Nat} (hp : p ∈ partsN r n set 128 set) (he : p = set) :
    (partsN r n set 128 set).length = 1 ∧ compN r n set (2 ^ lowN set) = set := by
  have hss : SplitN r set set := ⟨SubN.refl _, fun _ _ _ h _ => h⟩
  have hf := part_facts hr hset hss h0
  have h7 := pow_le7 hr.le
  rw [show (128 : Nat) = 127 + 1 from rfl, partsN, if_neg h0] at hp ⊢
  have key : compN r n set (2 ^ lowN set) = set := by
    rcases List.mem_cons.1 hp with e | hp
    · rw [← e, he]
    · exfalso
      have := (parts_in hr hset 127 _ hf.next p hp).1
      obtain ⟨i, hi⟩ := Nat.exists_testBit_of_ne_zero hf.pos
      have h2 := this i (by rw [he]; exact hf.sub i hi)
      rw [sub_bit (by omega) hf.sub, hi] at h2
      simp at h2
  refine ⟨?_, key⟩
  rw [key, Nat.sub_self]
  simp [partsN]
theorem one_part {r : Nat → Nat} {n set : Nat} (hr : NG n r) (hset : set < 2 ^ n) (h0 : set ≠ 0) (h1 : (partsN r n set 128 set).length = 1) : compN r n set (2 ^ lowN set) = set := by
  have hss : SplitN r set set := ⟨SubN.refl _, fun _ _ _ h _ => h⟩
  have hf := part_facts hr hset hss h0
  have h7 := pow_le7 hr.le
  rw [show (128 : Nat) = 126 + 1 + 1 from rfl, partsN, if_neg h0, partsN] at h1
  by_cases hz : set - compN r n set (2 ^ lowN set) = 0
  · refine SubN.antisymm hf.sub fun i hi => ?_
    have := sub_bit (by omega) hf.sub i
    rw [hz, hi] at this
    simpa using this.symm
  · rw [if_neg hz] at h1; simp at h1
theorem one_no_cut {r : Nat → Nat} {n set : Nat} (hr : NG n r) (hset : set < 2 ^ n) (h0 : set ≠ 0) (h1 : compN r n set (2 ^ lowN set) = set) {Q : Nat → Prop} (hQ : Cuts (eN r) (fun x => set.testBit x = true) Q false) : False := by
  have h7 := pow_le7 hr.le
  obtain ⟨⟨q, hq⟩, hQS, ⟨y, hy, hny⟩, hc⟩ := hQ
  have hlow := (low_spec ⟨set, by omega⟩ h0).1
  dsimp only at hlow
  have key : ∀ R : Nat → Prop, R (lowN set) → (∀ x, R x → set.testBit x = true) → (∀ x y, R x → set.testBit y = true → ¬ R y → eN r x y = false) → ∀ z, set.testBit z = true → R z := fun R hR hRS hRc z hz => by
    have hbit : ∀ i, (maskU (fun i => @decide (R i) (Classical.propDecidable _)) n).testBit i = true ↔ R i := fun i => by
      rw [maskU_bit, Bool.and_eq_true]
      simp only [decide_eq_true_eq]
      exact ⟨fun h => h.2, fun h => ⟨has_lt hset (hRS i h), h⟩⟩
    have hsp : SplitN r (maskU (fun i => @decide (R i) (Classical.propDecidable _)) n) set := ⟨fun i hi => hRS i ((hbit i).1 hi), fun x y hx hy hxy => (hbit y).2 (Classical.byContradiction fun hn => by
      have := hRc x y ((hbit x).1 hx) hy hn
      unfold eN at this; rw [this] at hxy; cases hxy)⟩
    have := comp_sub (n := n) hsp (pow_sub ((hbit _).2 hR))
    rw [h1] at this
    exact (hbit z).1 (this z hz)
  by_cases hl : Q (lowN set)
  · exact hny (key Q hl hQS hc y hy)
  · refine (key (fun x => set.testBit x = true ∧ ¬ Q x) ⟨hlow, hl⟩ (fun x h => h.1) (fun x z hx hz hnz => ?_) q (hQS q hq)).2 hq
    have hzQ : Q z := Classical.byContradiction fun h => hnz ⟨hz, h⟩
    have := hc z x hzQ hx.1 hx.2
    unfold eN at this ⊢
    rw [hr.sym x z (has_lt hset hx.1) (has_lt hset hz)]; exact this
/-- In a graph without induced path of four, a set of two or more vertices is no part of itself in the graph, or none in the complement. -/
theorem cog_parts {r s : Nat → Nat} {n set : Nat} (hr : NG n r) (hs : NG n s) (hco : ∀ x y, x < n → y < n → eN s x y = coE (eN r) x y) (hp : P4f (eN r)) (hsym : ∀ x y, eN r x y = eN r y x) (hset : set < 2 ^ n) (h2 : 1 < cntN set) :
    ((partsN r n set 128 set).length = 1 → ∀ p ∈ partsN s n set 128 set, cntN p < cntN set) ∧ ((partsN r n set 128 set).length ≠ 1 → ∀ p ∈ partsN r n set 128 set, cntN p < cntN set) := by
  have h7 := pow_le7 hr.le
  have h0 : set ≠ 0 := fun e => by rw [e, cntN_zero] at h2; omega
  have hself : ∀ q : Nat → Nat, SplitN q set set := fun q => ⟨SubN.refl _, fun _ _ _ h _ => h⟩
  have hlt : ∀ q, NG n q → ∀ p ∈ partsN q n set 128 set, p ≠ set → cntN p < cntN set := fun q hq p hpm hne => cnt_lt (by omega) (parts_in hq hset 128 set (hself q) p hpm).1 hne
  refine ⟨fun h1 p hpm => hlt s hs p hpm fun e => ?_, fun h1 p hpm => hlt r hr p hpm fun e => h1 (parts_one hr hset h0 hpm e).1⟩
  have c1 := one_part hr hset h0 h1
  have c2 := (parts_one hs hset h0 hpm e).2
  obtain ⟨x, y, hx, hy, hne⟩ : ∃ x y, set.testBit x = true ∧ set.testBit y = true ∧ x ≠ y := by
    obtain ⟨x, hx⟩ := Nat.exists_testBit_of_ne_zero h0
    refine Classical.byContradiction fun hno => ?_
    have hsub : SubN set (2 ^ x) := fun i hi => by
      have : i = x := Classical.byContradiction fun hne => hno ⟨i, x, hi, hx, hne⟩
      rw [this, Nat.testBit_two_pow]; simp
    have he : set = 2 ^ x := SubN.antisymm hsub (pow_sub hx)
    have hx7 : x < 7 := has_lt (by omega : set < 2 ^ 7) hx
    have : ∀ v : Fin 7, cntN (2 ^ v.val) = 1 := by decide
    have := this ⟨x, hx7⟩
    rw [he] at h2; dsimp only at this; omega
  obtain ⟨Q, c, hQ⟩ := cog_cut hsym hp n (fun x => set.testBit x = true) (fun x hx => has_lt hset hx) ⟨x, y, hx, hy, hne⟩
  cases c with
  | false => exact one_no_cut hr hset h0 c1 hQ
  | true =>
    refine one_no_cut hs hset h0 c2 (Q := Q) ⟨hQ.1, hQ.2.1, hQ.2.2.1, fun x y hx hy hny => ?_⟩
    rw [hco x y (has_lt hset (hQ.2.1 x hx)) (has_lt hset hy)]
    exact coE_false.2 (.inl (hQ.2.2.2 x y hx hy hny))
end Go.Pw
/- No induced path of four found: no three edges in a row without the others. -/
namespace Go.Pw
open Go
theorem getD_pre {l m : List Int} {i : Nat} (hi : i < l.length) : (l ++ m).getD i 0 = l.getD i 0 := by
  simp [List.getD, hi, List.getElem?_append_left]
theorem path_pre {size : Int} {rows l m : List Int} (h : pathP size rows (l ++ m)) (h1 : 1 ≤ l.length) : pathP size rows l := by
  obtain ⟨_, ⟨hg, hin, hap⟩, hj⟩ := h
  have hle : ∀ i, i < l.length → i < (l ++ m).length := fun i hi => by rw [List.length_append]; omega
  refine ⟨h1, ⟨hg, fun i hi => ?_, fun i hi j hj' => ?_⟩, fun k hk i hi => ?_⟩
  · have := hin i (hle i hi); rwa [getD_pre hi] at this
  · have := hap i (hle i hi) j hj'
    rwa [getD_pre hi, getD_pre (by omega)] at this
  · have := hj k (hle k hk) i hi
    unfold joinQ at this ⊢
    rwa [getD_pre hk, getD_pre (by omega)] at this
theorem firstG_none {N : Nat} {ok : List Int → Int → Bool} {fin : List Int → Bool} {d : Nat} {l : List Int} (h : firstG N ok fin (d + 1) l = none) {v : Nat} (hv : v < N) (ho : ok l (v : Int) = true) : firstG N ok fin d (l ++ [(v : Int)]) = none := by
  rw [firstG, List.findSome?_eq_none_iff] at h
  have := h v (List.mem_range.2 hv)
  rwa [if_pos ho] at this
theorem eN_lt {r : Nat → Nat} {n : Nat} (hr : NG n r) {x y : Nat} (h : eN r x y = true) : y < n := has_lt (hr.lt x) h
theorem eN_sym {size : Int} {rows : List Int} {n : Nat} (hg : IsG size rows) (hn : size = n) (x y : Nat) : eN (rowN rows) x y = eN (rowN rows) y x := by
  have hr := ng_of hg hn
  have hrl : rows.length = n := by obtain ⟨m, hm, hl, _, _⟩ := isG_size hg; omega
  have key : ∀ a b, eN (rowN rows) a b = true → eN (rowN rows) b a = true := fun a b h => by
    have hb := eN_lt hr h
    have ha : a < n := by
      refine Classical.byContradiction fun hna => ?_
      unfold eN rowN at h
      have : rows.getD a 0 = 0 := by simp [List.getD, List.getElem?_eq_none (by omega : rows.length ≤ a)]
      rw [this] at h; simp at h
    unfold eN at h ⊢
    rw [hr.sym b a hb ha]; exact h
  rw [Bool.eq_iff_iff]
  exact ⟨key x y, key y x⟩
theorem path_none {size : Int} {rows : List Int} {n : Nat} (hg : IsG size rows) (hn : size = n) (h : pathX size rows 4 = none) : P4f (eN (rowN rows)) := by
  intro a b c d hab hbc hcd hac had hbd
  have hr := ng_of hg hn
  have hs := eN_sym hg hn
  have hirr : ∀ x, eN (rowN rows) x x = false := fun x => by
    cases hx : eN (rowN rows) x x with
    | false => rfl
    | true =>
      have hlt := eN_lt hr hx
      have := hr.irr x hlt
      unfold eN at hx; rw [this] at hx; cases hx
  have la : a < n := eN_lt hr (by rw [hs]; exact hab)
  have lb : b < n := eN_lt hr hab
  have lc : c < n := eN_lt hr hbc
  have ld : d < n := eN_lt hr hcd
  have nab : a ≠ b := fun e => by subst e; rw [hirr] at hab; cases hab
  have nbc : b ≠ c := fun e => by subst e; rw [hirr] at hbc; cases hbc
  have ncd : c ≠ d := fun e => by subst e; rw [hirr] at hcd; cases hcd
  have nac : a ≠ c := fun e => by subst e; rw [had] at hcd; cases hcd
  have nad : a ≠ d := fun e => by subst e; rw [hs] at hcd; rw [hac] at hcd; cases hcd
  have nbd : b ≠ d := fun e => by subst e; rw [had] at hab; cases hab
  obtain ⟨m, hm, hrl, _, hm7⟩ := isG_size hg
  have h4 : 4 ≤ n := by omega
  have hbit : ∀ x y : Nat, y < n → hasB (rows.getD x 0) (y : Int) = eN (rowN rows) x y := fun x y hy => by
    have h7 := pow_le7 hr.le
    have := hr.lt x
    rw [rowN_eq hg x, hasB_nat (by omega) (by have := hr.le; omega)]; rfl
  have hP : pathP size rows [(a : Int), b, c, d] := by
    refine ⟨by simp, ⟨hg, fun i hi => ?_, fun i hi j hj => ?_⟩, fun k hk i hi => ?_⟩
    · have : i = 0 ∨ i = 1 ∨ i = 2 ∨ i = 3 := by simp at hi; omega
      rcases this with rfl | rfl | rfl | rfl <;> simp <;> omega
    · have hi' : i < 4 := by simpa using hi
      have : (j = 0 ∧ i = 1) ∨ (j = 0 ∧ i = 2) ∨ (j = 0 ∧ i = 3) ∨ (j = 1 ∧ i = 2) ∨ (j = 1 ∧ i = 3) ∨ (j = 2 ∧ i = 3) := by omega
      rcases this with ⟨rfl, rfl⟩ | ⟨rfl, rfl⟩ | ⟨rfl, rfl⟩ | ⟨rfl, rfl⟩ | ⟨rfl, rfl⟩ | ⟨rfl, rfl⟩ <;> simp <;> omega
    · have hk' : k < 4 := by simpa using hk
      have : (i = 0 ∧ k = 1) ∨ (i = 0 ∧ k = 2) ∨ (i = 0 ∧ k = 3) ∨ (i = 1 ∧ k = 2) ∨ (i = 1 ∧ k = 3) ∨ (i = 2 ∧ k = 3) := by omega
      unfold joinQ
      rcases this with ⟨rfl, rfl⟩ | ⟨rfl, rfl⟩ | ⟨rfl, rfl⟩ | ⟨rfl, rfl⟩ | ⟨rfl, rfl⟩ | ⟨rfl, rfl⟩
      · show hasB (rows.getD a 0) (b : Int) = true; rw [hbit a b lb]; exact hab
      · show hasB (rows.getD a 0) (c : Int) = false; rw [hbit a c lc]; exact hac
      · show hasB (rows.getD a 0) (d : Int) = false; rw [hbit a d ld]; exact had
      · show hasB (rows.getD b 0) (c : Int) = true; rw [hbit b c lc]; exact hbc
      · show hasB (rows.getD b 0) (d : Int) = false; rw [hbit b d ld]; exact hbd
      · show hasB (rows.getD c 0) (d : Int) = true; rw [hbit c d ld]; exact hcd
  have hN : size.toNat = n := by omega
  unfold pathX at h
  rw [if_pos ⟨hg, by omega, by omega⟩, show (4 : Int).toNat = 3 + 1 from rfl, hN] at h
  have g1 := firstG_none h la (decide_eq_true (path_pre (l := [(a : Int)]) (m := [(b : Int), c, d]) hP (by simp)))
  have g2 := firstG_none g1 lb (decide_eq_true (path_pre (l := [(a : Int), b]) (m := [(c : Int), d]) hP (by simp)))
  have g3 := firstG_none g2 lc (decide_eq_true (path_pre (l := [(a : Int), b, c]) (m := [(d : Int)]) hP (by simp)))
  have g4 := firstG_none g3 ld (decide_eq_true hP)
  simp [firstG] at g4
def bestN (P : Nat → Bool) : Nat → Nat
  | 0 => 0
  | k + 1 => if cntN (bestN P k) < cntN k ∧ P k = true then k else bestN P k
theorem bestN_lt (P : Nat → Bool) : ∀ k, bestN P k < k + 1
  | 0 => by simp [bestN]
  | k + 1 => by have := bestN_lt P k; rw [bestN]; split <;> omega
theorem bestN_spec (P : Nat → Bool) : ∀ k, (bestN P k = 0 ∨ (bestN P k < k ∧ P (bestN P k) = true)) ∧ ∀ C, C < k → P C = true → cntN C ≤ cntN (bestN P k)
  | 0 => ⟨.inl rfl, fun C h => by omega⟩
  | k + 1 => by
    obtain ⟨h1, h2⟩ := bestN_spec P k
    rw [bestN]
    split
    · rename_i h
      refine ⟨.inr ⟨by omega, h.2⟩, fun C hC hP => ?_⟩
      by_cases e : C = k
      · rw [e]; exact Nat.le_refl _
      · have := h2 C (by omega) hP; omega
    · rename_i h
      refine ⟨h1.imp id fun h => ⟨by omega, h.2⟩, fun C hC hP => ?_⟩
      by_cases e : C = k
      · subst e
        have : ¬ cntN (bestN P C) < cntN C := fun hlt => h ⟨hlt, hP⟩
        omega
      · exact h2 C (by omega) hP
theorem best_om {P : Nat → Bool} {E : Nat → Nat → Bool} {n : Nat} (hn : n ≤ 7) (h : ∀ C, C < 2 ^ n → (P C = true ↔ clqM E C)) : cntN (bestN P (2 ^ n)) = omM E (2 ^ n - 1) := by
  have h7 := pow_le7 hn
  have hpos := Nat.two_pow_pos n
  obtain ⟨h1, h2⟩ := bestN_spec P (2 ^ n)
  have hall : ∀ C, SubN C (2 ^ n - 1) ↔ C < 2 ^ n := fun C => by
    constructor
    · intro hC; exact lt_of_sub hC (by omega)
    · intro hC i hi
      rw [Nat.testBit_two_pow_sub_one]
      exact decide_eq_true (has_lt hC hi)
  refine (omM_eq ⟨?_, fun C h3 h4 h5 => ?_⟩).symm
  · rcases h1 with h1 | ⟨h1, h3⟩
    · exact ⟨0, by omega, (hall 0).2 hpos, fun x y hx => by simp at hx, by rw [h1]⟩
    · exact ⟨_, by omega, (hall _).2 h1, (h _ h1).1 h3, rfl⟩
  · exact h2 C ((hall C).1 h4) ((h C ((hall C).1 h4)).2 h5)
theorem clique_om {rows : List Int} {n C : Nat} (hg : IsG n rows) (hC : C < 2 ^ n) : decide (cliqueP n rows (C : Int)) = true ↔ clqM (eN (rowN rows)) C := by
  have hr := ng_of hg rfl
  have h7 := pow_le7 hr.le
  have hrl : rows.length = n := by obtain ⟨m, hm, hl, _, _⟩ := isG_size hg; omega
  have hn := hr.le
  have hS : (0 : Int) ≤ (C : Int) ∧ (C : Int) < ishl 1 (n : Int) := by rw [ishl_one_nat (by omega)]; omega
  have key : ∀ v, v < n → (iandnot (C : Int) (rows.getD v 0) = ishl 1 (v : Int) ↔ ∀ i, (C.testBit i && !(rowN rows v).testBit i) = decide (v = i)) := fun v hv => by
    rw [rowN_eq hg v, iandnot_nat (by omega), ishl_one_nat (by omega), Int.ofNat_inj]
    constructor
    · intro h i
      have := congrArg (fun x => Nat.testBit x i) h
      simp only [Nat.testBit_xor, Nat.testBit_and, Nat.testBit_two_pow] at this
      rw [← this]
      cases C.testBit i <;> cases (rowN rows v).testBit i <;> rfl
    · intro h
      apply Nat.eq_of_testBit_eq
      intro i
      rw [Nat.testBit_xor, Nat.testBit_and, Nat.testBit_two_pow, ← h i]
      cases C.testBit i <;> cases (rowN rows v).testBit i <;> rfl
  rw [decide_eq_true_iff]
  constructor
  · rintro ⟨_, h⟩ x y hx hy hne
    have hxn := has_lt hC hx
    have := (key x hxn).1 (h x (by omega) (by rw [hasB_nat (by omega) (by omega)]; exact hx)) y
    rw [hy, decide_eq_false hne] at this
    unfold eN
    simpa using this
  · intro h
    refine ⟨⟨hg, hS⟩, fun v hv hb => ?_⟩
    have hvn : v < n := by omega
    rw [hasB_nat (by omega) (by omega)] at hb
    refine (key v hvn).2 fun i => ?_
    by_cases e : v = i
    · subst e; rw [hb, hr.irr v hvn]; simp
    · rw [decide_eq_false e]
      cases hi : C.testBit i with
      | false => rfl
      | true => have := h v i hb hi e; unfold eN at this; rw [this]; rfl
theorem indep_om {rows : List Int} {n C : Nat} (hg : IsG n rows) (hC : C < 2 ^ n) : decide (indepP n rows (C : Int)) = true ↔ clqM (coE (eN (rowN rows))) C := by
  have hr := ng_of hg rfl
  have h7 := pow_le7 hr.le
  have hrl : rows.length = n := by obtain ⟨m, hm, hl, _, _⟩ := isG_size hg; omega
  have hn := hr.le
  have hS : (0 : Int) ≤ (C : Int) ∧ (C : Int) < ishl 1 (n : Int) := by rw [ishl_one_nat (by omega)]; omega
  have key : ∀ v, v < n → (iand (rows.getD v 0) (C : Int) = 0 ↔ ∀ i, C.testBit i = true → (rowN rows v).testBit i = false) := fun v hv => by
    have hlt := hr.lt v
    rw [rowN_eq hg v, iand_nat (by omega) (by omega), show (0 : Int) = ((0 : Nat) : Int) from rfl, Int.ofNat_inj]
    constructor
    · intro h i hi
      have := congrArg (fun x => Nat.testBit x i) h
      simp only [Nat.testBit_and, Nat.zero_testBit, hi, Bool.and_true] at this
      exact this
    · intro h
      apply Nat.eq_of_testBit_eq
      intro i
      rw [Nat.testBit_and, Nat.zero_testBit]
      cases hi : C.testBit i with
      | false => simp
      | true => rw [h i hi]; rfl
  rw [decide_eq_true_iff]
  constructor
  · rintro ⟨_, _, h⟩ x y hx hy hne
    have hxn := has_lt hC hx
    exact coE_true.2 ⟨(key x hxn).1 (h x (by omega) (by rw [hasB_nat (by omega) (by omega)]; exact hx)) y hy, hne⟩
  · intro h
    refine ⟨hg, hS, fun v hv hb => ?_⟩
    have hvn : v < n := by omega
    rw [hasB_nat (by omega) (by omega)] at hb
    refine (key v hvn).2 fun i hi => ?_
    by_cases e : v = i
    · subst e; exact hr.irr v hvn
    · exact (coE_true.1 (h v i hb hi e)).1
theorem bar_eN {size : Int} {rows : List Int} {n : Nat} (hg : IsG size rows) (hn : size = n) {x y : Nat} (hx : x < n) (hy : y < n) : eN (rowN (barL size rows)) x y = coE (eN (rowN rows)) x y := by
  have hrl : rows.length = n := by obtain ⟨m, hm, hl, _, _⟩ := isG_size hg; omega
  obtain ⟨f1, _, _, f4, _⟩ := barF_nat hg hn hx
  unfold eN coE
  rw [show rowN (barL size rows) x = 2 ^ n - 1 - rowN rows x - 2 ^ x by unfold rowN at f1 ⊢; rw [barL_get hg (by omega), f1]; rfl, f4]
  simp [hy]
/-- The folds over the parts of the complement. -/
theorem bar_om {size : Int} {rows : List Int} {n set : Nat} (hg : IsG size rows) (hn : size = n) (hset : set < 2 ^ n) : omM (eN (rowN (barL size rows))) set = omM (coE (eN (rowN rows))) set ∧ omM (coE (eN (rowN (barL size rows)))) set = omM (eN (rowN rows)) set := by
  constructor
  · exact om_congr fun x y hx hy _ => bar_eN hg hn (has_lt hset hx) (has_lt hset hy)
  · refine om_congr fun x y hx hy hne => ?_
    have := bar_eN hg hn (has_lt hset hx) (has_lt hset hy)
    unfold coE at this ⊢
    rw [this]; simp [hne]
theorem om_single {E : Nat → Nat → Bool} {S : Nat} (hS : S < 128) (h1 : cntN S = 1) : omM E S = 1 := by
  refine omM_eq ⟨⟨S, hS, SubN.refl _, fun x y hx hy hne => ?_, h1⟩, fun C _ hC _ => ?_⟩
  · exfalso
    have hne2 : 2 ^ x ≠ S := fun e => by
      rw [← e, Nat.testBit_two_pow] at hy
      exact hne (by simpa using hy)
    have h2 := cnt_lt hS (pow_sub hx) hne2
    have hx7 : x < 7 := has_lt (by omega : S < 2 ^ 7) hx
    have : ∀ v : Fin 7, cntN (2 ^ v.val) = 1 := by decide
    have := this ⟨x, hx7⟩
    dsimp only at this; omega
  · by_cases e : C = S
    · rw [e, h1]; exact Nat.le_refl _
    · have := cnt_lt hS hC e; omega
theorem fold_take {f : Nat → Nat → Nat} {g : Nat → Nat} {L : List Nat} {i : Nat} (h : i < L.length) (a : Nat) : ((L.take (i + 1)).map g).foldl f a = f (((L.take i).map g).foldl f a) (g (L.getD i 0)) := by
  rw [List.take_add_one, List.map_append, List.foldl_append]
  simp [List.getD, h]
/-- The parts' numbers, folded, are the whole's: at once for both colours. -/
theorem whole_om {r : Nat → Nat} {n set : Nat} (hr : NG n r) (hset : set < 2 ^ n) : ((partsN r n set 128 set).map (omM (eN r))).foldl max 0 = omM (eN r) set ∧ ((partsN r n set 128 set).map (omM (coE (eN r)))).foldl (· + ·) 0 = omM (coE (eN r)) set := by
  have := cntN_le7 set
  have := parts_om hr hset 128 set ⟨SubN.refl _, fun _ _ _ h _ => h⟩ (by omega) 0 0
  rw [this.1, this.2]; exact ⟨by omega, by omega⟩
def pairL (a b : Nat) : List Int := [(a : Int), (b : Int)]
theorem pairL_len (a b : Nat) : (pairL a b).length = 2 := rfl
theorem pairL_0 (a b : Nat) : (pairL a b).getD 0 0 = a := rfl
theorem pairL_1 (a b : Nat) : (pairL a b).getD 1 0 = b := rfl
theorem sum_le7 {g : Nat → Nat} (h : ∀ x, g x ≤ 7) : ∀ (L : List Nat) (a : Nat), (L.map g).foldl (· + ·) a ≤ a + 7 * L.length
  | [], a => by simp
  | x :: L, a => by
    have := sum_le7 h L (a + g x)
    have := h x
    simp only [List.map_cons, List.foldl_cons, List.length_cons]
    omega
end Go.Pw
