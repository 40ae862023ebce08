/- The plain mathematics of cographs: a set of two or more vertices falls in two parts, with no edges or all edges between; clique numbers of such sets. -/
import Derived.Test.YteopfbfcnggbbaaPwPcc
namespace Go.Pw
open Go
def P4f (E : Nat → Nat → Bool) : Prop := ∀ a b c d, E a b = true → E b c = true → E c d = true → E a c = false → E a d = false → E b d = false → False
def coE (E : Nat → Nat → Bool) (x y : Nat) : Bool := !E x y && decide (x ≠ y)
theorem coE_true {E : Nat → Nat → Bool} {x y : Nat} : coE E x y = true ↔ E x y = false ∧ x ≠ y := by simp [coE]
theorem coE_false {E : Nat → Nat → Bool} {x y : Nat} : coE E x y = false ↔ E x y = true ∨ x = y := by
  unfold coE
  cases E x y <;> simp
theorem coE_sym {E : Nat → Nat → Bool} (hs : ∀ x y, E x y = E y x) (x y : Nat) : coE E x y = coE E y x := by
  unfold coE
  rw [hs x y]
  by_cases h : x = y
  · subst h; rfl
  · have h2 : ¬ y = x := fun e => h e.symm
    simp [h, h2]
theorem P4f.co {E : Nat → Nat → Bool} (hs : ∀ x y, E x y = E y x) (h : P4f E) : P4f (coE E) := by
  intro a b c d h1 h2 h3 h4 h5 h6
  have nac : a ≠ c := fun e => by subst e; rw [h3] at h5; cases h5
  have nad : a ≠ d := fun e => by
    subst e; rw [coE_sym hs] at h3; rw [h3] at h4; cases h4
  have nbd : b ≠ d := fun e => by subst e; rw [h1] at h5; cases h5
  rw [coE_true] at h1 h2 h3
  rw [coE_false] at h4 h5 h6
  have e1 : E a c = true := h4.resolve_right nac
  have e2 : E a d = true := h5.resolve_right nad
  have e3 : E b d = true := h6.resolve_right nbd
  exact h c a d b (by rw [hs]; exact e1) e2 (by rw [hs]; exact e3) h3.1 (by rw [hs]; exact h2.1) h1.1
/-- A set Q cuts a set S: not empty, not all, and between it and the rest there are no edges or all edges. -/
def Cuts (E : Nat → Nat → Bool) (S Q : Nat → Prop) (c : Bool) : Prop := (∃ x, Q x) ∧ (∀ x, Q x → S x) ∧ (∃ y, S y ∧ ¬ Q y) ∧ ∀ x y, Q x → S y → ¬ Q y → E x y = c
theorem cut_key1 {F : Nat → Nat → Bool} (hs : ∀ x y, F x y = F y x) (hp : P4f F) {A B : Nat → Prop} {v : Nat} (hv : ¬ A v) (hAB : ∀ a b, A a → B b → F a b = false)
    {b d : Nat} (hb : A b) (hvb : F v b = false) (hd : B d) (hvd : F v d = true) : ∃ Q, Cuts F (fun x => A x ∨ B x ∨ x = v) Q false := by
  refine ⟨fun x => A x ∧ F v x = false, ⟨b, hb, hvb⟩, fun x h => .inl h.1, ⟨v, .inr (.inr rfl), fun h => hv h.1⟩, fun x y hx hy hny => ?_⟩
  rcases hy with hy | hy | rfl
  · cases hvy : F v y with
    | false => exact absurd ⟨hy, hvy⟩ hny
    | true =>
      cases hxy : F x y with
      | false => rfl
      | true => exact (hp x y v d hxy (by rw [hs]; exact hvy) hvd (by rw [hs]; exact hx.2) (hAB _ _ hx.1 hd) (hAB _ _ hy hd)).elim
  · exact hAB _ _ hx.1 hy
  · rw [hs]; exact hx.2
theorem cut_key {F : Nat → Nat → Bool} (hs : ∀ x y, F x y = F y x) (hp : P4f F) {A B : Nat → Prop} {v : Nat} (hvA : ¬ A v) (hvB : ¬ B v) (hd : ∀ x, A x → ¬ B x) (hA : ∃ x, A x) (hB : ∃ x, B x)
    (hAB : ∀ a b, A a → B b → F a b = false) : ∃ Q c, Cuts F (fun x => A x ∨ B x ∨ x = v) Q c := by
  obtain ⟨a0, ha0⟩ := hA
  obtain ⟨b0, hb0⟩ := hB
  by_cases h1 : ∃ d, B d ∧ F v d = true
  case neg =>
    refine ⟨B, false, ⟨b0, hb0⟩, fun x h => .inr (.inl h), ⟨a0, .inl ha0, hd _ ha0⟩, fun x y hx hy hny => ?_⟩
    rcases hy with hy | hy | rfl
    · rw [hs]; exact hAB _ _ hy hx
    · exact absurd hy hny
    · cases hf : F x y with
      | false => rfl
      | true => exact absurd ⟨x, hx, by rw [hs]; exact hf⟩ h1
  by_cases h2 : ∃ d, A d ∧ F v d = true
  case neg =>
    refine ⟨A, false, ⟨a0, ha0⟩, fun x h => .inl h, ⟨b0, .inr (.inl hb0), fun h => hd _ h hb0⟩, fun x y hx hy hny => ?_⟩
    rcases hy with hy | hy | rfl
    · exact absurd hy hny
    · exact hAB _ _ hx hy
    · cases hf : F x y with
      | false => rfl
      | true => exact absurd ⟨x, hx, by rw [hs]; exact hf⟩ h2
  obtain ⟨dB, hdB, hvdB⟩ := h1
  obtain ⟨dA, hdA, hvdA⟩ := h2
  by_cases h3 : ∃ b, A b ∧ F v b = false
  · obtain ⟨b, hb, hvb⟩ := h3
    obtain ⟨Q, hQ⟩ := cut_key1 hs hp hvA hAB hb hvb hdB hvdB
    exact ⟨Q, false, hQ⟩
  by_cases h4 : ∃ b, B b ∧ F v b = false
  · obtain ⟨b, hb, hvb⟩ := h4
    obtain ⟨Q, hQ⟩ := cut_key1 (A := B) (B := A) hs hp hvB (fun a b ha hb => by rw [hs]; exact hAB _ _ hb ha) hb hvb hdA hvdA
    refine ⟨Q, false, ?_⟩
    have : (fun x => B x ∨ A x ∨ x = v) = (fun x => A x ∨ B x ∨ x = v) := by
      funext x; apply propext; constructor <;> (intro h; rcases h with h | h | h <;> simp [h])
    rw [this] at hQ; exact hQ
  refine ⟨fun x => x = v, true, ⟨v, rfl⟩, fun x h => .inr (.inr h), ⟨a0, .inl ha0, fun e => hvA (e ▸ ha0)⟩, fun x y hx hy hny => ?_⟩
  subst hx
  rcases hy with hy | hy | hy
  · cases hf : F x y with
    | true => rfl
    | false => exact absurd ⟨y, hy, hf⟩ h3
  · cases hf : F x y with
    | true => rfl
    | false => exact absurd ⟨y, hy, hf⟩ h4
  · exact absurd hy hny
theorem cog_cut {E : Nat → Nat → Bool} (hs : ∀ x y, E x y = E y x) (hp : P4f E) : ∀ k (S : Nat → Prop), (∀ x, S x → x < k) → (∃ x y, S x ∧ S y ∧ x ≠ y) → ∃ Q c, Cuts E S Q c
  | 0, S, hk, ⟨x, _, hx, _⟩ => absurd (hk x hx) (Nat.not_lt_zero x)
  | k + 1, S, hk, h2 => by
    by_cases hSk : S k
    case neg => exact cog_cut hs hp k S (fun x hx => by have := hk x hx; have : x ≠ k := fun e => hSk (e ▸ hx); omega) h2
    by_cases h3 : ∃ x y, (S x ∧ x ≠ k) ∧ (S y ∧ y ≠ k) ∧ x ≠ y
    case neg =>
      obtain ⟨x, y, hx, hy, hxy⟩ := h2
      obtain ⟨u, hu, huk⟩ : ∃ u, S u ∧ u ≠ k := by
        by_cases hxk : x = k
        · exact ⟨y, hy, fun e => hxy (hxk.trans e.symm)⟩
        · exact ⟨x, hx, hxk⟩
      refine ⟨fun x => x = k, E k u, ⟨k, rfl⟩, fun x e => e ▸ hSk, ⟨u, hu, huk⟩, fun a b ha hb hnb => ?_⟩
      have : b = u := Classical.byContradiction fun hbu => h3 ⟨b, u, ⟨hb, hnb⟩, ⟨hu, huk⟩, hbu⟩
      rw [ha, this]
    obtain ⟨Q, c, ⟨q0, hq0⟩, hQS, ⟨y0, hy0, hny0⟩, hQ⟩ := cog_cut hs hp k (fun x => S x ∧ x ≠ k) (fun x hx => by have := hk x hx.1; have := hx.2; omega) h3
    have key : ∀ F : Nat → Nat → Bool, (∀ x y, F x y = F y x) → P4f F → (∀ x y, Q x → (S y ∧ y ≠ k) → ¬ Q y → F x y = false) → ∃ Q c, Cuts F S Q c := fun F hFs hFp hF => by
      obtain ⟨R, d, hR⟩ := cut_key (A := Q) (B := fun x => (S x ∧ x ≠ k) ∧ ¬ Q x) (v := k) hFs hFp (fun h => (hQS _ h).2 rfl) (fun h => h.1.2 rfl) (fun x h h' => h'.2 h) ⟨q0, hq0⟩ ⟨y0, hy0, hny0⟩ (fun a b ha hb => hF a b ha hb.1 hb.2)
      refine ⟨R, d, ?_⟩
      have : (fun x => Q x ∨ ((S x ∧ x ≠ k) ∧ ¬ Q x) ∨ x = k) = S := by
        funext x; apply propext; constructor
        · rintro (h | h | h)
          · exact (hQS _ h).1
          · exact h.1.1
          · exact h ▸ hSk
        · intro h
          by_cases hxk : x = k
          · exact .inr (.inr hxk)
          · by_cases hq : Q x
            · exact .inl hq
            · exact .inr (.inl ⟨⟨h, hxk⟩, hq⟩)
      rw [this] at hR; exact hR
    cases c with
    | false => exact key E hs hp hQ
    | true =>
      obtain ⟨R, d, h1, h2, h3, h4⟩ := key (coE E) (coE_sym hs) (hp.co hs) (fun x y hx hy hny => coE_false.2 (.inl (hQ x y hx hy hny)))
      refine ⟨R, !d, h1, h2, h3, fun x y hx hy hny => ?_⟩
      have hne : x ≠ y := fun e => hny (e ▸ hx)
      have := h4 x y hx hy hny
      unfold coE at this
      rw [← this]; simp [hne]
end Go.Pw
