import Derived.Test.YtoejpckfeflkaaaGreatDoorPwPfs
import Derived.Test.YtoejpckfeflkaaaGreatDoorPwPmo
import Derived.Test.YtoejpckfeflkaaaGreatDoorPwPlc
import Derived.Test.YtoejpckfeflkaaaGreatDoorPwPmt
import Derived.Test.YtoejpckfeflkaaaGreatDoorPwPlt
/- Strong modules: a node whose vertices fall in two parts with all edges between has no such child. -/
namespace Go.Pw
open Go
/-- A set that all others see alike. -/
def ModE (n : Nat) (E : Nat → Nat → Bool) (M : Nat) : Prop := ∀ x y v, M.testBit x = true → M.testBit y = true → v < n → M.testBit v = false → E v x = E v y
/-- A module that no module overlaps. -/
def StrE (n : Nat) (E : Nat → Nat → Bool) (S : Nat) : Prop := ModE n E S ∧ ∀ X, X < 2 ^ n → ModE n E X → (∃ x, X.testBit x = true ∧ S.testBit x = true) → SubN X S ∨ SubN S X
/-- A part of a set, neither empty nor all, with all edges to the rest of the set. -/
def JnE (E : Nat → Nat → Bool) (M P : Nat) : Prop := SubN P M ∧ (∃ x, P.testBit x = true) ∧ (∃ y, M.testBit y = true ∧ P.testBit y = false) ∧ ∀ x y, P.testBit x = true → M.testBit y = true → P.testBit y = false → E x y = true
theorem JnE.mod {n : Nat} {E : Nat → Nat → Bool} (hs : ∀ x y, E x y = E y x) {M P : Nat} (hM : ModE n E M) (h : JnE E M P) : ModE n E P := by
  obtain ⟨h1, _, _, h4⟩ := h
  intro x y v hx hy hv hvP
  cases hvM : M.testBit v with
  | true => rw [hs v x, hs v y, h4 x v hx hvM hvP, h4 y v hy hvM hvP]
  | false => exact hM x y v (h1 x hx) (h1 y hy) hv hvM
/-- A strong part of such a node lies on one side. -/
theorem side_of {n : Nat} {E : Nat → Nat → Bool} (hs : ∀ x y, E x y = E y x) {M C P : Nat} (hMn : M < 2 ^ n) (hM : ModE n E M) (hC : StrE n E C) (hCM : SubN C M) (hne : C ≠ M) (hP : JnE E M P) (hmeet : ∃ x, C.testBit x = true ∧ P.testBit x = true) : SubN C P := by
  obtain ⟨p1, p2, p3, p4⟩ := hP
  have hPn : P < 2 ^ n := lt_of_sub p1 hMn
  have hQ : ∀ x, (maskU (fun x => M.testBit x && !P.testBit x) n).testBit x = (M.testBit x && !P.testBit x) := fun x => by
    rw [maskU_bit]
    cases hx : M.testBit x with
    | false => simp
    | true => rw [decide_eq_true (has_lt hMn hx)]; simp
  have hQj : JnE E M (maskU (fun x => M.testBit x && !P.testBit x) n) := by
    refine ⟨fun x hx => ?_, ?_, ?_, fun x y hx hy hny => ?_⟩
    · rw [hQ, Bool.and_eq_true] at hx; exact hx.1
    · obtain ⟨y, y1, y2⟩ := p3
      exact ⟨y, by rw [hQ, y1, y2]; rfl⟩
    · obtain ⟨x, hx⟩ := p2
      exact ⟨x, p1 x hx, by rw [hQ, hx]; simp⟩
    · rw [hQ, Bool.and_eq_true, Bool.not_eq_true'] at hx
      rw [hQ, hy, Bool.true_and, Bool.not_eq_false'] at hny
      rw [hs]; exact p4 y x hny hx.1 hx.2
  rcases hC.2 P hPn (JnE.mod hs hM ⟨p1, p2, p3, p4⟩) (by obtain ⟨x, a, b⟩ := hmeet; exact ⟨x, b, a⟩) with h | h
  · by_cases hq : ∃ x, C.testBit x = true ∧ P.testBit x = false
    · exfalso
      obtain ⟨x, x1, x2⟩ := hq
      have hxQ : (maskU (fun x => M.testBit x && !P.testBit x) n).testBit x = true := by rw [hQ, hCM x x1, x2]; rfl
      rcases hC.2 _ (maskU_lt _ _) (JnE.mod hs hM hQj) ⟨x, hxQ, x1⟩ with h' | h'
      · refine hne (SubN.antisymm hCM fun y hy => ?_)
        cases hyP : P.testBit y with
        | true => exact h y hyP
        | false => exact h' y (by rw [hQ, hy, hyP]; rfl)
      · obtain ⟨y, y1, y2⟩ := hmeet
        have := h' y y1
        rw [hQ, y2] at this
        simp at this
    · intro x hx
      cases hxP : P.testBit x with
      | true => rfl
      | false => exact absurd ⟨x, hx, hxP⟩ hq
  · exact h
/-- No child of such a node is such a node. -/
theorem join_child {n : Nat} (hn : n ≤ 7) {E : Nat → Nat → Bool} (hs : ∀ x y, E x y = E y x) {M C : Nat} (hMn : M < 2 ^ n) (hM : StrE n E M) (hC : StrE n E C) (hCM : SubN C M) (hne : C ≠ M) (hMj : ∃ P, JnE E M P) (hCj : ∃ P, JnE E C P)
    (hmax : ∀ D, D < 2 ^ n → StrE n E D → SubN C D → SubN D M → D = C ∨ D = M) : False := by
  have h7 := pow_le7 hn
  obtain ⟨c0, hc0⟩ : ∃ x, C.testBit x = true := by
    obtain ⟨P, p1, ⟨x, hx⟩, _⟩ := hCj
    exact ⟨x, p1 x hx⟩
  -- a part of least size that holds the child
  have hex : ∃ P, P < 2 ^ n ∧ (JnE E M P ∧ SubN C P) := by
    obtain ⟨P, hP⟩ := hMj
    cases hb : P.testBit c0 with
    | true => exact ⟨P, lt_of_sub hP.1 hMn, hP, side_of hs hMn hM.1 hC hCM hne hP ⟨c0, hc0, hb⟩⟩
    | false =>
      have hQ : ∀ x, (maskU (fun x => M.testBit x && !P.testBit x) n).testBit x = (M.testBit x && !P.testBit x) := fun x => by
        rw [maskU_bit]
        cases hx : M.testBit x with
        | false => simp
        | true => rw [decide_eq_true (has_lt hMn hx)]; simp
      have hQj : JnE E M (maskU (fun x => M.testBit x && !P.testBit x) n) := by
        obtain ⟨p1, p2, p3, p4⟩ := hP
        refine ⟨fun x hx => ?_, ?_, ?_, fun x y hx hy hny => ?_⟩
        · rw [hQ, Bool.and_eq_true] at hx; exact hx.1
        · obtain ⟨y, y1, y2⟩ := p3
          exact ⟨y, by rw [hQ, y1, y2]; rfl⟩
        · obtain ⟨x, hx⟩ := p2
          exact ⟨x, p1 x hx, by rw [hQ, hx]; simp⟩
        · rw [hQ, Bool.and_eq_true, Bool.not_eq_true'] at hx
          rw [hQ, hy, Bool.true_and, Bool.not_eq_false'] at hny
          rw [hs]; exact p4 y x hny hx.1 hx.2
      exact ⟨_, maskU_lt _ _, hQj, side_of hs hMn hM.1 hC hCM hne hQj ⟨c0, hc0, by rw [hQ, hCM c0 hc0, hb]; rfl⟩⟩
  obtain ⟨P, pn, ⟨pj, pC⟩, pmin⟩ := mostS (p := fun P => JnE E M P ∧ SubN C P) (fun P => 8 - cntN P) (2 ^ n) hex
  obtain ⟨p1, p2, p3, p4⟩ := id pj
  have hsmall : ∀ R, R < 2 ^ n → JnE E M R → SubN C R → SubN R P → R = P := fun R hR hj hc hRP => by
    apply Classical.byContradiction
    intro hne
    have h1 := cnt_lt (show P < 128 by omega) hRP hne
    have h2 := pmin R hR ⟨hj, hc⟩
    have h3 := cntN_le7 P
    omega
  -- it has no such part itself
  have hnoj : ∀ R, ¬ JnE E P R := fun R hR => by
    obtain ⟨r1, r2, r3, r4⟩ := id hR
    have hRn : R < 2 ^ n := lt_of_sub r1 pn
    have up : ∀ R, JnE E P R → JnE E M R := fun R ⟨r1, r2, r3, r4⟩ => ⟨fun x hx => p1 x (r1 x hx), r2, by obtain ⟨y, y1, y2⟩ := r3; exact ⟨y, p1 y y1, y2⟩, fun x y hx hy hny => by
      cases hyP : P.testBit y with
      | true => exact r4 x y hx hyP hny
      | false => exact p4 x y (r1 x hx) hy hyP⟩
    have hQ : ∀ x, (maskU (fun x => P.testBit x && !R.testBit x) n).testBit x = (P.testBit x && !R.testBit x) := fun x => by
      rw [maskU_bit]
      cases hx : P.testBit x with
      | false => simp
      | true => rw [decide_eq_true (has_lt pn hx)]; simp
    cases hb : R.testBit c0 with
    | true =>
      have hcR := side_of hs hMn hM.1 hC hCM hne (up R hR) ⟨c0, hc0, hb⟩
      have := hsmall R hRn (up R hR) hcR r1
      subst this
      obtain ⟨y, y1, y2⟩ := r3
      rw [y1] at y2; cases y2
    | false =>
      have hQj : JnE E P (maskU (fun x => P.testBit x && !R.testBit x) n) := by
        refine ⟨fun x hx => ?_, ?_, ?_, fun x y hx hy hny => ?_⟩
        · rw [hQ, Bool.and_eq_true] at hx; exact hx.1
        · obtain ⟨y, y1, y2⟩ := r3
          exact ⟨y, by rw [hQ, y1, y2]; rfl⟩
        · obtain ⟨x, hx⟩ := r2
          exact ⟨x, r1 x hx, by rw [hQ, hx]; simp⟩
        · rw [hQ, Bool.and_eq_true, Bool.not_eq_true'] at hx
          rw [hQ, hy, Bool.true_and, Bool.not_eq_false'] at hny
          rw [hs]; exact r4 y x hny hx.1 hx.2
      have hcQ := side_of hs hMn hM.1 hC hCM hne (up _ hQj) ⟨c0, hc0, by rw [hQ, pC c0 hc0, hb]; rfl⟩
      have := hsmall _ (maskU_lt _ _) (up _ hQj) hcQ hQj.1
      obtain ⟨x, hx⟩ := r2
      have h1 := r1 x hx
      rw [← this, hQ, hx] at h1
      simp at h1
  -- so it is strong, between the child and the node
  have hstr : StrE n E P := by
    refine ⟨JnE.mod hs hM.1 pj, fun X hX hXm hmeet => ?_⟩
    by_cases hXP : SubN X P
    · exact .inl hXP
    by_cases hPX : SubN P X
    · exact .inr hPX
    exfalso
    obtain ⟨x0, x1, x2⟩ := hmeet
    rcases hM.2 X hX hXm ⟨x0, x1, p1 x0 x2⟩ with h | h
    case inr => exact hPX fun x hx => h x (p1 x hx)
    obtain ⟨y, y1, y2⟩ : ∃ y, X.testBit y = true ∧ P.testBit y = false := by
      apply Classical.byContradiction
      intro hno
      refine hXP fun x hx => ?_
      cases hb : P.testBit x with
      | true => rfl
      | false => exact absurd ⟨x, hx, hb⟩ hno
    obtain ⟨z, z1, z2⟩ : ∃ z, P.testBit z = true ∧ X.testBit z = false := by
      apply Classical.byContradiction
      intro hno
      refine hPX fun x hx => ?_
      cases hb : X.testBit x with
      | true => rfl
      | false => exact absurd ⟨x, hx, hb⟩ hno
    have hI : ∀ x, (P &&& X).testBit x = (P.testBit x && X.testBit x) := fun x => Nat.testBit_and ..
    refine hnoj (P &&& X) ⟨fun x hx => ?_, ⟨x0, by rw [hI, x2, x1]; rfl⟩, ⟨z, z1, by rw [hI, z2]; simp⟩, fun a b ha hb hnb => ?_⟩
    · rw [hI, Bool.and_eq_true] at hx; exact hx.1
    · rw [hI, Bool.and_eq_true] at ha
      rw [hI, hb, Bool.true_and] at hnb
      have h1 := p4 b y hb (h y y1) y2
      have h2 := hXm a y b ha.2 y1 (has_lt pn hb) hnb
      rw [hs, h2]; exact h1
  rcases hmax P pn hstr pC p1 with h | h
  · subst h
    obtain ⟨R, hR⟩ := hCj
    exact hnoj R hR
  · subst h
    obtain ⟨y, y1, y2⟩ := p3
    rw [y1] at y2; cases y2
/-- Between two modules apart there are all edges or none. -/
theorem two_mods {n : Nat} {E : Nat → Nat → Bool} (hs : ∀ x y, E x y = E y x) {A B : Nat} (hA : ModE n E A) (hB : ModE n E B) (hAn : A < 2 ^ n) (hBn : B < 2 ^ n) (hd : ∀ x, A.testBit x = true → B.testBit x = false) {a b a' b' : Nat} (ha : A.testBit a = true) (hb : B.testBit b = true) (ha' : A.testBit a' = true) (hb' : B.testBit b' = true) : E a b = E a' b' := by
  have hd' : ∀ x, B.testBit x = true → A.testBit x = false := fun x hx => by
    cases h : A.testBit x with
    | false => rfl
    | true => rw [hd x h] at hx; cases hx
  have h1 : E b a = E b a' := hA a a' b ha ha' (has_lt hBn hb) (hd' b hb)
  have h2 : E a' b = E a' b' := hB b b' a' hb hb' (has_lt hAn ha') (hd a' ha')
  rw [hs a b, h1, hs b a', h2]
/-- A set of three modules at most falls in two parts with all edges or none between. -/
theorem few_parts {n : Nat} {E : Nat → Nat → Bool} (hs : ∀ x y, E x y = E y x) {M A B C : Nat} (hA : ModE n E A) (hB : ModE n E B) (hC : ModE n E C) (hAn : A < 2 ^ n) (hBn : B < 2 ^ n) (hCn : C < 2 ^ n)
    (hM : ∀ x, M.testBit x = (A.testBit x || B.testBit x || C.testBit x)) (dAB : ∀ x, A.testBit x = true → B.testBit x = false) (dAC : ∀ x, A.testBit x = true → C.testBit x = false) (dBC : ∀ x, B.testBit x = true → C.testBit x = false) {a b : Nat} (ha : A.testBit a = true) (hb : B.testBit b = true) :
    ∃ P, JnE E M P ∨ JnE (coE E) M P := by
  have flip : ∀ {X Y : Nat}, (∀ x, X.testBit x = true → Y.testBit x = false) → ∀ x, Y.testBit x = true → X.testBit x = false := fun {X Y} h x hx => by
    cases hb : X.testBit x with
    | false => rfl
    | true => rw [h x hb] at hx; cases hx
  -- a part that sees all the others alike
  have key : ∀ (X Y Z : Nat) (e : Bool), X < 2 ^ n → (∀ x, M.testBit x = (X.testBit x || Y.testBit x || Z.testBit x)) → (∃ x, X.testBit x = true) → (∃ y, Y.testBit y = true) → (∀ x, X.testBit x = true → Y.testBit x = false) →
      (∀ x y, X.testBit x = true → Y.testBit y = true → E x y = e) → (∀ x z, X.testBit x = true → Z.testBit z = true → E x z = e) → (∀ x, X.testBit x = true → Z.testBit x = false) → ∃ P, JnE E M P ∨ JnE (coE E) M P := by
    intro X Y Z e hX hM' hx hy dXY hXY hXZ dXZ
    have hall : ∀ x y, X.testBit x = true → M.testBit y = true → X.testBit y = false → E x y = e := fun x y h1 h2 h3 => by
      rw [hM', h3, Bool.false_or, Bool.or_eq_true] at h2
      rcases h2 with h2 | h2
      · exact hXY x y h1 h2
      · exact hXZ x y h1 h2
    obtain ⟨y, hy⟩ := hy
    have hsub : SubN X M := fun x hx => by rw [hM', hx]; rfl
    have hrest : ∃ y, M.testBit y = true ∧ X.testBit y = false := ⟨y, by rw [hM', hy]; simp, flip dXY y hy⟩
    cases e with
    | true => exact ⟨X, .inl ⟨hsub, hx, hrest, hall⟩⟩
    | false => exact ⟨X, .inr ⟨hsub, hx, hrest, fun x y h1 h2 h3 => coE_true.2 ⟨hall x y h1 h2 h3, fun e => by subst e; rw [h1] at h3; cases h3⟩⟩⟩
  have uAB : ∀ x y, A.testBit x = true → B.testBit y = true → E x y = E a b := fun x y hx hy => two_mods hs hA hB hAn hBn dAB hx hy ha hb
  by_cases hc : ∃ c, C.testBit c = true
  case neg =>
    refine key A B C (E a b) hAn hM ⟨a, ha⟩ ⟨b, hb⟩ dAB uAB (fun x z _ hz => absurd ⟨z, hz⟩ hc) dAC
  obtain ⟨c, hc⟩ := hc
  have uAC : ∀ x y, A.testBit x = true → C.testBit y = true → E x y = E a c := fun x y hx hy => two_mods hs hA hC hAn hCn dAC hx hy ha hc
  have uBC : ∀ x y, B.testBit x = true → C.testBit y = true → E x y = E b c := fun x y hx hy => two_mods hs hB hC hBn hCn dBC hx hy hb hc
  by_cases e1 : E a b = E a c
  · exact key A B C (E a b) hAn hM ⟨a, ha⟩ ⟨b, hb⟩ dAB uAB (fun x z hx hz => by rw [e1]; exact uAC x z hx hz) dAC
  by_cases e2 : E a b = E b c
  · exact key B A C (E a b) hBn (fun x => by rw [hM, Bool.or_comm (A.testBit x)]) ⟨b, hb⟩ ⟨a, ha⟩ (flip dAB) (fun x y hx hy => by rw [hs]; exact uAB y x hy hx) (fun x z hx hz => by rw [e2]; exact uBC x z hx hz) dBC
  · have e3 : E a c = E b c := by
      clear uAB uAC uBC key flip hM
      revert e1 e2
      generalize E a b = x
      generalize E a c = y
      generalize E b c = z
      cases x <;> cases y <;> cases z <;> decide
    exact key C A B (E a c) hCn (fun x => by rw [hM, Bool.or_comm]; cases C.testBit x <;> rfl) ⟨c, hc⟩ ⟨a, ha⟩ (flip dAC) (fun x y hx hy => by rw [hs]; exact uAC y x hy hx) (fun x z hx hz => by rw [hs, e3]; exact uBC z x hz hx) (flip dBC)
end Go.Pw
/- The tree of strong modules, on its own: leaves, children, what they make up, how many nodes there are. -/
namespace Go.Pw
open Go
theorem nodup_lenN : ∀ (l m : List Nat), l.Nodup → (∀ x ∈ l, x ∈ m) → l.length ≤ m.length
  | [], _, _, _ => Nat.zero_le _
  | x :: r, m, hn, h => by
    obtain ⟨h1, h2⟩ := List.nodup_cons.1 hn
    have hx := h x (List.mem_cons_self ..)
    have := nodup_lenN r (m.erase x) h2 fun y hy => (List.mem_erase_of_ne (fun e => h1 (by rw [← e]; exact hy))).2 (h y (List.mem_cons_of_mem _ hy))
    have h3 := List.length_erase_of_mem hx
    have h4 := List.length_pos_of_mem hx
    simp only [List.length_cons]
    omega
/-- A strong module: a set that is not empty. -/
def StN (n : Nat) (E : Nat → Nat → Bool) (M : Nat) : Prop := M < 2 ^ n ∧ M ≠ 0 ∧ StrE n E M
/-- The strong modules in order, each with the place of the least one above it. -/
structure MT (n : Nat) (E : Nat → Nat → Bool) (N : Nat) (m : Nat → Nat) (q : Nat → Int) : Prop where
  st : ∀ i, i < N → StN n E (m i)
  all : ∀ M, StN n E M → ∃ i, i < N ∧ m i = M
  ord : ∀ i j, i < j → j < N → cntN (m j) < cntN (m i) ∨ (cntN (m i) = cntN (m j) ∧ m i < m j)
  par : ∀ k, k < N → (q k = -1 ∧ ∀ j, j < k → ¬ SubN (m k) (m j)) ∨ ∃ j : Nat, q k = j ∧ j < k ∧ SubN (m k) (m j) ∧ ∀ j', j < j' → j' < k → ¬ SubN (m k) (m j')
theorem single_st {n v : Nat} {E : Nat → Nat → Bool} (hv : v < n) : StN n E (2 ^ v) := by
  have hb : ∀ i, (2 ^ v).testBit i = true ↔ i = v := fun i => by rw [Nat.testBit_two_pow]; simp [eq_comm]
  refine ⟨Nat.pow_lt_pow_right (by omega) hv, Nat.pos_iff_ne_zero.1 (Nat.two_pow_pos _), fun x y z hx hy _ _ => ?_, fun X _ _ ⟨x, hx, hxv⟩ => .inr fun i hi => ?_⟩
  · rw [(hb x).1 hx, (hb y).1 hy]
  · rw [(hb i).1 hi, ← (hb x).1 hxv]; exact hx
theorem full_st {n : Nat} {E : Nat → Nat → Bool} (hn : 1 ≤ n) : StN n E (2 ^ n - 1) := by
  have hp : 2 ≤ 2 ^ n := by have := Nat.pow_le_pow_right (n := 2) (by omega) hn; simpa using this
  refine ⟨by omega, by omega, fun x y v _ _ hv hno => ?_, fun X hX _ _ => .inl fun i hi => ?_⟩
  · rw [Nat.testBit_two_pow_sub_one] at hno; simp at hno; omega
  · rw [Nat.testBit_two_pow_sub_one]; simp; exact has_lt hX hi
theorem StN.lam {n : Nat} {E : Nat → Nat → Bool} {A B : Nat} (hA : StN n E A) (hB : StN n E B) {x : Nat} (ha : A.testBit x = true) (hb : B.testBit x = true) : SubN A B ∨ SubN B A := hB.2.2.2 A hA.1 hA.2.2.1 ⟨x, ha, hb⟩
theorem StN.some {n : Nat} {E : Nat → Nat → Bool} {A : Nat} (hA : StN n E A) : ∃ x, A.testBit x = true := Nat.exists_testBit_of_ne_zero hA.2.1
section
variable {n N : Nat} {E : Nat → Nat → Bool} {m : Nat → Nat} {q : Nat → Int}
theorem MT.lt (h : MT n E N m q) (hn : n ≤ 7) {i : Nat} (hi : i < N) : m i < 128 := by have := (h.st i hi).1; have := pow_le7 hn; omega
theorem MT.sup (h : MT n E N m q) (hn : n ≤ 7) {j k : Nat} (hj : j < N) (hk : k < N) (hs : SubN (m k) (m j)) (hne : j ≠ k) : j < k := by
  rcases Nat.lt_or_ge j k with hlt | hge
  · exact hlt
  · have h1 := h.ord k j (by omega) hj
    by_cases he : m k = m j
    · rw [he] at h1; omega
    · have := cnt_lt (h.lt hn hj) hs he
      omega
theorem MT.inj (h : MT n E N m q) {i j : Nat} (hi : i < N) (hj : j < N) (he : m i = m j) : i = j := by
  rcases Nat.lt_trichotomy i j with hlt | heq | hgt
  · have := h.ord i j hlt hj; rw [he] at this; omega
  · exact heq
  · have := h.ord j i hgt hi; rw [he] at this; omega
theorem MT.root (h : MT n E N m q) (hn : n ≤ 7) (h1 : 1 ≤ n) : 0 < N ∧ m 0 = 2 ^ n - 1 := by
  obtain ⟨i, hi, he⟩ := h.all _ (full_st h1)
  have h0 : 0 < N := by omega
  refine ⟨h0, ?_⟩
  have hs : SubN (m 0) (m i) := fun x hx => by
    rw [he, Nat.testBit_two_pow_sub_one]; simp; exact has_lt (h.st 0 h0).1 hx
  by_cases h0i : i = 0
  · rw [← h0i]; exact he
  · have := h.sup hn hi h0 hs h0i; omega
theorem MT.parent (h : MT n E N m q) (hn : n ≤ 7) (h1 : 1 ≤ n) {k : Nat} (hk : k < N) (hk0 : 0 < k) : ∃ j : Nat, q k = j ∧ j < k ∧ SubN (m k) (m j) ∧ ∀ j', j < j' → j' < k → ¬ SubN (m k) (m j') := by
  rcases h.par k hk with ⟨_, h2⟩ | h2
  · exfalso
    refine h2 0 hk0 fun x hx => ?_
    rw [(h.root hn h1).2, Nat.testBit_two_pow_sub_one]; simp; exact has_lt (h.st k hk).1 hx
  · exact h2
theorem MT.q0 (h : MT n E N m q) (hn : n ≤ 7) (h1 : 1 ≤ n) : q 0 = -1 := by
  rcases h.par 0 (h.root hn h1).1 with ⟨h2, _⟩ | ⟨j, _, hj, _⟩
  · exact h2
  · omega
/-- Between a node and its parent there is nothing. -/
theorem MT.direct (h : MT n E N m q) (hn : n ≤ 7) {k j : Nat} (hk : k < N) (hq : q k = j) : j < k ∧ SubN (m k) (m j) ∧ m k ≠ m j ∧ ∀ D, StN n E D → SubN (m k) D → SubN D (m j) → D = m k ∨ D = m j := by
  rcases h.par k hk with ⟨h2, _⟩ | ⟨j', hj', hjk, hs, hmax⟩
  · rw [h2] at hq; omega
  obtain rfl : j = j' := by omega
  refine ⟨hjk, hs, fun he => by have := h.inj hk (by omega) he; omega, fun D hD h1 h2 => ?_⟩
  obtain ⟨d, hd, rfl⟩ := h.all D hD
  by_cases e1 : d = k
  · exact .inl (by rw [e1])
  by_cases e2 : d = j
  · exact .inr (by rw [e2])
  have a1 := h.sup hn hd hk h1 e1
  have a2 := h.sup hn (by omega) hd h2 (fun e => e2 e.symm)
  exact absurd h1 (hmax d a2 a1)
theorem MT.cover (h : MT n E N m q) (hn : n ≤ 7) {i v : Nat} (hi : i < N) (hv : (m i).testBit v = true) (hbig : m i ≠ 2 ^ v) : ∃ k, k < N ∧ q k = i ∧ (m k).testBit v = true := by
  have hvn : v < n := has_lt (h.st i hi).1 hv
  obtain ⟨k0, hk0, he0⟩ := h.all _ (single_st (E := E) hvn)
  have hb0 : (m k0).testBit v = true := by rw [he0, Nat.testBit_two_pow]; simp
  have hs0 : SubN (m k0) (m i) := fun x hx => by
    rw [he0, Nat.testBit_two_pow] at hx
    have : v = x := by simpa using hx
    rw [← this]; exact hv
  have hik0 : i < k0 := h.sup hn hi hk0 hs0 (fun e => hbig (by rw [e]; exact he0))
  -- the first one after i that holds v
  have key : ∀ d k, k ≤ k0 → k0 - k ≤ d → i < k → (m k).testBit v = true ∧ k ≤ k0 → ∃ k, i < k ∧ k ≤ k0 ∧ (m k).testBit v = true ∧ ∀ j, i < j → j < k → (m j).testBit v = false := by
    intro d k
    induction k using Nat.strongRecOn generalizing d with
    | ind k ih =>
      intro hk hd hik hb
      by_cases hex : ∃ j, i < j ∧ j < k ∧ (m j).testBit v = true
      · obtain ⟨j, h1, h2, h3⟩ := hex
        exact ih j h2 (k0 - j) (by omega) (Nat.le_refl _) h1 ⟨h3, by omega⟩
      · refine ⟨k, hik, hk, hb.1, fun j h1 h2 => ?_⟩
        cases hc : (m j).testBit v with
        | false => rfl
        | true => exact absurd ⟨j, h1, h2, hc⟩ hex
  obtain ⟨k, hik, hkk, hkv, hmin⟩ := key 0 k0 (Nat.le_refl _) (by omega) hik0 ⟨hb0, Nat.le_refl _⟩
  have hkN : k < N := by omega
  have hsub : SubN (m k) (m i) := by
    rcases (h.st k hkN).lam (h.st i hi) hkv hv with h1 | h1
    · exact h1
    · have := h.sup hn hkN hi h1 (by omega); omega
  refine ⟨k, hkN, ?_, hkv⟩
  rcases h.par k hkN with ⟨_, h2⟩ | ⟨j, hj, hjk, hs, hmax⟩
  · exact absurd hsub (h2 i hik)
  · rcases Nat.lt_trichotomy i j with hlt | heq | hgt
    · have := hmin j hlt hjk
      rw [hs v hkv] at this; cases this
    · rw [hj, heq]
    · exact absurd hsub (hmax i hgt hik)
theorem MT.apart (h : MT n E N m q) (hn : n ≤ 7) {i k l : Nat} (hk : k < N) (hl : l < N) (hqk : q k = (i : Int)) (hql : q l = (i : Int)) (hne : k ≠ l) : ∀ x, (m k).testBit x = true → (m l).testBit x = false := fun x hx => by
  cases hb : (m l).testBit x with
  | false => rfl
  | true =>
    exfalso
    obtain ⟨a1, a2, a3, a4⟩ := h.direct hn hk hqk
    obtain ⟨b1, b2, b3, b4⟩ := h.direct hn hl hql
    rcases (h.st k hk).lam (h.st l hl) hx hb with hs | hs
    · rcases a4 _ (h.st l hl) hs b2 with e | e
      · exact hne (h.inj hk hl e.symm)
      · exact b3 e
    · rcases b4 _ (h.st k hk) hs a2 with e | e
      · exact hne (h.inj hk hl e)
      · exact a3 e
/-- The children of a node, by their places. -/
def kids (q : Nat → Int) (N i : Nat) : List Nat := (List.range N).filter fun k => decide (q k = (i : Int))
theorem mem_kids {q : Nat → Int} {N i k : Nat} : k ∈ kids q N i ↔ k < N ∧ q k = (i : Int) := by simp [kids]
theorem kids_nodup (q : Nat → Int) (N i : Nat) : (kids q N i).Nodup := List.Pairwise.sublist List.filter_sublist List.nodup_range
theorem add_or : ∀ a : Fin 128, ∀ b : Fin 128, a.val &&& b.val = 0 → a.val + b.val = a.val ||| b.val := by decide +kernel
theorem sum_bits {f : Nat → Nat} : ∀ l : List Nat, (∀ k ∈ l, f k < 128) → l.Pairwise (fun a b => ∀ x, (f a).testBit x = true → (f b).testBit x = false) → (l.map f).sum < 128 ∧ ∀ x, (l.map f).sum.testBit x = true ↔ ∃ k ∈ l, (f k).testBit x = true
  | [], _, _ => by simp
  | a :: l, hlt, hp => by
    obtain ⟨p1, p2⟩ := List.pairwise_cons.1 hp
    obtain ⟨i1, i2⟩ := sum_bits l (fun k hk => hlt k (List.mem_cons_of_mem _ hk)) p2
    have ha := hlt a (List.mem_cons_self ..)
    have hz : f a &&& (l.map f).sum = 0 := by
      refine Nat.eq_of_testBit_eq fun x => ?_
      rw [Nat.testBit_and, Nat.zero_testBit]
      cases h1 : (f a).testBit x with
      | false => rfl
      | true =>
        cases h2 : (l.map f).sum.testBit x with
        | false => rfl
        | true =>
          obtain ⟨k, hk, hkx⟩ := (i2 x).1 h2
          rw [p1 k hk x h1] at hkx; cases hkx
    have he := add_or ⟨f a, ha⟩ ⟨(l.map f).sum, i1⟩ hz
    dsimp only at he
    rw [List.map_cons, List.sum_cons, he]
    refine ⟨Nat.or_lt_two_pow (n := 7) ha i1, fun x => ?_⟩
    rw [Nat.testBit_or, Bool.or_eq_true, i2]
    simp
theorem MT.sum (h : MT n E N m q) (hn : n ≤ 7) {i : Nat} (hi : i < N) (hbig : ∀ v, m i ≠ 2 ^ v) : ((kids q N i).map m).sum = m i := by
  obtain ⟨_, hb⟩ := sum_bits (f := m) (kids q N i) (fun k hk => h.lt hn (mem_kids.1 hk).1) (by
    have hnd := kids_nodup q N i
    refine hnd.imp_of_mem fun {a b} ha hb hne => ?_
    exact h.apart hn (mem_kids.1 ha).1 (mem_kids.1 hb).1 (mem_kids.1 ha).2 (mem_kids.1 hb).2 hne)
  refine Nat.eq_of_testBit_eq fun x => ?_
  rw [Bool.eq_iff_iff, hb]
  constructor
  · rintro ⟨k, hk, hx⟩
    obtain ⟨h1, h2⟩ := mem_kids.1 hk
    exact (h.direct hn h1 h2).2.1 x hx
  · intro hx
    obtain ⟨k, h1, h2, h3⟩ := h.cover hn hi hx (hbig x)
    exact ⟨k, mem_kids.2 ⟨h1, h2⟩, h3⟩
theorem two_in {l : List Nat} {a b : Nat} (ha : a ∈ l) (hb : b ∈ l) (hne : a ≠ b) : 2 ≤ l.length := by
  match l, ha, hb with
  | [c], ha, hb => exact absurd ((List.mem_singleton.1 ha).trans (List.mem_singleton.1 hb).symm) hne
  | c :: d :: r, _, _ => simp
theorem MT.two (h : MT n E N m q) (hn : n ≤ 7) {i : Nat} (hi : i < N) (hbig : ∀ v, m i ≠ 2 ^ v) : 2 ≤ (kids q N i).length := by
  obtain ⟨v, hv⟩ := (h.st i hi).some
  obtain ⟨k, h1, h2, h3⟩ := h.cover hn hi hv (hbig v)
  obtain ⟨_, hs, hne, _⟩ := h.direct hn h1 h2
  obtain ⟨u, hu, hnu⟩ : ∃ u, (m i).testBit u = true ∧ (m k).testBit u = false := Classical.byContradiction fun hno => hne (SubN.antisymm hs fun x hx => by
    cases hb : (m k).testBit x with
    | true => rfl
    | false => exact absurd ⟨x, hx, hb⟩ hno)
  obtain ⟨l, l1, l2, l3⟩ := h.cover hn hi hu (hbig u)
  refine two_in (mem_kids.2 ⟨h1, h2⟩) (mem_kids.2 ⟨l1, l2⟩) fun e => ?_
  rw [e, l3] at hnu; cases hnu
/-- A node whose vertices fall in no two parts with all edges or none between has four children. -/
theorem MT.four (h : MT n E N m q) (hn : n ≤ 7) (hs : ∀ x y, E x y = E y x) {i : Nat} (hi : i < N) (hbig : ∀ v, m i ≠ 2 ^ v) (hno : ¬ ∃ P, JnE E (m i) P ∨ JnE (coE E) (m i) P) : 4 ≤ (kids q N i).length := by
  have h2 := h.two hn hi hbig
  have hnd := kids_nodup q N i
  have hmem : ∀ k, k ∈ kids q N i → k < N ∧ q k = (i : Int) := fun k hk => mem_kids.1 hk
  have hcov : ∀ x, (m i).testBit x = true → ∃ k ∈ kids q N i, (m k).testBit x = true := fun x hx => by
    obtain ⟨k, h1, h2, h3⟩ := h.cover hn hi hx (hbig x)
    exact ⟨k, mem_kids.2 ⟨h1, h2⟩, h3⟩
  generalize hK : kids q N i = K at *
  have hbit : ∀ k ∈ K, ∀ x, (m k).testBit x = true → (m i).testBit x = true := fun k hk => (h.direct hn (hmem k hk).1 (hmem k hk).2).2.1
  have hap : ∀ a ∈ K, ∀ b ∈ K, a ≠ b → ∀ x, (m a).testBit x = true → (m b).testBit x = false := fun a ha b hb hne => h.apart hn (hmem a ha).1 (hmem b hb).1 (hmem a ha).2 (hmem b hb).2 hne
  refine Classical.byContradiction fun hlt => hno ?_
  match K, h2, hnd, hlt, hmem, hcov, hbit, hap with
  | [a, b], _, hnd, _, hmem, hcov, hbit, hap =>
    have hab : a ≠ b := by simpa using hnd
    have sa := h.st a (hmem a (by simp)).1
    have sb := h.st b (hmem b (by simp)).1
    obtain ⟨x, hx⟩ := sa.some
    obtain ⟨y, hy⟩ := sb.some
    refine few_parts hs (C := 0) sa.2.2.1 sb.2.2.1 (fun x y v hx => by simp at hx) sa.1 sb.1 (Nat.two_pow_pos _) (fun z => ?_) (hap a (by simp) b (by simp) hab) (fun z _ => by simp) (fun z _ => by simp) hx hy
    rw [Bool.eq_iff_iff]
    simp only [Nat.zero_testBit, Bool.or_false, Bool.or_eq_true]
    constructor
    · intro hz
      obtain ⟨k, hk, hkz⟩ := hcov z hz
      simp at hk
      rcases hk with rfl | rfl
      · exact .inl hkz
      · exact .inr hkz
    · rintro (hz | hz)
      · exact hbit a (by simp) z hz
      · exact hbit b (by simp) z hz
  | [a, b, c], _, hnd, _, hmem, hcov, hbit, hap =>
    simp at hnd
    obtain ⟨⟨hab, hac⟩, hbc⟩ := hnd
    have sa := h.st a (hmem a (by simp)).1
    have sb := h.st b (hmem b (by simp)).1
    have sc := h.st c (hmem c (by simp)).1
    obtain ⟨x, hx⟩ := sa.some
    obtain ⟨y, hy⟩ := sb.some
    refine few_parts hs sa.2.2.1 sb.2.2.1 sc.2.2.1 sa.1 sb.1 sc.1 (fun z => ?_) (hap a (by simp) b (by simp) hab) (hap a (by simp) c (by simp) hac) (hap b (by simp) c (by simp) hbc) hx hy
    rw [Bool.eq_iff_iff]
    simp only [Bool.or_eq_true]
    constructor
    · intro hz
      obtain ⟨k, hk, hkz⟩ := hcov z hz
      simp at hk
      rcases hk with rfl | rfl | rfl
      · exact .inl (.inl hkz)
      · exact .inl (.inr hkz)
      · exact .inr hkz
    · rintro ((hz | hz) | hz)
      · exact hbit a (by simp) z hz
      · exact hbit b (by simp) z hz
      · exact hbit c (by simp) z hz
  | _ :: _ :: _ :: _ :: _, _, _, hlt, _, _, _, _ => exact absurd (by simp) hlt
/-- The leaves. -/
theorem MT.leaves (h : MT n E N m q) : ((List.range N).filter fun i => (List.range n).any fun v => decide (m i = 2 ^ v)).length = n := by
  have inj2 : ∀ a b : Nat, 2 ^ a = 2 ^ b → a = b := fun a b hab => by
    have h1 : (2 ^ a).testBit b = true := by rw [hab, Nat.testBit_two_pow]; simp
    rw [Nat.testBit_two_pow] at h1; simpa using h1
  have hnd : ((List.range N).filter fun i => (List.range n).any fun v => decide (m i = 2 ^ v)).Nodup := List.Pairwise.sublist List.filter_sublist List.nodup_range
  have hmem : ∀ i, i ∈ ((List.range N).filter fun i => (List.range n).any fun v => decide (m i = 2 ^ v)) ↔ i < N ∧ ∃ v, v < n ∧ m i = 2 ^ v := fun i => by simp
  have hl : (((List.range N).filter fun i => (List.range n).any fun v => decide (m i = 2 ^ v)).map m).length ≤ ((List.range n).map fun v => 2 ^ v).length := by
    refine nodup_lenN _ _ ?_ fun x hx => ?_
    · refine List.Pairwise.map _ (R := fun a b => a ≠ b ∧ a < N ∧ b < N) (fun a b ⟨hne, ha, hb⟩ he => hne (h.inj ha hb he)) (hnd.imp_of_mem fun {a b} ha hb hne => ⟨hne, ((hmem a).1 ha).1, ((hmem b).1 hb).1⟩)
    · obtain ⟨i, hi, rfl⟩ := List.mem_map.1 hx
      obtain ⟨_, v, hv, he⟩ := (hmem i).1 hi
      exact List.mem_map.2 ⟨v, List.mem_range.2 hv, he.symm⟩
  have hg : ((List.range n).map fun v => 2 ^ v).length ≤ (((List.range N).filter fun i => (List.range n).any fun v => decide (m i = 2 ^ v)).map m).length := by
    refine nodup_lenN _ _ ?_ fun x hx => ?_
    · exact List.Pairwise.map _ (fun a b hne he => hne (inj2 a b he)) List.nodup_range
    · obtain ⟨v, hv, rfl⟩ := List.mem_map.1 hx
      have hv := List.mem_range.1 hv
      obtain ⟨i, hi, he⟩ := h.all _ (single_st (E := E) hv)
      exact List.mem_map.2 ⟨i, (hmem i).2 ⟨hi, v, hv, he⟩, he⟩
  simp only [List.length_map, List.length_range] at hl hg
  exact Nat.le_antisymm hl hg
theorem sum_count (q : Nat → Int) (N : Nat) : ∀ l : List Nat, ((List.range N).map fun i : Nat => (l.filter fun k => decide (q k = (i : Int))).length).sum = (l.filter fun k => decide (0 ≤ q k ∧ q k < N)).length
  | [] => by
    simp only [List.filter_nil, List.length_nil]
    induction N with
    | zero => rfl
    | succ N ih => rw [List.range_succ, List.map_append, List.sum_append, ih]; rfl
  | a :: l => by
    have ih := sum_count q N l
    have hs : ∀ M : Nat, ((List.range M).map fun i : Nat => ((a :: l).filter fun k => decide (q k = (i : Int))).length).sum = ((List.range M).map fun i : Nat => (l.filter fun k => decide (q k = (i : Int))).length).sum + (if 0 ≤ q a ∧ q a < M then 1 else 0) := by
      intro M
      induction M with
      | zero => rw [if_neg (by omega)]; rfl
      | succ M ihM =>
        rw [List.range_succ, List.map_append, List.sum_append, ihM, List.map_append, List.sum_append]
        simp only [List.map_cons, List.map_nil, List.sum_cons, List.sum_nil, List.filter_cons]
        by_cases he : q a = (M : Int)
        · have a1 : ¬ (0 ≤ q a ∧ q a < (M : Int)) := by omega
          have a2 : 0 ≤ q a ∧ q a < ((M + 1 : Nat) : Int) := by omega
          rw [if_neg a1, if_pos a2, if_pos (decide_eq_true he), List.length_cons]; omega
        · have a3 : ¬ decide (q a = (M : Int)) = true := by simpa using he
          by_cases hr : 0 ≤ q a ∧ q a < (M : Int)
          · have a2 : 0 ≤ q a ∧ q a < ((M + 1 : Nat) : Int) := by omega
            rw [if_pos hr, if_pos a2, if_neg a3]; omega
          · have a2 : ¬ (0 ≤ q a ∧ q a < ((M + 1 : Nat) : Int)) := by omega
            rw [if_neg hr, if_neg a2, if_neg a3]; omega
    rw [hs N, ih, List.filter_cons]
    by_cases hr : 0 ≤ q a ∧ q a < N
    · rw [if_pos hr, if_pos (by simpa using hr)]; simp
    · rw [if_neg hr, if_neg (by simpa using hr)]; rfl
theorem sum_low {f : Nat → Nat} {p : Nat → Bool} : ∀ l : List Nat, (∀ i ∈ l, p i = false → 2 ≤ f i) → 2 * l.length ≤ (l.map f).sum + 2 * (l.filter p).length
  | [], _ => by simp
  | a :: l, h => by
    have ih := sum_low (f := f) (p := p) l fun i hi => h i (List.mem_cons_of_mem _ hi)
    have ha := h a (List.mem_cons_self ..)
    rw [List.map_cons, List.sum_cons, List.filter_cons, List.length_cons]
    cases hp : p a with
    | true => simp; omega
    | false => have := ha hp; simp; omega
/-- At most two nodes less than twice as many as vertices, and one. -/
theorem MT.few (h : MT n E N m q) (hn : n ≤ 7) (h1 : 1 ≤ n) : N + 1 ≤ 2 * n := by
  have hN := (h.root hn h1).1
  have hl := h.leaves
  have hsc := sum_count q N (List.range N)
  have hlow := sum_low (f := fun i => (kids q N i).length) (p := fun i => (List.range n).any fun v => decide (m i = 2 ^ v)) (List.range N) fun i hi hp => by
    have hi := List.mem_range.1 hi
    refine h.two hn hi fun v he => ?_
    have hvn : v < n := has_lt (h.st i hi).1 (by rw [he, Nat.testBit_two_pow]; simp)
    have : (List.range n).any (fun v => decide (m i = 2 ^ v)) = true := List.any_eq_true.2 ⟨v, List.mem_range.2 hvn, decide_eq_true he⟩
    rw [this] at hp; cases hp
  rw [hl, List.length_range] at hlow
  have hub : ((List.range N).filter fun k => decide (0 ≤ q k ∧ q k < N)).length + 1 ≤ N := by
    obtain ⟨M, rfl⟩ : ∃ M, N = M + 1 := ⟨N - 1, by omega⟩
    rw [List.range_succ_eq_map, List.filter_cons, if_neg (by rw [h.q0 hn h1]; simp)]
    have := List.length_filter_le (fun k => decide (0 ≤ q k ∧ q k < ((M + 1 : Nat) : Int))) ((List.range M).map Nat.succ)
    simp only [List.length_map, List.length_range] at this
    omega
  unfold kids at hlow
  rw [hsc] at hlow
  omega
/-- No node has its parent's kind. -/
theorem MT.kinds (h : MT n E N m q) (hn : n ≤ 7) (hs : ∀ x y, E x y = E y x) {k j : Nat} (hk : k < N) (hq : q k = j) (hk2 : ∃ P, JnE E (m k) P) (hj2 : ∃ P, JnE E (m j) P) : False := by
  obtain ⟨hjk, hsub, hne, hmax⟩ := h.direct hn hk hq
  have sk := h.st k hk
  have sj := h.st j (by omega)
  refine join_child hn hs sj.1 sj.2.2 sk.2.2 hsub hne hj2 hk2 fun D hD hDs h1 h2 => ?_
  refine hmax D ⟨hD, ?_, hDs⟩ h1 h2
  exact ne_zero_of_sub h1 sk.2.1
end
end Go.Pw
/- Modules that meet: union and meet are modules; the least module of a set lies in every module that holds the set. -/
namespace Go.Pw
open Go
theorem modN_or {n : Nat} {r : Nat → Nat} {A B : Nat} (hA : ModN n r A) (hB : ModN n r B) (h : A &&& B ≠ 0) : ModN n r (A ||| B) := by
  obtain ⟨z, hz⟩ := Nat.exists_testBit_of_ne_zero h
  rw [Nat.testBit_and, Bool.and_eq_true] at hz
  have key : ∀ x v, (A ||| B).testBit x = true → v < n → (A ||| B).testBit v = false → (r x).testBit v = (r z).testBit v := fun x v hx hv hn => by
    rw [Nat.testBit_or, Bool.or_eq_true] at hx
    rw [Nat.testBit_or, Bool.or_eq_false_iff] at hn
    rcases hx with hx | hx
    · exact hA.2 x z hx hz.1 v hv hn.1
    · exact hB.2 x z hx hz.2 v hv hn.2
  refine ⟨fun e => ?_, fun x y hx hy v hv hn => by rw [key x v hx hv hn, key y v hy hv hn]⟩
  have : (A ||| B).testBit z = true := by rw [Nat.testBit_or, hz.1]; rfl
  rw [e] at this; simp at this
theorem modN_and {n : Nat} {r : Nat → Nat} {A B : Nat} (hA : ModN n r A) (hB : ModN n r B) (h : A &&& B ≠ 0) : ModN n r (A &&& B) := by
  refine ⟨h, fun x y hx hy v hv hn => ?_⟩
  rw [Nat.testBit_and, Bool.and_eq_true] at hx hy
  rw [Nat.testBit_and, Bool.and_eq_false_iff] at hn
  rcases hn with hn | hn
  · exact hA.2 x y hx.1 hy.1 v hv hn
  · exact hB.2 x y hx.2 hy.2 v hv hn
theorem modP_nat {size : Int} {rows : List Int} {n : Nat} (hg : IsG size rows) (hn : size = n) {M : Nat} (hM : M < 2 ^ n) (h : ModN n (rowN rows) M) : modP size rows (M : Int) := by
  obtain ⟨_, _, _, _, hn7⟩ := isG_size hg
  have h62 : n ≤ 62 := by
    have := hg.1.2
    omega
  refine ⟨⟨hg, by omega, ?_⟩, (modQ_iff hg hn hM).2 h⟩
  rw [hn, ishl_one_nat h62]; omega
theorem mods_meet {size : Int} {rows : List Int} {a b : Int} (hg : IsG size rows) (ha : a ∈ modsL size rows) (hb : b ∈ modsL size rows) (h : iand a b ≠ 0) : modP size rows (ior a b) ∧ modP size rows (iand a b) := by
  obtain ⟨n, hn, hl, hn1, hn7⟩ := isG_size hg
  have h7 := pow_le7 hn7
  obtain ⟨A, rfl, hA, mA⟩ := (mem_modsL hg hn).1 ha
  obtain ⟨B, rfl, hB, mB⟩ := (mem_modsL hg hn).1 hb
  rw [iand_nat (by omega) (by omega)] at h ⊢
  rw [ior_nat (by omega) (by omega)]
  have h0 : A &&& B ≠ 0 := fun e => h (by rw [e]; rfl)
  exact ⟨modP_nat hg hn (Nat.or_lt_two_pow hA hB) (modN_or mA mB h0), modP_nat hg hn (Nat.lt_of_le_of_lt Nat.and_le_left hA) (modN_and mA mB h0)⟩
theorem least_facts {size : Int} {rows : List Int} {n S : Nat} (hg : IsG size rows) (hn : size = n) (hS : S < 2 ^ n) (h0 : S ≠ 0) : leastM size rows S ∈ modsL size rows ∧ iand (leastM size rows S) S = S ∧
    ∀ x ∈ modsL size rows, iand x S = S → iand x (leastM size rows S) = leastM size rows S := by
  obtain ⟨m, hm, hl, hn1, hn7⟩ := isG_size hg
  obtain rfl : n = m := by omega
  have h7 := pow_le7 hn7
  have hng := ng_of hg hn
  have hmod := lmN_mod hng h0 hS
  have hlt := lmN_lt (r := rowN rows) hS n
  have hup := lmN_up (r := rowN rows) (n := n) S n
  have e : leastM size rows (S : Int) = ((lmN (rowN rows) n S n : Nat) : Int) := by
    unfold leastM
    rw [if_pos ⟨⟨hg, by omega, by rw [hn, ishl_one_nat (by omega)]; omega⟩, by omega⟩, hn]; rfl
  have and_sub : ∀ {A B : Nat}, SubN B A → A &&& B = B := fun {A B} h => by
    apply Nat.eq_of_testBit_eq
    intro i
    rw [Nat.testBit_and]
    cases hb : B.testBit i with
    | false => simp
    | true => rw [h i hb]; rfl
  rw [e]
  refine ⟨(mem_modsL hg hn).2 ⟨_, rfl, hlt, hmod⟩, by rw [iand_nat (by omega) (by omega), and_sub hup], fun x hx hxs => ?_⟩
  obtain ⟨M, rfl, hM, mM⟩ := (mem_modsL hg hn).1 hx
  rw [iand_nat (by omega) (by omega)] at hxs
  have hsub : SubN S M := fun i hi => by
    have : (M &&& S).testBit i = true := by rw [show M &&& S = S by omega]; exact hi
    rw [Nat.testBit_and, Bool.and_eq_true] at this; exact this.1
  rw [iand_nat (by omega) (by omega), and_sub (lmN_in hng mM hM hsub n)]
end Go.Pw
/- The module tree that both print is the tree of strong modules; its kinds. -/
namespace Go.Pw
open Go
theorem modE_iff {n M : Nat} {r : Nat → Nat} (hr : NG n r) (hM : M < 2 ^ n) : ModN n r M ↔ M ≠ 0 ∧ ModE n (eN r) M := by
  constructor
  · rintro ⟨h0, h⟩
    refine ⟨h0, fun x y v hx hy hv hno => ?_⟩
    have := h x y hx hy v hv hno
    unfold eN
    rw [hr.sym v x hv (has_lt hM hx), hr.sym v y hv (has_lt hM hy)]; exact this
  · rintro ⟨h0, h⟩
    refine ⟨h0, fun x y hx hy v hv hno => ?_⟩
    have := h x y v hx hy hv hno
    unfold eN at this
    rw [hr.sym x v (has_lt hM hx) hv, hr.sym y v (has_lt hM hy) hv]; exact this
theorem strong_iff {n : Nat} {rows : List Int} (hg : IsG n rows) {x : Int} : x ∈ strongL n rows ↔ ∃ M : Nat, x = M ∧ StN n (eN (rowN rows)) M := by
  have hr := ng_of hg rfl
  have h7 := pow_le7 hr.le
  have hsl : x ∈ strongL n rows ↔ x ∈ modsL n rows ∧ strongB (modsL n rows) x = true := by
    unfold strongL strongU
    rw [List.take_length, List.mem_filter]
  have hB : ∀ M : Nat, M < 128 → (strongB (modsL n rows) (M : Int) = true ↔ ∀ X : Nat, X < 2 ^ n → ModN n (rowN rows) X → (M &&& X = 0 ∨ M &&& X = M ∨ M &&& X = X)) := fun M hM => by
    unfold strongB
    rw [Bool.not_eq_true', List.any_eq_false]
    constructor
    · intro h X hX hXm
      have h1 := h (X : Int) ((mem_modsL hg rfl).2 ⟨X, rfl, hX, hXm⟩)
      rw [decide_eq_true_eq, over_iff (by omega) hM] at h1
      have h2 := Decidable.of_not_not h1
      rw [iand_nat (by omega) (by omega)] at h2
      have e1 : (((M &&& X : Nat) : Int) = 0) ↔ M &&& X = 0 := by omega
      have e2 : (((M &&& X : Nat) : Int) = (M : Int)) ↔ M &&& X = M := by omega
      have e3 : (((M &&& X : Nat) : Int) = (X : Int)) ↔ M &&& X = X := by omega
      rw [e1, e2, e3] at h2
      exact h2
    · intro h y hy
      obtain ⟨X, rfl, hX, hXm⟩ := (mem_modsL hg rfl).1 hy
      rw [decide_eq_true_eq, over_iff (by omega) hM]
      refine fun hno => hno ?_
      rw [iand_nat (by omega) (by omega)]
      rcases h X hX hXm with h1 | h1 | h1
      · exact .inl (by rw [h1]; rfl)
      · exact .inr (.inl (by rw [h1]))
      · exact .inr (.inr (by rw [h1]))
  rw [hsl]
  constructor
  · rintro ⟨h1, h2⟩
    obtain ⟨M, rfl, hM, hMm⟩ := (mem_modsL hg rfl).1 h1
    obtain ⟨h0, hE⟩ := (modE_iff hr hM).1 hMm
    refine ⟨M, rfl, hM, h0, hE, fun X hX hXE ⟨x, hx, hxM⟩ => ?_⟩
    have hX0 : X ≠ 0 := fun e => by rw [e, Nat.zero_testBit] at hx; cases hx
    rcases (hB M (by omega)).1 h2 X hX ((modE_iff hr hX).2 ⟨hX0, hXE⟩) with h3 | h3 | h3
    · exfalso
      have : (M &&& X).testBit x = true := by rw [Nat.testBit_and, hx, hxM]; rfl
      rw [h3, Nat.zero_testBit] at this; cases this
    · exact .inr (subN_and.2 h3)
    · exact .inl (subN_and.2 (by rw [Nat.and_comm]; exact h3))
  · rintro ⟨M, rfl, hM, h0, hE, hS⟩
    refine ⟨(mem_modsL hg rfl).2 ⟨M, rfl, hM, (modE_iff hr hM).2 ⟨h0, hE⟩⟩, (hB M (by omega)).2 fun X hX hXm => ?_⟩
    by_cases hz : M &&& X = 0
    · exact .inl hz
    obtain ⟨x, hx⟩ := Nat.exists_testBit_of_ne_zero hz
    rw [Nat.testBit_and, Bool.and_eq_true] at hx
    rcases hS X hX ((modE_iff hr hX).1 hXm).2 ⟨x, hx.2, hx.1⟩ with h1 | h1
    · exact .inr (.inr (by rw [Nat.and_comm]; exact subN_and.1 h1))
    · exact .inr (.inl (subN_and.1 h1))
def mN (n : Nat) (rows : List Int) (i : Nat) : Nat := ((mtS n rows).getD i 0).toNat
def qN (n : Nat) (rows : List Int) (k : Nat) : Int := (mtQ n rows).getD k 0
theorem mts_eq {n : Nat} {rows : List Int} (hg : IsG n rows) : mtS n rows = bkD (strongL n rows) n n := by
  unfold mtS
  rw [if_pos hg, bkD_sort (strong_pair n rows) n (strong_cnt hg rfl)]
theorem mts_mem {n : Nat} {rows : List Int} (hg : IsG n rows) (x : Int) : x ∈ mtS n rows ↔ x ∈ strongL n rows := by
  rw [mts_eq hg, (bkD_spec (strong_pair n rows) n n).2]
  refine ⟨fun h => h.1, fun h => ⟨h, ?_⟩⟩
  have := strong_cnt hg rfl x h
  omega
theorem mts_at {n : Nat} {rows : List Int} (hg : IsG n rows) {i : Nat} (hi : i < (mtS n rows).length) : (mtS n rows).getD i 0 = (mN n rows i : Int) ∧ StN n (eN (rowN rows)) (mN n rows i) := by
  have hm : (mtS n rows).getD i 0 ∈ mtS n rows := getD_mem hi
  obtain ⟨M, he, hM⟩ := (strong_iff hg).1 ((mts_mem hg _).1 hm)
  have h1 : mN n rows i = M := by unfold mN; rw [he]; rfl
  rw [h1]
  exact ⟨he, hM⟩
theorem parU_at (T : List Int) (x : Int) : ∀ k : Nat, (parU T x k = -1 ∧ ∀ j, j < k → iandnot x (T.getD j 0) ≠ 0) ∨ ∃ j : Nat, parU T x k = j ∧ j < k ∧ iandnot x (T.getD j 0) = 0 ∧ ∀ j', j < j' → j' < k → iandnot x (T.getD j' 0) ≠ 0
  | 0 => .inl ⟨rfl, fun j hj => by omega⟩
  | k + 1 => by
    unfold parU
    by_cases h : iandnot x (T.getD k 0) = 0
    · rw [if_pos h]
      exact .inr ⟨k, rfl, by omega, h, fun j' h1 h2 => by omega⟩
    · rw [if_neg h]
      rcases parU_at T x k with ⟨h1, h2⟩ | ⟨j, h1, h2, h3, h4⟩
      · refine .inl ⟨h1, fun j hj => ?_⟩
        by_cases hjk : j < k
        · exact h2 j hjk
        · obtain rfl : j = k := by omega
          exact h
      · refine .inr ⟨j, h1, by omega, h3, fun j' h5 h6 => ?_⟩
        by_cases hjk : j' < k
        · exact h4 j' h5 hjk
        · obtain rfl : j' = k := by omega
          exact h
theorem mt_tree {n : Nat} {rows : List Int} (hg : IsG n rows) : MT n (eN (rowN rows)) (mtS n rows).length (mN n rows) (qN n rows) := by
  have hr := ng_of hg rfl
  have h7 := pow_le7 hr.le
  refine ⟨fun i hi => (mts_at hg hi).2, fun M hM => ?_, fun i j hij hj => ?_, fun k hk => ?_⟩
  · have := (mts_mem hg (M : Int)).2 ((strong_iff hg).2 ⟨M, rfl, hM⟩)
    obtain ⟨i, hi, he⟩ := mem_getD this
    refine ⟨i, hi, ?_⟩
    unfold mN; rw [he]; rfl
  · have hp : (mtS n rows).Pairwise (fun a b => ltD a b = true) := by rw [mts_eq hg]; exact (bkD_spec (strong_pair n rows) n n).1
    have h1 := List.pairwise_iff_getElem.1 hp i j (by omega) hj hij
    obtain ⟨e1, s1⟩ := mts_at hg (show i < (mtS n rows).length by omega)
    obtain ⟨e2, s2⟩ := mts_at hg hj
    have g1 : (mtS n rows)[i]'(by omega) = (mN n rows i : Int) := by rw [← e1]; simp [List.getD, show i < (mtS n rows).length by omega]
    have g2 : (mtS n rows)[j]'hj = (mN n rows j : Int) := by rw [← e2]; simp [List.getD, hj]
    rw [g1, g2] at h1
    unfold ltD at h1
    have h2 := of_decide_eq_true h1
    have l1 : mN n rows i < 128 := Nat.lt_of_lt_of_le s1.1 h7
    have l2 : mN n rows j < 128 := Nat.lt_of_lt_of_le s2.1 h7
    rw [cntS_nat l1, cntS_nat l2] at h2
    omega
  · have hq : qN n rows k = parU ((mtS n rows).take k) ((mtS n rows).getD k 0) k := by
      unfold qN mtQ parsL
      have : ((List.range (mtS n rows).length).map fun i => parL ((mtS n rows).take i) ((mtS n rows).getD i 0)).getD k 0 = parL ((mtS n rows).take k) ((mtS n rows).getD k 0) := by simp [List.getD, hk]
      rw [this]
      unfold parL
      rw [List.length_take, Nat.min_eq_left (by omega)]
    obtain ⟨ek, sk⟩ := mts_at hg hk
    have hsub : ∀ j, j < k → (iandnot ((mtS n rows).getD k 0) (((mtS n rows).take k).getD j 0) = 0 ↔ SubN (mN n rows k) (mN n rows j)) := fun j hj => by
      have : ((mtS n rows).take k).getD j 0 = (mtS n rows).getD j 0 := by simp [List.getD, List.getElem?_take, hj]
      rw [this, ek, (mts_at hg (show j < (mtS n rows).length by omega)).1]
      exact andnot_zero (by have := sk.1; omega)
    rw [hq]
    rcases parU_at ((mtS n rows).take k) ((mtS n rows).getD k 0) k with ⟨h1, h2⟩ | ⟨j, h1, h2, h3, h4⟩
    · exact .inl ⟨h1, fun j hj hs => h2 j hj ((hsub j hj).2 hs)⟩
    · exact .inr ⟨j, h1, h2, (hsub j h2).1 h3, fun j' h5 h6 hs => h4 j' h5 h6 ((hsub j' h6).2 hs)⟩
/-! Kinds. -/
theorem parts_gt {n set : Nat} {r : Nat → Nat} (hr : NG n r) (hset : set < 2 ^ n) (h0 : set ≠ 0) : 1 < (partsN r n set 128 set).length ↔ ∃ P, JnE (coE (eN r)) set P := by
  have h7 := pow_le7 hr.le
  have hss : SplitN r set set := ⟨SubN.refl _, fun _ _ _ h _ => h⟩
  have hf := part_facts hr hset hss h0
  constructor
  · intro h
    refine ⟨compN r n set (2 ^ lowN set), hf.sub, Nat.exists_testBit_of_ne_zero hf.pos, ?_, fun x y hx hy hny => ?_⟩
    · refine Classical.byContradiction fun hno => ?_
      have he : compN r n set (2 ^ lowN set) = set := SubN.antisymm hf.sub fun x hx => by
        cases hb : (compN r n set (2 ^ lowN set)).testBit x with
        | true => rfl
        | false => exact absurd ⟨x, hx, hb⟩ hno
      rw [show (128 : Nat) = 127 + 1 from rfl, partsN, if_neg h0, he, Nat.sub_self] at h
      simp [partsN] at h
    · rw [coE_true]
      refine ⟨hf.far x y hx ?_, fun e => by rw [e, hny] at hx; cases hx⟩
      rw [sub_bit (by omega) hf.sub, hy, hny]; rfl
  · rintro ⟨P, p1, ⟨x, hx⟩, ⟨y, hy, hny⟩, hP⟩
    refine Classical.byContradiction fun hle => ?_
    have h1 : (partsN r n set 128 set).length = 1 := by
      have : 0 < (partsN r n set 128 set).length := by
        rw [show (128 : Nat) = 127 + 1 from rfl, partsN, if_neg h0]; simp
      omega
    refine one_no_cut hr hset h0 (one_part hr hset h0 h1) (Q := fun i => P.testBit i = true) ⟨⟨x, hx⟩, p1, ⟨y, hy, by show ¬ P.testBit y = true; rw [hny]; simp⟩, fun a b ha hb hnb => ?_⟩
    exact (coE_true.1 (hP a b ha hb (by simpa using hnb))).1
theorem jn_bar {n M : Nat} {rows : List Int} (hg : IsG n rows) (hM : M < 2 ^ n) (P : Nat) : JnE (coE (eN (rowN (barL n rows)))) M P ↔ JnE (eN (rowN rows)) M P := by
  have key : ∀ x y, SubN P M → P.testBit x = true → M.testBit y = true → P.testBit y = false → coE (eN (rowN (barL n rows))) x y = eN (rowN rows) x y := fun x y hs hx hy hny => by
    have hxn := has_lt hM (hs x hx)
    have hyn := has_lt hM hy
    have hne : x ≠ y := fun e => by rw [e, hny] at hx; cases hx
    unfold coE
    rw [bar_eN hg rfl hxn hyn]
    unfold coE
    rw [decide_eq_true hne]
    simp
  constructor
  · rintro ⟨h1, h2, h3, h4⟩
    exact ⟨h1, h2, h3, fun x y hx hy hny => by rw [← key x y h1 hx hy hny]; exact h4 x y hx hy hny⟩
  · rintro ⟨h1, h2, h3, h4⟩
    exact ⟨h1, h2, h3, fun x y hx hy hny => by rw [key x y h1 hx hy hny]; exact h4 x y hx hy hny⟩
theorem cnt1_iff : ∀ M : Fin 128, cntN M.val = 1 ↔ ∃ v : Fin 7, M.val = 2 ^ v.val := by decide +kernel
theorem parts_eq {n M : Nat} (rows : List Int) : (partsL rows (n : Int) (M : Int)).length = (partsN (rowN rows) n M 128 M).length := by
  unfold partsL
  rw [List.length_map]; rfl
theorem kind_of {n M : Nat} {rows : List Int} (hg : IsG n rows) (hM : StN n (eN (rowN rows)) M) :
    (kindX n rows M = 0 ↔ ∃ v, v < n ∧ M = 2 ^ v) ∧ (kindX n rows M = 1 → ∃ P, JnE (coE (eN (rowN rows))) M P) ∧ (kindX n rows M = 2 → ∃ P, JnE (eN (rowN rows)) M P) ∧
    (kindX n rows M = 3 → ¬ ∃ P, JnE (eN (rowN rows)) M P ∨ JnE (coE (eN (rowN rows))) M P) ∧ (0 ≤ kindX n rows M ∧ kindX n rows M ≤ 3) := by
  have hr := ng_of hg rfl
  have h7 := pow_le7 hr.le
  have hM7 : M < 128 := by have := hM.1; omega
  have hmod : modP n rows (M : Int) := by
    refine modP_nat hg rfl hM.1 ((modE_iff hr hM.1).2 ⟨hM.2.1, hM.2.2.1⟩)
  have hrb := ng_of (bar_isG hg) rfl
  have c1 : (cntS (M : Int) = 1) ↔ ∃ v, v < n ∧ M = 2 ^ v := by
    rw [cntS_nat hM7]
    have := cnt1_iff ⟨M, hM7⟩
    dsimp only at this
    constructor
    · intro h
      obtain ⟨v, hv⟩ := this.1 (by omega)
      exact ⟨v.val, has_lt hM.1 (by rw [hv, Nat.testBit_two_pow]; simp), hv⟩
    · rintro ⟨v, hv, he⟩
      have h2 := this.2 ⟨⟨v, by have := hr.le; omega⟩, he⟩
      omega
  have p1 := parts_gt hr hM.1 hM.2.1
  have p2 := parts_gt hrb hM.1 hM.2.1
  have p2' : 1 < (partsN (rowN (barL n rows)) n M 128 M).length ↔ ∃ P, JnE (eN (rowN rows)) M P := by
    rw [p2]; exact ⟨fun ⟨P, h⟩ => ⟨P, (jn_bar hg hM.1 P).1 h⟩, fun ⟨P, h⟩ => ⟨P, (jn_bar hg hM.1 P).2 h⟩⟩
  have k : kindX n rows (M : Int) = if cntS (M : Int) = 1 then 0 else if 1 < (partsN (rowN rows) n M 128 M).length then 1 else if 1 < (partsN (rowN (barL n rows)) n M 128 M).length then 2 else 3 := by
    unfold kindX
    rw [if_neg (not_not_intro hmod), parts_eq, parts_eq]
    have c1' : (1 < (((partsN (rowN rows) n M 128 M).length : Nat) : Int)) ↔ 1 < (partsN (rowN rows) n M 128 M).length := by omega
    have c2' : (1 < (((partsN (rowN (barL n rows)) n M 128 M).length : Nat) : Int)) ↔ 1 < (partsN (rowN (barL n rows)) n M 128 M).length := by omega
    simp only [c1', c2']
  by_cases a : cntS (M : Int) = 1
  · rw [if_pos a] at k
    rw [k]
    exact ⟨⟨fun _ => c1.1 a, fun _ => rfl⟩, fun h => by omega, fun h => by omega, fun h => by omega, by omega⟩
  rw [if_neg a] at k
  by_cases b : 1 < (partsN (rowN rows) n M 128 M).length
  · rw [if_pos b] at k
    rw [k]
    exact ⟨⟨fun h => by omega, fun h => absurd (c1.2 h) a⟩, fun _ => p1.1 b, fun h => by omega, fun h => by omega, by omega⟩
  rw [if_neg b] at k
  by_cases c : 1 < (partsN (rowN (barL n rows)) n M 128 M).length
  · rw [if_pos c] at k
    rw [k]
    exact ⟨⟨fun h => by omega, fun h => absurd (c1.2 h) a⟩, fun h => by omega, fun _ => p2'.1 c, fun h => by omega, by omega⟩
  · rw [if_neg c] at k
    rw [k]
    refine ⟨⟨fun h => by omega, fun h => absurd (c1.2 h) a⟩, fun h => by omega, fun h => by omega, fun _ => ?_, by omega⟩
    rintro ⟨P, hP | hP⟩
    · exact c (p2'.2 ⟨P, hP⟩)
    · exact b (p1.2 ⟨P, hP⟩)
end Go.Pw
/- What the law asks of the module tree. -/
namespace Go.Pw
open Go
theorem eN_symm {n : Nat} {rows : List Int} (hg : IsG n rows) (x y : Nat) : eN (rowN rows) x y = eN (rowN rows) y x := by
  have hr := ng_of hg rfl
  obtain ⟨m, hm, hrl, _, _⟩ := isG_size hg
  have out : ∀ a b, n ≤ a → eN (rowN rows) a b = eN (rowN rows) b a := fun a b ha => by
    unfold eN
    have h1 : rowN rows a = 0 := by
      unfold rowN
      rw [show rows.getD a 0 = 0 by simp [List.getD, List.getElem?_eq_none (show rows.length ≤ a by omega)]]; rfl
    rw [h1, Nat.zero_testBit]
    exact (Nat.testBit_lt_two_pow (Nat.lt_of_lt_of_le (hr.lt b) (Nat.pow_le_pow_right (by omega) ha))).symm
  by_cases hx : x < n
  · by_cases hy : y < n
    · exact hr.sym x y hx hy
    · exact (out y x (by omega)).symm
  · exact out x y (by omega)
theorem modE_co {n M : Nat} {E : Nat → Nat → Bool} : ModE n (coE E) M ↔ ModE n E M := by
  have hne : ∀ {x v : Nat}, M.testBit x = true → M.testBit v = false → v ≠ x := fun hx hv e => by rw [e, hx] at hv; cases hv
  constructor
  · intro h x y v hx hy hv hno
    have := h x y v hx hy hv hno
    unfold coE at this
    rw [decide_eq_true (hne hx hno), decide_eq_true (hne hy hno), Bool.and_true, Bool.and_true] at this
    exact Bool.not_inj this
  · intro h x y v hx hy hv hno
    unfold coE
    rw [decide_eq_true (hne hx hno), decide_eq_true (hne hy hno), h x y v hx hy hv hno]
theorem stN_co {n M : Nat} {E : Nat → Nat → Bool} : StN n (coE E) M ↔ StN n E M := by
  unfold StN StrE
  simp only [modE_co]
theorem MT.co {n N : Nat} {E : Nat → Nat → Bool} {m : Nat → Nat} {q : Nat → Int} (h : MT n E N m q) : MT n (coE E) N m q :=
  ⟨fun i hi => stN_co.2 (h.st i hi), fun M hM => h.all M (stN_co.1 hM), h.ord, h.par⟩
def sumT (T L : List Int) (k : Nat) : Int := ((L.take k).map fun x => T.getD x.toNat 0).sum
theorem sumT_succ {T L : List Int} {k : Nat} (h : k < L.length) : sumT T L (k + 1) = sumT T L k + T.getD (L.getD k 0).toNat 0 := by
  unfold sumT
  rw [List.take_succ_eq_append_getElem h, List.map_append, List.sum_append]
  simp [List.getD, h]
def leafT (K : List Int) (k : Nat) : Nat := ((List.range k).filter fun i => decide (K.getD i 0 = 0)).length
theorem leafT_succ (K : List Int) (k : Nat) : leafT K (k + 1) = if K.getD k 0 = 0 then leafT K k + 1 else leafT K k := by
  unfold leafT
  rw [List.range_succ, List.filter_append, List.length_append, List.filter_cons]
  by_cases h : K.getD k 0 = 0
  · rw [if_pos (decide_eq_true h), if_pos h]; rfl
  · rw [if_neg (by simpa using h), if_neg h]; rfl
theorem leafT_le (K : List Int) : ∀ k, leafT K k ≤ k := fun k => by
  unfold leafT
  exact Nat.le_trans (List.length_filter_le _ _) (by simp)
theorem one_two {k : Int} (h : 0 ≤ k ∧ k ≤ 3) (h0 : ¬ k = 0) (h3 : ¬ k = 3) : k = 1 ∨ k = 2 := by omega
structure MtF (n : Nat) (rows : List Int) : Prop where
  pos : 0 < (mtS n rows).length
  few : (mtS n rows).length + 1 ≤ 2 * n
  top : (mtS n rows).getD 0 0 = ishl 1 (n : Int) - 1
  at0 : ∀ i, i < (mtS n rows).length → 0 ≤ (mtS n rows).getD i 0 ∧ (mtS n rows).getD i 0 ≤ 127
  kid : ∀ i k, i < (mtS n rows).length → k < (childL (mtQ n rows) (i : Int)).length → 0 ≤ (childL (mtQ n rows) (i : Int)).getD k 0 ∧ (childL (mtQ n rows) (i : Int)).getD k 0 < (mtS n rows).length
  kids : ∀ i, i < (mtS n rows).length → (childL (mtQ n rows) (i : Int)).length ≤ 16
  sum : ∀ i, i < (mtS n rows).length → ¬ (mtK n rows).getD i 0 = 0 → sumT (mtS n rows) (childL (mtQ n rows) (i : Int)) (childL (mtQ n rows) (i : Int)).length = (mtS n rows).getD i 0 ∧ 2 ≤ (childL (mtQ n rows) (i : Int)).length ∧ ((mtK n rows).getD i 0 = 3 → 4 ≤ (childL (mtQ n rows) (i : Int)).length)
  par : ∀ i, i < (mtS n rows).length → 0 < i → 0 ≤ (mtQ n rows).getD i 0 ∧ (mtQ n rows).getD i 0 < (mtS n rows).length
  dif : ∀ i, i < (mtS n rows).length → 0 < i → ¬ (mtK n rows).getD i 0 = 3 → ¬ (mtK n rows).getD i 0 = 0 → ¬ (mtK n rows).getD i 0 = (mtK n rows).getD ((mtQ n rows).getD i 0).toNat 0
  leaf : leafT (mtK n rows) (mtS n rows).length = n
theorem mt_facts {n : Nat} {rows : List Int} (hg : IsG n rows) : MtF n rows := by
  have hM := mt_tree hg
  obtain ⟨n', hn', hrl, h1, h7⟩ := isG_size hg
  obtain rfl : n = n' := by omega
  have hp := pow_le7 h7
  obtain ⟨hl1, hl2, hl3⟩ := mt_lens n rows
  have hK : ∀ i, i < (mtS n rows).length → (mtK n rows).getD i 0 = kindX n rows (mN n rows i) := fun i hi => by
    rw [← (mts_at hg hi).1]
    unfold mtK
    simp [List.getD, hi]
  have hkind := fun i (hi : i < (mtS n rows).length) => kind_of hg (mts_at hg hi).2
  have hbig : ∀ i, i < (mtS n rows).length → ¬ (mtK n rows).getD i 0 = 0 → ∀ v, mN n rows i ≠ 2 ^ v := fun i hi h v he => by
    rw [hK i hi] at h
    exact h ((hkind i hi).1.2 ⟨v, has_lt (mts_at hg hi).2.1 (by rw [he, Nat.testBit_two_pow]; simp), he⟩)
  have hch : ∀ i : Nat, childL (mtQ n rows) (i : Int) = (kids (qN n rows) (mtS n rows).length i).map Int.ofNat := fun i => by
    unfold childL childU kids qN
    rw [hl3]
  have hkl : ∀ i k : Nat, k < (childL (mtQ n rows) (i : Int)).length → ∃ c : Nat, (childL (mtQ n rows) (i : Int)).getD k 0 = c ∧ c < (mtS n rows).length := fun i k hk => by
    have := getD_mem hk
    rw [hch] at this ⊢
    obtain ⟨c, hc, he⟩ := List.mem_map.1 this
    exact ⟨c, he.symm, (mem_kids.1 hc).1⟩
  have hsm := eN_symm hg
  refine ⟨(hM.root h7 h1).1, hM.few h7 h1, ?_, fun i hi => ?_, fun i k hi hk => ?_, fun i hi => ?_, fun i hi hk => ⟨?_, ?_, fun h3 => ?_⟩, fun i hi h0 => ?_, fun i hi h0 h3 hk => ?_, ?_⟩
  · rw [(mts_at hg (hM.root h7 h1).1).1, (hM.root h7 h1).2, ishl_one_nat (by omega)]
    have : 0 < 2 ^ n := Nat.two_pow_pos n
    omega
  · rw [(mts_at hg hi).1]; have := (mts_at hg hi).2.1; omega
  · obtain ⟨c, h2, h3⟩ := hkl i k hk; omega
  · rw [hch, List.length_map]
    have := List.length_filter_le (fun k => decide (qN n rows k = (i : Int))) (List.range (mtS n rows).length)
    rw [List.length_range] at this
    unfold kids; omega
  · have hs := hM.sum h7 hi (hbig i hi hk)
    rw [(mts_at hg hi).1, ← hs, hch]
    unfold sumT
    rw [List.take_length, List.map_map]
    have hall : ∀ c ∈ kids (qN n rows) (mtS n rows).length i, c < (mtS n rows).length := fun c hc => (mem_kids.1 hc).1
    generalize kids (qN n rows) (mtS n rows).length i = C at hall
    induction C with
    | nil => rfl
    | cons c r ih =>
      rw [List.map_cons, List.sum_cons, List.map_cons, List.sum_cons, ih fun x hx => hall x (List.mem_cons_of_mem _ hx)]
      have : ((fun x : Int => (mtS n rows).getD x.toNat 0) ∘ Int.ofNat) c = (mN n rows c : Int) := (mts_at hg (hall c (List.mem_cons_self ..))).1
      rw [this]; omega
  · rw [hch, List.length_map]; exact hM.two h7 hi (hbig i hi hk)
  · rw [hch, List.length_map]
    rw [hK i hi] at h3
    exact hM.four h7 hsm hi (hbig i hi hk) ((hkind i hi).2.2.2.1 h3)
  · obtain ⟨j, hj, hji, _⟩ := hM.parent h7 h1 hi h0
    unfold qN at hj
    omega
  · obtain ⟨j, hj, hji, _⟩ := hM.parent h7 h1 hi h0
    have hjN : j < (mtS n rows).length := by omega
    have hj' : (mtQ n rows).getD i 0 = (j : Int) := hj
    rw [hj', Int.toNat_natCast, hK i hi, hK j hjN]
    rw [hK i hi] at h3 hk
    obtain ⟨_, b1, b2, _, b5⟩ := hkind i hi
    obtain ⟨_, c1, c2, _, c5⟩ := hkind j hjN
    intro he
    rcases one_two b5 hk h3 with e | e
    · exact hM.co.kinds h7 (coE_sym hsm) hi hj (b1 e) (c1 (by rw [← he]; exact e))
    · exact hM.kinds h7 hsm hi hj (b2 e) (c2 (by rw [← he]; exact e))
  · have hlv := hM.leaves
    unfold leafT
    refine Eq.trans (congrArg List.length (List.filter_congr fun i hi => ?_)) hlv
    have hi := List.mem_range.1 hi
    rw [hK i hi, Bool.eq_iff_iff, decide_eq_true_eq, (hkind i hi).1, List.any_eq_true]
    constructor
    · rintro ⟨v, hv, he⟩; exact ⟨v, List.mem_range.2 hv, decide_eq_true he⟩
    · rintro ⟨v, hv, he⟩; exact ⟨v, List.mem_range.1 hv, of_decide_eq_true he⟩
theorem sumT_bound {T L : List Int} (h : ∀ i, i < T.length → 0 ≤ T.getD i 0 ∧ T.getD i 0 ≤ 127) (hL : ∀ k, k < L.length → 0 ≤ L.getD k 0 ∧ L.getD k 0 < T.length) : ∀ k, k ≤ L.length → 0 ≤ sumT T L k ∧ sumT T L k ≤ 127 * k
  | 0, _ => by simp [sumT]
  | k + 1, hk => by
    have ih := sumT_bound h hL k (by omega)
    have h2 := hL k (by omega)
    have h3 := h (L.getD k 0).toNat (by omega)
    rw [sumT_succ (by omega)]
    omega
end Go.Pw
