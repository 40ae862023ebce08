/- The plain mathematics of least modules: the closure of a set is the least module that holds it. -/
import Derived.Test.YtoejpckfeflkaaaGreatDoorPwPlc
namespace Go.Pw
open Go

def cntN (S : Nat) : Nat := ((List.range 7).filter fun v => S.testBit v).length
theorem listS_nat {S : Nat} (h : S < 128) : listS (S : Int) = ((List.range 7).filter fun v => S.testBit v).map Int.ofNat := by
  unfold listS
  rw [if_pos (by omega)]
  congr 1
  apply List.filter_congr
  intro v hv
  rw [hasB_nat (by omega) (by have := List.mem_range.1 hv; omega)]
theorem cntS_nat {S : Nat} (h : S < 128) : cntS (S : Int) = (cntN S : Nat) := by unfold cntS cntN; rw [listS_nat h, List.length_map]
theorem filter_le {α : Type} (p q : α → Bool) : ∀ l : List α, (∀ x ∈ l, p x = true → q x = true) → (l.filter p).length ≤ (l.filter q).length
  | [], _ => Nat.le_refl _
  | x :: l, h => by
    have ih := filter_le p q l fun y hy => h y (List.mem_cons_of_mem _ hy)
    cases hp : p x with
    | true => rw [List.filter_cons_of_pos hp, List.filter_cons_of_pos (h x (List.mem_cons_self ..) hp)]; simp; exact ih
    | false =>
      rw [List.filter_cons_of_neg (by rw [hp]; exact Bool.false_ne_true)]
      cases hq : q x with
      | true => rw [List.filter_cons_of_pos hq]; simp; omega
      | false => rw [List.filter_cons_of_neg (by rw [hq]; exact Bool.false_ne_true)]; exact ih
theorem filter_lt {α : Type} (p q : α → Bool) : ∀ l : List α, (∀ x ∈ l, p x = true → q x = true) → (∃ x ∈ l, q x = true ∧ p x = false) → (l.filter p).length < (l.filter q).length
  | [], _, h => by obtain ⟨x, hx, _⟩ := h; cases hx
  | x :: l, h, he => by
    have hl : ∀ y ∈ l, p y = true → q y = true := fun y hy => h y (List.mem_cons_of_mem _ hy)
    have hle := filter_le p q l hl
    by_cases hx : q x = true ∧ p x = false
    · rw [List.filter_cons_of_neg (by rw [hx.2]; exact Bool.false_ne_true), List.filter_cons_of_pos hx.1]; simp; omega
    · have ih := filter_lt p q l hl (by
        obtain ⟨y, hy, h1⟩ := he
        rcases List.mem_cons.1 hy with rfl | hy
        · exact absurd h1 hx
        · exact ⟨y, hy, h1⟩)
      cases hp : p x with
      | true => rw [List.filter_cons_of_pos hp, List.filter_cons_of_pos (h x (List.mem_cons_self ..) hp)]; simp; exact ih
      | false =>
        rw [List.filter_cons_of_neg (by rw [hp]; exact Bool.false_ne_true)]
        cases hq : q x with
        | true => exact absurd ⟨hq, hp⟩ hx
        | false => rw [List.filter_cons_of_neg (by rw [hq]; exact Bool.false_ne_true)]; exact ih
theorem cnt_pos : ∀ S : Fin 128, (0 < cntN S.val ↔ S.val ≠ 0) := by decide +kernel
theorem cnt_and (R S : Fin 128) : (0 < cntN (R.val &&& S.val) ↔ R.val &&& S.val ≠ 0) ∧ (cntN (R.val &&& S.val) < cntN S.val ↔ R.val &&& S.val ≠ S.val) := by
  refine ⟨cnt_pos ⟨R.val &&& S.val, Nat.lt_of_le_of_lt Nat.and_le_right S.isLt⟩, fun h e => by rw [e] at h; omega, fun h => ?_⟩
  unfold cntN
  refine filter_lt _ _ _ (fun x _ hx => by rw [Nat.testBit_and, Bool.and_eq_true] at hx; exact hx.2) ?_
  have : ∃ i, (R.val &&& S.val).testBit i ≠ S.val.testBit i := Classical.not_forall.1 (mt (fun hh => Nat.eq_of_testBit_eq hh) h)
  obtain ⟨i, hi⟩ := this
  rw [Nat.testBit_and] at hi
  refine ⟨i, List.mem_range.2 ?_, ?_⟩
  · cases hs : S.val.testBit i with
    | true => exact has_lt (n := 7) (by have := S.isLt; omega) hs
    | false => rw [hs] at hi; simp at hi
  · rw [Nat.testBit_and]
    cases hr : R.val.testBit i <;> cases hs : S.val.testBit i <;> rw [hr, hs] at hi <;> first | exact absurd rfl hi | exact ⟨rfl, rfl⟩
theorem cnt_le : ∀ n : Fin 8, ∀ S : Fin 128, S.val < 2 ^ n.val → cntN S.val ≤ n.val := by decide +kernel
def SubN (A B : Nat) : Prop := ∀ i, A.testBit i = true → B.testBit i = true
theorem SubN.refl (A : Nat) : SubN A A := fun _ h => h
theorem SubN.trans {A B D : Nat} (h : SubN A B) (h' : SubN B D) : SubN A D := fun i hi => h' i (h i hi)
theorem subN_and {A B : Nat} : SubN A B ↔ A &&& B = A := by
  constructor
  · intro h
    apply Nat.eq_of_testBit_eq
    intro i
    rw [Nat.testBit_and]
    cases ha : A.testBit i with
    | false => rfl
    | true => rw [h i ha]; rfl
  · intro h i hi
    rw [← h, Nat.testBit_and, Bool.and_eq_true] at hi
    exact hi.2
theorem SubN.antisymm {A B : Nat} (h : SubN A B) (h' : SubN B A) : A = B := by
  apply Nat.eq_of_testBit_eq
  intro i
  cases ha : A.testBit i <;> cases hb : B.testBit i <;> first | rfl | (have := h i ha; rw [hb] at this; cases this) | (have := h' i hb; rw [ha] at this; cases this)
theorem cnt_lt {A B : Nat} (hB : B < 128) (h : SubN A B) (hne : A ≠ B) : cntN A < cntN B := by
  have hA : A < 128 := by
    have := subN_and.1 h
    have h2 : A &&& B ≤ B := Nat.and_le_right
    omega
  have := (cnt_and ⟨A, hA⟩ ⟨B, hB⟩).2
  dsimp only at this
  rw [subN_and.1 h] at this
  exact this.2 hne

/-- A graph of n vertices as natural numbers. -/
structure NG (n : Nat) (r : Nat → Nat) : Prop where
  le : n ≤ 7
  lt : ∀ v, r v < 2 ^ n
  sym : ∀ u v, u < n → v < n → (r u).testBit v = (r v).testBit u
  irr : ∀ v, v < n → (r v).testBit v = false
def rowN (rows : List Int) (v : Nat) : Nat := (rows.getD v 0).toNat
theorem rowN_eq {size : Int} {rows : List Int} (hg : IsG size rows) (v : Nat) : rows.getD v 0 = (rowN rows v : Nat) := by
  obtain ⟨n, hn, _, _, _⟩ := isG_size hg
  obtain ⟨R, h1, _, _⟩ := row_nat hg hn v
  unfold rowN
  rw [h1]; rfl
theorem ng_of {size : Int} {rows : List Int} {n : Nat} (hg : IsG size rows) (hn : size = n) : NG n (rowN rows) := by
  obtain ⟨m, hm, hl, _, hm7⟩ := isG_size hg
  obtain rfl : m = n := by omega
  have hlt : ∀ v, rowN rows v < 2 ^ m := fun v => by
    obtain ⟨R, h1, h2, _⟩ := row_nat hg hn v
    unfold rowN
    rw [h1]; exact h2
  have h7 := pow_le7 hm7
  have hbit : ∀ v u : Nat, u < m → hasB (rows.getD v 0) (u : Int) = (rowN rows v).testBit u := fun v u hu => by
    rw [rowN_eq hg v, hasB_nat (by have := hlt v; omega) (by omega)]
  refine ⟨hm7, hlt, fun u v hu hv => ?_, fun v hv => ?_⟩
  · rw [← hbit u v hv, ← hbit v u hu]
    rcases Nat.lt_trichotomy u v with h | rfl | h
    · exact (hg.2.2.2 v (by omega) u h).symm
    · rfl
    · exact hg.2.2.2 u (by omega) v h
  · rw [← hbit v v hv]
    exact (hg.2.2.1 v (by omega)).2

def ModN (n : Nat) (r : Nat → Nat) (M : Nat) : Prop := M ≠ 0 ∧ ∀ x y, M.testBit x = true → M.testBit y = true → ∀ v, v < n → M.testBit v = false → (r x).testBit v = (r y).testBit v
theorem and_ne_zero {A B : Nat} (h : A &&& B ≠ 0) : ∃ x, A.testBit x = true ∧ B.testBit x = true := by
  obtain ⟨i, hi⟩ := Nat.exists_testBit_of_ne_zero h
  rw [Nat.testBit_and, Bool.and_eq_true] at hi
  exact ⟨i, hi⟩
theorem and_ne_right {A B : Nat} (h : A &&& B ≠ B) : ∃ x, B.testBit x = true ∧ A.testBit x = false := by
  have : ∃ i, (A &&& B).testBit i ≠ B.testBit i := by
    have := mt (fun hh => Nat.eq_of_testBit_eq hh) h
    exact Classical.not_forall.1 this
  obtain ⟨i, hi⟩ := this
  rw [Nat.testBit_and] at hi
  cases ha : A.testBit i <;> cases hb : B.testBit i <;> rw [ha, hb] at hi <;> first | exact absurd rfl hi | exact ⟨i, hb, ha⟩

def stepN (r : Nat → Nat) (S v : Nat) : Nat := if S.testBit v = false ∧ r v &&& S ≠ 0 ∧ r v &&& S ≠ S then S ||| 2 ^ v else S
def roundN (r : Nat → Nat) (S : Nat) : Nat → Nat
  | 0 => S
  | k + 1 => stepN r (roundN r S k) k
def lmN (r : Nat → Nat) (n S : Nat) : Nat → Nat
  | 0 => S
  | t + 1 => roundN r (lmN r n S t) n

section
variable {n : Nat} {r : Nat → Nat}
theorem stepN_up (S v : Nat) : SubN S (stepN r S v) := by
  unfold stepN
  split
  · intro i hi; rw [Nat.testBit_or, hi]; rfl
  · exact SubN.refl S
theorem stepN_lt {S v : Nat} (hS : S < 2 ^ n) (hv : v < n) : stepN r S v < 2 ^ n := by
  unfold stepN
  split
  · exact Nat.or_lt_two_pow hS (Nat.pow_lt_pow_right (by omega) hv)
  · exact hS
theorem stepN_in {S M v : Nat} (hg : NG n r) (hM : ModN n r M) (hMn : M < 2 ^ n) (h : SubN S M) (hv : v < n) : SubN (stepN r S v) M := by
  unfold stepN
  split
  · next hc =>
    have hvM : M.testBit v = true := by
      cases hm : M.testBit v with
      | true => rfl
      | false =>
        exfalso
        obtain ⟨x, hx1, hx2⟩ := and_ne_zero hc.2.1
        obtain ⟨y, hy1, hy2⟩ := and_ne_right hc.2.2
        have hxM := h x hx2
        have hyM := h y hy1
        have hxn := has_lt hMn hxM
        have hyn := has_lt hMn hyM
        have := hM.2 x y hxM hyM v hv hm
        rw [hg.sym x v hxn hv, hg.sym y v hyn hv, hx1, hy2] at this
        cases this
    intro i hi
    rw [Nat.testBit_or, Bool.or_eq_true, Nat.testBit_two_pow] at hi
    rcases hi with hi | hi
    · exact h i hi
    · have : v = i := by simpa using hi
      rw [← this]; exact hvM
  · exact h
theorem roundN_up (S : Nat) : ∀ k, SubN S (roundN r S k)
  | 0 => SubN.refl S
  | k + 1 => (roundN_up S k).trans (stepN_up _ _)
theorem roundN_lt {S : Nat} (hS : S < 2 ^ n) : ∀ k, k ≤ n → roundN r S k < 2 ^ n
  | 0, _ => hS
  | k + 1, hk => stepN_lt (roundN_lt hS k (by omega)) (by omega)
theorem roundN_in {S M : Nat} (hg : NG n r) (hM : ModN n r M) (hMn : M < 2 ^ n) (h : SubN S M) : ∀ k, k ≤ n → SubN (roundN r S k) M
  | 0, _ => h
  | k + 1, hk => stepN_in hg hM hMn (roundN_in hg hM hMn h k (by omega)) (by omega)
theorem roundN_mono {S : Nat} : ∀ {k m}, k ≤ m → SubN (roundN r S k) (roundN r S m)
  | k, 0, h => by obtain rfl : k = 0 := by omega
                  exact SubN.refl _
  | k, m + 1, h => by
    by_cases hk : k = m + 1
    · subst hk; exact SubN.refl _
    · exact (roundN_mono (by omega)).trans (stepN_up _ _)
theorem round_fixed {S : Nat} (h : roundN r S n = S) : ∀ v, v < n → stepN r S v = S := by
  have hk : ∀ k, k ≤ n → roundN r S k = S := fun k hk => SubN.antisymm (by have := roundN_mono (r := r) (S := S) hk; rwa [h] at this) (roundN_up S k)
  intro v hv
  have := hk (v + 1) (by omega)
  unfold roundN at this
  rwa [hk v (by omega)] at this
theorem fixed_mod {S : Nat} (hg : NG n r) (hS0 : S ≠ 0) (hS : S < 2 ^ n) (h : ∀ v, v < n → stepN r S v = S) : ModN n r S := by
  refine ⟨hS0, fun x y hx hy v hv hvS => ?_⟩
  have hxn := has_lt hS hx
  have hyn := has_lt hS hy
  rw [hg.sym x v hxn hv, hg.sym y v hyn hv]
  have hst := h v hv
  unfold stepN at hst
  by_cases h1 : r v &&& S = 0
  · have key : ∀ z, S.testBit z = true → (r v).testBit z = false := fun z hz => by
      have : (r v &&& S).testBit z = false := by rw [h1]; exact Nat.zero_testBit z
      rw [Nat.testBit_and, hz, Bool.and_true] at this
      exact this
    rw [key x hx, key y hy]
  · by_cases h2 : r v &&& S = S
    · have key : ∀ z, S.testBit z = true → (r v).testBit z = true := fun z hz => by
        rw [← h2, Nat.testBit_and, Bool.and_eq_true] at hz
        exact hz.1
      rw [key x hx, key y hy]
    · exfalso
      rw [if_pos ⟨hvS, h1, h2⟩] at hst
      have : (S ||| 2 ^ v).testBit v = true := by rw [Nat.testBit_or, Nat.testBit_two_pow]; simp
      rw [hst, hvS] at this
      cases this
theorem lmN_up (S : Nat) : ∀ t, SubN S (lmN r n S t)
  | 0 => SubN.refl S
  | t + 1 => (lmN_up S t).trans (roundN_up _ n)
theorem lmN_lt {S : Nat} (hS : S < 2 ^ n) : ∀ t, lmN r n S t < 2 ^ n
  | 0 => hS
  | t + 1 => roundN_lt (lmN_lt hS t) n (Nat.le_refl _)
theorem lmN_in {S M : Nat} (hg : NG n r) (hM : ModN n r M) (hMn : M < 2 ^ n) (h : SubN S M) : ∀ t, SubN (lmN r n S t) M
  | 0 => h
  | t + 1 => roundN_in hg hM hMn (lmN_in hg hM hMn h t) n (Nat.le_refl _)
theorem ne_zero_of_sub {A B : Nat} (h : SubN A B) (hA : A ≠ 0) : B ≠ 0 := by
  obtain ⟨i, hi⟩ := Nat.exists_testBit_of_ne_zero hA
  intro e
  have := h i hi
  rw [e, Nat.zero_testBit] at this
  cases this
theorem lmN_grows {S : Nat} (hg : NG n r) (hS0 : S ≠ 0) (hS : S < 2 ^ n) : ∀ t, roundN r (lmN r n S t) n = lmN r n S t ∨ t + 1 ≤ cntN (lmN r n S t)
  | 0 => by
    right
    have h7 := pow_le7 hg.le
    have := (cnt_and ⟨S, by omega⟩ ⟨S, by omega⟩).1
    dsimp only at this
    rw [Nat.and_self] at this
    exact this.2 hS0
  | t + 1 => by
    rcases lmN_grows hg hS0 hS t with h | h
    · left
      have e : lmN r n S (t + 1) = lmN r n S t := h
      rw [e, h]
    · by_cases h2 : roundN r (lmN r n S (t + 1)) n = lmN r n S (t + 1)
      · exact .inl h2
      · right
        by_cases h3 : lmN r n S (t + 1) = lmN r n S t
        · exfalso
          apply h2
          rw [h3]; exact h3
        · have h7 := pow_le7 hg.le
          have := cnt_lt (A := lmN r n S t) (B := lmN r n S (t + 1)) (by have := lmN_lt (r := r) hS (t + 1); omega) (roundN_up _ n) (fun e => h3 e.symm)
          omega
/-- The closure is a module. -/
theorem lmN_mod {S : Nat} (hg : NG n r) (hS0 : S ≠ 0) (hS : S < 2 ^ n) : ModN n r (lmN r n S n) := by
  have h7 := pow_le7 hg.le
  have hlt := lmN_lt (r := r) hS n
  refine fixed_mod hg (ne_zero_of_sub (lmN_up S n) hS0) hlt (round_fixed ?_)
  rcases lmN_grows hg hS0 hS n with h | h
  · exact h
  · have := cnt_le ⟨n, by have := hg.le; omega⟩ ⟨lmN r n S n, by omega⟩ hlt
    dsimp only at this
    omega
end

theorem modQ_iff {size : Int} {rows : List Int} {n : Nat} (hg : IsG size rows) (hn : size = n) {M : Nat} (hM : M < 2 ^ n) : modQ rows (M : Int) ↔ ModN n (rowN rows) M := by
  have hng := ng_of hg hn
  have h7 := pow_le7 hng.le
  have hrow : ∀ v : Nat, iandnot (rows.getD v 0) (M : Int) = ((rowN rows v ^^^ (rowN rows v &&& M) : Nat) : Int) := fun v => by
    rw [rowN_eq hg v, iandnot_nat (by have := hng.lt v; omega)]
  have hbit : ∀ v u : Nat, (rowN rows v ^^^ (rowN rows v &&& M)).testBit u = ((rowN rows v).testBit u && !M.testBit u) := fun v u => by
    rw [Nat.testBit_xor, Nat.testBit_and]; cases (rowN rows v).testBit u <;> cases M.testBit u <;> rfl
  have hmem : ∀ x : Nat, x < 7 → ((x : Int) ∈ listS (M : Int) ↔ M.testBit x = true) := fun x hx => by
    rw [listS_nat (by omega)]
    simp only [List.mem_map, List.mem_filter, List.mem_range]
    constructor
    · rintro ⟨a, ⟨_, h⟩, e⟩
      have : a = x := Int.ofNat.inj e
      rw [← this]; exact h
    · intro h; exact ⟨x, ⟨hx, h⟩, rfl⟩
  constructor
  · rintro ⟨h0, h⟩
    refine ⟨fun e => h0 (by rw [e]; rfl), fun x y hx hy v hv hvM => ?_⟩
    have hxn := has_lt hM hx
    have hyn := has_lt hM hy
    have hle := hng.le
    have e1 := h x ((hmem x (by omega)).2 hx)
    have e2 := h y ((hmem y (by omega)).2 hy)
    rw [← e2, Int.toNat_natCast, Int.toNat_natCast, hrow, hrow] at e1
    have e3 := Int.ofNat.inj e1
    have e4 := congrArg (fun z => Nat.testBit z v) e3
    rw [hbit, hbit, hvM] at e4
    simpa using e4
  · rintro ⟨h0, h⟩
    refine ⟨fun e => h0 (Int.ofNat.inj e), fun x hx => ?_⟩
    have hlen : 0 < (listS (M : Int)).length := by cases hl : listS (M : Int) with
      | nil => rw [hl] at hx; cases hx
      | cons a b => simp
    have hy := getD_mem (l := listS (M : Int)) (k := 0) hlen
    obtain ⟨_, a, rfl, ha7, _⟩ := mem_listS.1 hx
    obtain ⟨_, b, hb, hb7, _⟩ := mem_listS.1 hy
    rw [hb] at hy ⊢
    have ha' := (hmem a ha7).1 hx
    have hb' := (hmem b hb7).1 hy
    rw [Int.toNat_natCast, Int.toNat_natCast, hrow, hrow]
    congr 1
    apply Nat.eq_of_testBit_eq
    intro v
    rw [hbit, hbit]
    cases hv : M.testBit v with
    | true => simp
    | false =>
      by_cases hvn : v < n
      · rw [h a b ha' hb' v hvn hv]
      · have key : ∀ z, (rowN rows z).testBit v = false := fun z => by
          cases hz : (rowN rows z).testBit v with
          | false => rfl
          | true => exact absurd (has_lt (hng.lt z) hz) hvn
        rw [key a, key b]

/-- All modules that hold a set, met. -/
def meetF (s : Int) (l : List Int) (b : Int) : Int := l.foldl (fun b m => if iandnot s m = 0 then iand b m else b) b
theorem meetF_snoc (s : Int) (l : List Int) (x b : Int) : meetF s (l ++ [x]) b = if iandnot s x = 0 then iand (meetF s l b) x else meetF s l b := by simp [meetF]
theorem andnot_zero {A B : Nat} (hA : A < 128) : iandnot (A : Int) (B : Int) = 0 ↔ SubN A B := by
  rw [iandnot_nat (by omega)]
  have e : (((A ^^^ (A &&& B) : Nat) : Int) = 0) ↔ A ^^^ (A &&& B) = 0 := by omega
  rw [e, subN_and]
  constructor
  · intro h
    apply Nat.eq_of_testBit_eq
    intro i
    have h1 : (A ^^^ (A &&& B)).testBit i = false := by rw [h]; exact Nat.zero_testBit i
    rw [Nat.testBit_xor] at h1
    cases ha : A.testBit i <;> cases hb : (A &&& B).testBit i <;> rw [ha, hb] at h1 <;> first | rfl | cases h1
  · intro h; rw [h, Nat.xor_self]
theorem meetF_nat {S D b : Nat} (hS : S < 128) (hb : b < 128) (hD : SubN D b) : ∀ l : List Int, (∀ x ∈ l, ∃ M : Nat, x = M ∧ M < 128 ∧ (SubN S M → SubN D M)) →
    ∃ R : Nat, meetF (S : Int) l (b : Int) = R ∧ R < 128 ∧ SubN D R ∧ ((D : Int) ∈ l → SubN S D → SubN R D) := by
  intro l
  generalize hr : l.reverse = q
  induction q generalizing l with
  | nil => intro _; obtain rfl : l = [] := by simpa using hr
           exact ⟨b, rfl, hb, hD, fun h => by cases h⟩
  | cons x q ih =>
    intro hl
    have hl' : l = q.reverse ++ [x] := by rw [← List.reverse_reverse l, hr]; simp
    subst hl'
    obtain ⟨R, h1, h2, h3, h4⟩ := ih q.reverse (by simp) (fun y hy => hl y (List.mem_append_left _ hy))
    obtain ⟨M, rfl, hM, hM2⟩ := hl x (List.mem_append_right _ (List.mem_singleton_self x))
    rw [meetF_snoc, h1]
    by_cases hs : SubN S M
    · rw [if_pos ((andnot_zero hS).2 hs), iand_nat (by omega) (by omega)]
      refine ⟨R &&& M, rfl, Nat.lt_of_le_of_lt Nat.and_le_left h2, fun i hi => by rw [Nat.testBit_and, h3 i hi, hM2 hs i hi]; rfl, fun hm hsd i hi => ?_⟩
      rw [Nat.testBit_and, Bool.and_eq_true] at hi
      rcases List.mem_append.1 hm with hm | hm
      · exact h4 hm hsd i hi.1
      · have : D = M := Int.ofNat.inj (List.mem_singleton.1 hm)
        rw [this]; exact hi.2
    · rw [if_neg (fun h => hs ((andnot_zero hS).1 h))]
      refine ⟨R, rfl, h2, h3, fun hm hsd => ?_⟩
      rcases List.mem_append.1 hm with hm | hm
      · exact h4 hm hsd
      · exfalso
        have : D = M := Int.ofNat.inj (List.mem_singleton.1 hm)
        exact hs (by rw [← this]; exact hsd)
theorem mem_modsL {size : Int} {rows : List Int} {n : Nat} (hg : IsG size rows) (hn : size = n) {x : Int} : x ∈ modsL size rows ↔ ∃ M : Nat, x = M ∧ M < 2 ^ n ∧ ModN n (rowN rows) M := by
  have hng := ng_of hg hn
  have hp : (ishl 1 size).toNat = 2 ^ n := by rw [hn, ishl_one_nat (by have := hng.le; omega)]; rfl
  unfold modsL
  rw [if_pos hg, hp]
  unfold modsU
  simp only [List.mem_map, List.mem_filter, List.mem_range, decide_eq_true_eq]
  constructor
  · rintro ⟨M, ⟨h1, h2⟩, rfl⟩
    exact ⟨M, rfl, h1, (modQ_iff hg hn h1).1 h2⟩
  · rintro ⟨M, rfl, h1, h2⟩
    exact ⟨M, ⟨h1, (modQ_iff hg hn h1).2 h2⟩, rfl⟩
def leastM (size : Int) (rows : List Int) (s : Int) : Int := if (IsG size rows ∧ 0 ≤ s ∧ s < ishl 1 size) ∧ ¬ s = 0 then (lmN (rowN rows) size.toNat s.toNat size.toNat : Nat) else 0
theorem meet_least {size : Int} {rows : List Int} {s : Int} (hg : IsG size rows) (hs : 0 ≤ s ∧ s < ishl 1 size) (h0 : ¬ s = 0) : meetF s (modsL size rows) (ishl 1 size - 1) = leastM size rows s := by
  obtain ⟨n, hn, hl, hn1, hn7⟩ := isG_size hg
  obtain ⟨S, rfl, hS, hS'⟩ := set_nat hn hn7 hs
  have hng := ng_of hg hn
  have hp7 := pow_le7 hn7
  have hS0 : S ≠ 0 := fun e => h0 (by rw [e]; rfl)
  have hmod := lmN_mod hng hS0 hS
  have hlt := lmN_lt (r := rowN rows) hS n
  have hall : SubN (lmN (rowN rows) n S n) (2 ^ n - 1) := fun i hi => by
    rw [Nat.testBit_two_pow_sub_one]; exact decide_eq_true (has_lt hlt hi)
  have hpow : 0 < 2 ^ n := Nat.pow_pos (by omega)
  have e1 : ishl 1 size - 1 = ((2 ^ n - 1 : Nat) : Int) := by rw [hn, ishl_one_nat (by omega)]; omega
  obtain ⟨R, h1, h2, h3, h4⟩ := meetF_nat (S := S) (D := lmN (rowN rows) n S n) (b := 2 ^ n - 1) hS' (by omega) hall (modsL size rows) (fun x hx => by
    obtain ⟨M, rfl, hM, hM2⟩ := (mem_modsL hg hn).1 hx
    exact ⟨M, rfl, by omega, fun hsub => lmN_in hng hM2 hM hsub n⟩)
  rw [e1, h1, leastM, if_pos ⟨⟨hg, hs⟩, h0⟩, hn]
  simp only [Int.toNat_natCast]
  congr 1
  exact SubN.antisymm (h4 ((mem_modsL hg hn).2 ⟨_, rfl, hlt, hmod⟩) (lmN_up S n)) h3
theorem step_iff {R S v : Nat} (hR : R < 128) (hS : S < 128) (hv : v ≤ 63) : (iand (ishr (S : Int) v) 1 = 0 ∧ 0 < cntS (iand (R : Int) S) ∧ cntS (iand (R : Int) S) < ((listS (S : Int)).length : Int)) ↔ (S.testBit v = false ∧ R &&& S ≠ 0 ∧ R &&& S ≠ S) := by
  have h1 : R &&& S < 128 := Nat.lt_of_le_of_lt Nat.and_le_left hR
  rw [iand_nat (a := R) (by omega) (by omega), cntS_nat h1, ← hasB_iff0, hasB_nat (by omega) hv]
  have h2 := cnt_and ⟨R, hR⟩ ⟨S, hS⟩
  dsimp only at h2
  have h3 : ((listS (S : Int)).length : Int) = (cntN S : Nat) := cntS_nat hS
  rw [h3]
  have e1 : (0 < ((cntN (R &&& S) : Nat) : Int)) ↔ 0 < cntN (R &&& S) := by omega
  have e2 : (((cntN (R &&& S) : Nat) : Int) < ((cntN S : Nat) : Int)) ↔ cntN (R &&& S) < cntN S := by omega
  rw [e1, e2, h2.1, h2.2]
end Go.Pw
