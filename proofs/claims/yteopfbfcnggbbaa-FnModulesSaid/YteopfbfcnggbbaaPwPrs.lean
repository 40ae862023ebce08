/- The readers of a cograph's tree, as functions: the reference's. -/
import Derived.Test.YteopfbfcnggbbaaPwPrd
import Derived.Test.YteopfbfcnggbbaaPwPqg
namespace Go.Pw
open Go Go.RowKit
abbrev Rel := Nat → Nat → Bool
def SymP (P : Rel) : Prop := ∀ x y, P x y = P y x
def IrrP (P : Rel) : Prop := ∀ x, P x x = false
def crS (set part x y : Nat) : Bool := set.testBit x && part.testBit y
def joinW (sign set part : Nat) (P : Rel) : Rel := fun x y => P x y || (decide (sign = 42) && (crS set part x y || crS set part y x))
theorem joinW_no {sign : Nat} (h : sign ≠ 42) (set part : Nat) (P : Rel) : joinW sign set part P = P := by
  funext x y; unfold joinW; rw [decide_eq_false h]; simp
def loopS (s : ByteArray) (g : Nat → Rel → Option (Rel × Nat × Nat)) (sign : Nat) : Nat → Nat → Rel → Nat → Option (Rel × Nat × Nat)
  | 0, _, _, _ => none
  | k + 1, i, P, set => if i < s.size ∧ byteAt s i = 32 then
      match g (i + 1) P with
      | none => none
      | some (P', part, next) => if part &&& set = 0 then loopS s g sign k next (joinW sign set part P') (set ||| part) else none
      else if i < s.size ∧ byteAt s i = 41 then some (P, set, i + 1) else none
def rdS (s : ByteArray) : Nat → Nat → Rel → Option (Rel × Nat × Nat)
  | 0, _, _ => none
  | f + 1, i, P => if s.size ≤ i then none
      else if 48 ≤ byteAt s i ∧ byteAt s i ≤ 54 then some (P, 2 ^ (byteAt s i - 48), i + 1)
      else if byteAt s i = 40 ∧ i + 1 < s.size ∧ (byteAt s (i + 1) = 43 ∨ byteAt s (i + 1) = 42) then loopS s (rdS s f) (byteAt s (i + 1)) (s.size + 1) (i + 2) P 0
      else none
theorem and_bit {a b : Nat} (h : a &&& b = 0) (x : Nat) : (a.testBit x && b.testBit x) = false := by
  have := congrArg (fun z => z.testBit x) h
  simpa [Nat.testBit_and] using this
theorem joinW_sym {sign set part : Nat} {P : Rel} (h : SymP P) : SymP (joinW sign set part P) := fun x y => by
  unfold joinW; rw [h x y, Bool.or_comm (crS set part x y)]
theorem joinW_irr {sign set part : Nat} {P : Rel} (h : IrrP P) (hd : part &&& set = 0) : IrrP (joinW sign set part P) := fun x => by
  have := and_bit hd x
  unfold joinW crS
  rw [h x, Bool.and_comm (set.testBit x), this]; simp
def OkR (s : ByteArray) (g : Nat → Rel → Option (Rel × Nat × Nat)) : Prop := ∀ i P r, SymP P → IrrP P → g i P = some r → SymP r.1 ∧ IrrP r.1 ∧ r.2.1 < 128 ∧ i < r.2.2 ∧ r.2.2 ≤ s.size
theorem loopS_ok {s : ByteArray} {g : Nat → Rel → Option (Rel × Nat × Nat)} (hg : OkR s g) (sign : Nat) : ∀ k i P set r, SymP P → IrrP P → set < 128 → loopS s g sign k i P set = some r → SymP r.1 ∧ IrrP r.1 ∧ r.2.1 < 128 ∧ i < r.2.2 ∧ r.2.2 ≤ s.size := by
  intro k
  induction k with
  | zero => intro i P set r _ _ _ h; cases h
  | succ k ih =>
    intro i P set r h1 h2 h3 h
    unfold loopS at h
    split at h
    · split at h
      · cases h
      · rename_i P' part next he
        obtain ⟨g1, g2, g3, g4, g5⟩ := hg _ _ _ h1 h2 he
        dsimp only at g1 g2 g3 g4 g5
        split at h
        · rename_i hd
          obtain ⟨a1, a2, a3, a4, a5⟩ := ih next _ _ r (joinW_sym g1) (joinW_irr g2 hd) (or_lt128 h3 g3) h
          exact ⟨a1, a2, a3, by omega, a5⟩
        · cases h
    · split at h
      · rename_i hc
        obtain rfl := Option.some.inj h
        exact ⟨h1, h2, h3, by dsimp only; omega, by dsimp only; omega⟩
      · cases h
theorem rdS_ok (s : ByteArray) : ∀ f, OkR s (rdS s f) := by
  intro f
  induction f with
  | zero => intro i P r _ _ h; cases h
  | succ f ih =>
    intro i P r h1 h2 h
    unfold rdS at h
    split at h
    · cases h
    · split at h
      · rename_i hl hd
        obtain rfl := Option.some.inj h
        refine ⟨h1, h2, ?_, by dsimp only; omega, by dsimp only; omega⟩
        exact Nat.lt_of_le_of_lt (Nat.pow_le_pow_right (by omega) (show byteAt s i - 48 ≤ 6 by omega)) (by decide)
      · split at h
        · obtain ⟨a1, a2, a3, a4, a5⟩ := loopS_ok ih _ _ _ _ _ r h1 h2 (by omega) h
          exact ⟨a1, a2, a3, by omega, a5⟩
        · cases h
def befP (v w x y : Nat) : Bool := decide (x < v ∨ x = v ∧ y < w)
def prP (set part : Nat) (P : Rel) (v w : Nat) : Rel := fun x y => P x y || ((crS set part x y && befP v w x y) || (crS set part y x && befP v w y x))
theorem prP_sym {set part : Nat} {P : Rel} (h : SymP P) (v w : Nat) : SymP (prP set part P v w) := fun x y => by
  unfold prP; rw [h x y, Bool.or_comm (crS set part x y && befP v w x y)]
theorem prP_irr {set part : Nat} {P : Rel} (h : IrrP P) (hd : part &&& set = 0) (v w : Nat) : IrrP (prP set part P v w) := fun x => by
  have := and_bit hd x
  unfold prP crS
  rw [h x, Bool.and_comm (set.testBit x), this]; simp
theorem prP_zero (set part : Nat) (P : Rel) : prP set part P 0 0 = P := by
  funext x y; simp [prP, befP]
theorem befP_succ (v u x y : Nat) : befP v (u + 1) x y = (befP v u x y || decide (x = v ∧ y = u)) := by
  unfold befP
  rw [← Bool.decide_or]
  apply decide_eq_decide.2
  omega
theorem prP_add {set part : Nat} {P : Rel} {v u : Nat} (h : crS set part v u = true) : pairAdd (prP set part P v u) v u = prP set part P v (u + 1) := by
  funext x y
  unfold pairAdd prP
  rw [befP_succ, befP_succ]
  by_cases h1 : x = v ∧ y = u
  · obtain ⟨rfl, rfl⟩ := h1
    rw [h]; simp
  · by_cases h2 : x = u ∧ y = v
    · obtain ⟨rfl, rfl⟩ := h2
      rw [h]; simp
    · have h3 : ¬ (y = v ∧ x = u) := fun hh => h2 ⟨hh.2, hh.1⟩
      simp [h1, h2, h3]
theorem prP_skip {set part : Nat} {P : Rel} {v u : Nat} (h : crS set part v u = false) : prP set part P v (u + 1) = prP set part P v u := by
  funext x y
  unfold prP
  rw [befP_succ, befP_succ]
  by_cases h1 : x = v ∧ y = u
  · obtain ⟨rfl, rfl⟩ := h1
    rw [h]
    by_cases h2 : y = x
    · subst h2; rw [h]; simp
    · simp [h2]
  · by_cases h2 : y = v ∧ x = u
    · obtain ⟨rfl, rfl⟩ := h2
      rw [h]; simp [h1]
    · simp [h1, h2]
theorem prP_row {set part : Nat} {P : Rel} {v n : Nat} {x y : Nat} (hx : x < n) (hy : y < n) : prP set part P v n x y = prP set part P (v + 1) 0 x y := by
  have b : ∀ a b, b < n → befP v n a b = befP (v + 1) 0 a b := fun a b hb => by
    unfold befP; apply decide_eq_decide.2; omega
  unfold prP
  rw [b x y hy, b y x hx]
theorem prP_all {set part : Nat} {P : Rel} {n : Nat} {x y : Nat} (hx : x < n) (hy : y < n) : prP set part P n 0 x y = joinW 42 set part P x y := by
  have b : ∀ a b, a < n → befP n 0 a b = true := fun a b ha => by unfold befP; exact decide_eq_true (.inl ha)
  unfold prP joinW
  rw [b x y hx, b y x hy]; simp
end Go.Pw
