/- The plain mathematics of graphs made of pairs that join. -/
import Derived.Test.YtoejpckfeflkaaaGreatDoorPwMod
namespace Go.Pw
open Go
/-- The numbers below k for which f holds, as bits. -/
def maskU (f : Nat → Bool) : Nat → Nat
  | 0 => 0
  | k + 1 => if f k = true then maskU f k + 2 ^ k else maskU f k
theorem maskU_lt (f : Nat → Bool) : ∀ k, maskU f k < 2 ^ k
  | 0 => by simp [maskU]
  | k + 1 => by
    have := maskU_lt f k
    unfold maskU
    rw [Nat.pow_succ]
    split <;> omega
theorem mask_add_bit {a k : Nat} (h : a < 2 ^ k) (i : Nat) : (a + 2 ^ k).testBit i = (a.testBit i || decide (k = i)) := by
  have e : a + 2 ^ k = 2 ^ k ||| a := by rw [Nat.add_comm]; have := Nat.two_pow_add_eq_or_of_lt h 1; simpa using this
  rw [e, Nat.testBit_or, Nat.testBit_two_pow, Bool.or_comm]
theorem maskU_bit (f : Nat → Bool) (i : Nat) : ∀ k, (maskU f k).testBit i = (decide (i < k) && f i)
  | 0 => by simp [maskU]
  | k + 1 => by
    have ih := maskU_bit f i k
    have hl := maskU_lt f k
    unfold maskU
    by_cases hik : i = k
    · subst hik
      have h0 : decide (i < i) = false := by simp
      rw [h0, Bool.false_and] at ih
      have h1 : decide (i < i + 1) = true := by simp
      rw [h1, Bool.true_and]
      cases he : f i with
      | true => rw [if_pos rfl, mask_add_bit hl]; simp
      | false => rw [if_neg Bool.false_ne_true]; exact ih
    · have h1 : decide (i < k + 1) = decide (i < k) := decide_eq_decide.2 (by omega)
      rw [h1]
      split
      · rw [mask_add_bit hl, ih, show decide (k = i) = false from decide_eq_false (fun e => hik e.symm), Bool.or_false]
      · exact ih
theorem maskU_congr {f g : Nat → Bool} {k : Nat} (h : ∀ u, u < k → f u = g u) : maskU f k = maskU g k := by
  apply Nat.eq_of_testBit_eq
  intro i
  rw [maskU_bit, maskU_bit]
  by_cases hi : i < k
  · rw [h i hi]
  · simp [hi]
/-- The rows of a graph whose bits are P. -/
def gRows (n : Nat) (P : Nat → Nat → Bool) : List Int := (List.range n).map fun i => ((maskU (P i) n : Nat) : Int)
@[simp] theorem gRows_length (n : Nat) (P : Nat → Nat → Bool) : (gRows n P).length = n := by simp [gRows]
theorem gRows_get {n i : Nat} (P : Nat → Nat → Bool) (hi : i < n) : (gRows n P).getD i 0 = ((maskU (P i) n : Nat) : Int) := by simp [gRows, List.getD, hi]
theorem gRows_congr {n : Nat} {P Q : Nat → Nat → Bool} (h : ∀ i u, i < n → u < n → P i u = Q i u) : gRows n P = gRows n Q := by
  unfold gRows
  apply List.map_congr_left
  intro i hi
  rw [maskU_congr fun u hu => h i u (List.mem_range.1 hi) hu]
theorem gRows_none {n : Nat} {P : Nat → Nat → Bool} (h : ∀ i u, i < n → u < n → P i u = false) : gRows n P = List.replicate n 0 := by
  rw [gRows_congr (Q := fun _ _ => false) h]
  have : maskU (fun _ => false) n = 0 := Nat.eq_of_testBit_eq fun i => by rw [maskU_bit]; simp
  unfold gRows
  simp only [this]
  apply List.ext_getElem <;> simp
def pairAdd (P : Nat → Nat → Bool) (v w : Nat) : Nat → Nat → Bool := fun i u => P i u || (decide (i = v ∧ u = w) || decide (i = w ∧ u = v))
theorem bit_new : ∀ m : Fin 128, ∀ w : Fin 7, m.val.testBit w.val = false → m.val + 2 ^ w.val = m.val ||| 2 ^ w.val ∧ m.val ^^^ 2 ^ w.val = m.val ||| 2 ^ w.val := by decide +kernel
/-- One row with one more bit. -/
theorem mask_new {f : Nat → Bool} {n w : Nat} (hn : n ≤ 7) (hw : w < n) (hf : f w = false) :
    ixor ((maskU f n : Nat) : Int) (ishl 1 w) = ((maskU (fun u => f u || decide (u = w)) n : Nat) : Int) ∧ ((maskU f n : Nat) : Int) + ishl 1 w = ((maskU (fun u => f u || decide (u = w)) n : Nat) : Int) := by
  have h7 : 2 ^ n ≤ 2 ^ 7 := Nat.pow_le_pow_right (by omega) hn
  have hl := maskU_lt f n
  have hb : (maskU f n).testBit w = false := by rw [maskU_bit, hf]; simp
  have hpw : 2 ^ w < 2 ^ 7 := Nat.pow_lt_pow_right (by omega) (by omega)
  have h1 := bit_new ⟨maskU f n, by omega⟩ ⟨w, by omega⟩ hb
  dsimp only at h1
  have h2 : maskU f n ||| 2 ^ w = maskU (fun u => f u || decide (u = w)) n := by
    apply Nat.eq_of_testBit_eq
    intro i
    rw [Nat.testBit_or, maskU_bit, maskU_bit, Nat.testBit_two_pow]
    by_cases hi : i = w
    · subst hi; simp [hw]
    · have : ¬ w = i := fun e => hi e.symm
      simp [hi, this]
  rw [ishl_one_nat (by omega), ixor_nat (by omega) (by omega), h1.2, h2, ← h2, ← h1.1]
  exact ⟨rfl, by omega⟩
theorem gRows_set {n : Nat} {P : Nat → Nat → Bool} {v : Nat} {f : Nat → Bool} (hv : v < n) : (gRows n P).set v ((maskU f n : Nat) : Int) = gRows n (fun i => if i = v then f else P i) := by
  apply List.ext_getElem
  · simp
  · intro i h1 h2
    simp only [List.getElem_set, gRows, List.getElem_map, List.getElem_range]
    by_cases hiv : i = v
    · subst hiv; simp
    · rw [if_neg (fun e => hiv e.symm), if_neg hiv]
/-- Two rows, each with one more bit. -/
theorem gRows_pair {n v w : Nat} {P : Nat → Nat → Bool} (hn : n ≤ 7) (hv : v < n) (hw : w < n) (hvw : v ≠ w) (h1 : P v w = false) (h2 : P w v = false) :
    ((gRows n P).set v ((maskU (fun u => P v u || decide (u = w)) n : Nat) : Int)).getD w 0 = ((maskU (P w) n : Nat) : Int) ∧
    ((gRows n P).set v ((maskU (fun u => P v u || decide (u = w)) n : Nat) : Int)).set w ((maskU (fun u => P w u || decide (u = v)) n : Nat) : Int) = gRows n (pairAdd P v w) := by
  rw [gRows_set hv, gRows_get _ hw, if_neg (fun e => hvw e.symm), gRows_set hw]
  refine ⟨rfl, gRows_congr fun i u hi hu => ?_⟩
  unfold pairAdd
  by_cases hiw : i = w
  · subst hiw
    rw [if_pos rfl, show decide (i = v ∧ u = i) = false from decide_eq_false fun h => hvw h.1.symm, Bool.false_or]
    simp
  · rw [if_neg hiw]
    by_cases hiv : i = v
    · subst hiv; simp [hiw]
    · simp [hiw, hiv]
/-- The pairs seen by two loops that stand at w and v < w. -/
def bef (w v a b : Nat) : Bool := decide (b < w ∨ (b = w ∧ a < v))
def seenP (J : Nat → Nat → Bool) (w v i u : Nat) : Bool := (decide (i < u) && bef w v i u && J i u) || (decide (u < i) && bef w v u i && J u i)
theorem seenP_zero (J : Nat → Nat → Bool) (i u : Nat) : seenP J 0 0 i u = false := by simp [seenP, bef]
theorem seenP_next (J : Nat → Nat → Bool) (w i u : Nat) : seenP J w w i u = seenP J (w + 1) 0 i u := by
  unfold seenP
  congr 1
  · by_cases h : i < u
    · have : bef w w i u = bef (w + 1) 0 i u := decide_eq_decide.2 (by omega)
      rw [this]
    · simp [h]
  · by_cases h : u < i
    · have : bef w w u i = bef (w + 1) 0 u i := decide_eq_decide.2 (by omega)
      rw [this]
    · simp [h]
theorem seenP_new (J : Nat → Nat → Bool) {w v : Nat} (hv : v < w) : seenP J w v v w = false ∧ seenP J w v w v = false := by
  have h1 : bef w v v w = false := decide_eq_false (by omega)
  have h2 : decide (w < v) = false := decide_eq_false (by omega)
  unfold seenP
  rw [h1, h2]; simp
theorem seenP_no (J : Nat → Nat → Bool) {w v : Nat} (hv : v < w) (hJ : J v w = false) (i u : Nat) : seenP J w v i u = seenP J w (v + 1) i u := by
  have key : ∀ a b : Nat, (decide (a < b) && bef w v a b && J a b) = (decide (a < b) && bef w (v + 1) a b && J a b) := fun a b => by
    by_cases h : a = v ∧ b = w
    · obtain ⟨rfl, rfl⟩ := h; rw [hJ]; simp
    · have : bef w v a b = bef w (v + 1) a b := decide_eq_decide.2 (by omega)
      rw [this]
  unfold seenP
  rw [key, key]
theorem seenP_yes (J : Nat → Nat → Bool) {w v : Nat} (hv : v < w) (hJ : J v w = true) (i u : Nat) : pairAdd (seenP J w v) v w i u = seenP J w (v + 1) i u := by
  have key : ∀ a b : Nat, ((decide (a < b) && bef w v a b && J a b) || decide (a = v ∧ b = w)) = (decide (a < b) && bef w (v + 1) a b && J a b) := fun a b => by
    by_cases h : a = v ∧ b = w
    · obtain ⟨rfl, rfl⟩ := h
      have : bef b (a + 1) a b = true := decide_eq_true (by omega)
      rw [hJ, this]; simp [hv]
    · have : bef w v a b = bef w (v + 1) a b := decide_eq_decide.2 (by omega)
      rw [this, decide_eq_false h, Bool.or_false]
  unfold pairAdd seenP
  rw [← key i u, ← key u i]
  have : decide (u = v ∧ i = w) = decide (i = w ∧ u = v) := decide_eq_decide.2 And.comm
  rw [this]
  ac_rfl
theorem gRows_has {n : Nat} (hn : n ≤ 7) (P : Nat → Nat → Bool) {v u : Nat} (hv : v < n) (hu : u < n) : hasB ((gRows n P).getD v 0) (u : Int) = P v u := by
  have h7 : 2 ^ n ≤ 2 ^ 7 := Nat.pow_le_pow_right (by omega) hn
  have hl := maskU_lt (P v) n
  rw [gRows_get P hv, hasB_nat (by omega) (by omega), maskU_bit]
  simp [hu]
theorem gRows_isG {n : Nat} (h1 : 1 ≤ n) (hn : n ≤ 7) {P : Nat → Nat → Bool} (hs : ∀ i u, P i u = P u i) (hi : ∀ i, P i i = false) : IsG n (gRows n P) := by
  have h7 : 2 ^ n ≤ 2 ^ 7 := Nat.pow_le_pow_right (by omega) hn
  refine ⟨⟨by omega, by omega⟩, by simp, fun v hv => ?_, fun v hv u hu => ?_⟩
  · rw [gRows_length] at hv
    have hl := maskU_lt (P v) n
    refine ⟨⟨?_, ?_⟩, ?_⟩
    · rw [gRows_get P hv]; omega
    · rw [gRows_get P hv, ishl_one_nat (by omega)]; omega
    · rw [gRows_has hn P hv hv, hi]
  · rw [gRows_length] at hv
    unfold okSym
    rw [gRows_has hn P hv (by omega), gRows_has hn P (by omega) hv, hs]
theorem seenP_sym (J : Nat → Nat → Bool) (w v i u : Nat) : seenP J w v i u = seenP J w v u i := by
  unfold seenP; exact Bool.or_comm _ _
theorem seenP_irr (J : Nat → Nat → Bool) (w v i : Nat) : seenP J w v i i = false := by simp [seenP]
end Go.Pw
