/- The readers of a cograph's tree, as functions: the program's. -/
import Derived.Test.YteopfbfcnggbbaaPwPct
namespace Go.Pw
open Go Go.RowKit
def byteAt (s : ByteArray) (i : Nat) : Nat := (s.data.toList.getD i 0).toNat
theorem byteAt_lt (s : ByteArray) (i : Nat) : byteAt s i < 256 := UInt8.toNat_lt _
theorem byteAt_get {s : ByteArray} {i : Nat} (h : i < s.size) : s[i]? = some (s.data.toList.getD i 0) := by
  have h1 : i < s.data.toList.length := h
  have h2 : s[i]? = some (s[i]'h) := by simp [h]
  rw [h2]
  congr 1
  have h3 : i < s.data.size := h
  simp only [List.getD, ByteArray.getElem_eq_getElem_data, Array.getElem?_toList]
  rw [Array.getElem?_eq_getElem h3]; rfl
abbrev RSt := Nat × (Nat → Nat) × Bool
def cellsR (s : ByteArray) (st : RSt) : List Value := [.string s, .int .i64 (st.1 : Int), .int .i64 (st.2.1 0 : Nat), .int .i64 (st.2.1 1 : Nat), .int .i64 (st.2.1 2 : Nat), .int .i64 (st.2.1 3 : Nat), .int .i64 (st.2.1 4 : Nat), .int .i64 (st.2.1 5 : Nat), .int .i64 (st.2.1 6 : Nat), .bool st.2.2]
theorem cellsR_row {s : ByteArray} {st : RSt} {v : Nat} (h : v < 7) : (cellsR s st)[2 + v]? = some (.int .i64 (st.2.1 v : Nat)) := by
  have : v = 0 ∨ v = 1 ∨ v = 2 ∨ v = 3 ∨ v = 4 ∨ v = 5 ∨ v = 6 := by omega
  rcases this with rfl | rfl | rfl | rfl | rfl | rfl | rfl <;> rfl
def updR (r : Nat → Nat) (v x : Nat) : Nat → Nat := fun j => if j = v then x else r j
theorem cellsR_set {s : ByteArray} {a : Nat} {r : Nat → Nat} {b : Bool} {v x : Nat} (h : v < 7) : (cellsR s (a, r, b)).set (2 + v) (.int .i64 (x : Nat)) = cellsR s (a, updR r v x, b) := by
  have : v = 0 ∨ v = 1 ∨ v = 2 ∨ v = 3 ∨ v = 4 ∨ v = 5 ∨ v = 6 := by omega
  rcases this with rfl | rfl | rfl | rfl | rfl | rfl | rfl <;> rfl
theorem cellsR_or1 {s : ByteArray} {a : Nat} {r : Nat → Nat} {b : Bool} {v x : Nat} (h : v < 7) (hr : ∀ v, r v < 128) (hx : x < 128) : (cellsR s (a, r, b)).set (2 + v) (.int .i64 (ior (r v : Nat) (x : Nat))) = cellsR s (a, updR r v (r v ||| x), b) := by
  have := hr v
  rw [ior_nat (by omega) (by omega)]; exact cellsR_set h
theorem or_lt128 {a b : Nat} (ha : a < 128) (hb : b < 128) : a ||| b < 128 := Nat.or_lt_two_pow (n := 7) ha hb
theorem cellsR_or2 {s : ByteArray} {a : Nat} {r : Nat → Nat} {b : Bool} {v x y : Nat} (h : v < 7) (hr : ∀ v, r v < 128) (hx : x < 128) (hy : y < 128) : ((cellsR s (a, r, b)).set (2 + v) (.int .i64 (ior (r v : Nat) (x : Nat)))).set (2 + v) (.int .i64 (ior (ior (r v : Nat) (x : Nat)) (y : Nat))) = cellsR s (a, updR r v (r v ||| x ||| y), b) := by
  have h1 := hr v
  have h2 := or_lt128 h1 hx
  rw [ior_nat (by omega) (by omega), ior_nat (by omega) (by omega), List.set_set]; exact cellsR_set h
def nextI (s : ByteArray) (st : RSt) : Nat × RSt := if st.1 = s.size then (0, (st.1, st.2.1, true)) else (byteAt s st.1, (st.1 + 1, st.2.1, st.2.2))
theorem nextI_end {s : ByteArray} {st : RSt} (h : st.1 = s.size) : nextI s st = (0, (st.1, st.2.1, true)) := if_pos h
theorem nextI_in {s : ByteArray} {st : RSt} (h : st.1 ≠ s.size) : nextI s st = (byteAt s st.1, (st.1 + 1, st.2.1, st.2.2)) := if_neg h
theorem nextI_pos (s : ByteArray) (st : RSt) (h : (nextI s st).1 ≠ 0) : st.1 ≠ s.size ∧ (nextI s st).2.1 = st.1 + 1 := by
  by_cases he : st.1 = s.size
  · rw [nextI_end he] at h; exact absurd rfl h
  · rw [nextI_in he]; exact ⟨he, rfl⟩
def joinK (sign out part : Nat) (r : Nat → Nat) (k : Nat) : Nat → Nat := fun v => if v < k ∧ sign = 42 then r v ||| (if part.testBit v then out else 0) ||| (if out.testBit v then part else 0) else r v
theorem joinK_zero (sign out part : Nat) (r : Nat → Nat) : joinK sign out part r 0 = r := by
  funext v; unfold joinK; rw [if_neg (by omega)]
theorem joinK_no {sign : Nat} (h : sign ≠ 42) (out part : Nat) (r : Nat → Nat) (k : Nat) : joinK sign out part r k = r := by
  funext v; unfold joinK; rw [if_neg (fun hh => h hh.2)]
theorem joinK_succ (out part : Nat) (r : Nat → Nat) (k : Nat) : joinK 42 out part r (k + 1) = updR (joinK 42 out part r k) k (r k ||| (if part.testBit k then out else 0) ||| (if out.testBit k then part else 0)) := by
  funext v
  unfold updR joinK
  by_cases h : v = k
  · subst h
    have c1 : v < v + 1 ∧ 42 = 42 := ⟨by omega, rfl⟩
    rw [if_pos c1, if_pos rfl]
  · have c3 : ¬ v = k := h
    rw [if_neg c3]
    by_cases h2 : v < k
    · have c1 : v < k + 1 ∧ 42 = 42 := ⟨by omega, rfl⟩
      have c2 : v < k ∧ 42 = 42 := ⟨h2, rfl⟩
      rw [if_pos c1, if_pos c2]
    · have c1 : ¬ (v < k + 1 ∧ 42 = 42) := fun hh => by omega
      have c2 : ¬ (v < k ∧ 42 = 42) := fun hh => h2 hh.1
      rw [if_neg c1, if_neg c2]
theorem joinK_at (sign out part : Nat) (r : Nat → Nat) (k : Nat) : joinK sign out part r k k = r k := by
  unfold joinK; rw [if_neg (by omega)]
theorem updR_self (r : Nat → Nat) (k : Nat) : updR r k (r k) = r := by
  funext v; unfold updR; split
  · rename_i h; rw [h]
  · rfl
def loopI (s : ByteArray) (g : RSt → Nat × RSt) (sign : Nat) : Nat → RSt → Nat → Nat × RSt
  | 0, st, out => (out, st)
  | k + 1, st, out => if st.2.2 = true then (out, st) else
      if (nextI s st).1 = 32 then loopI s g sign k ((g (nextI s st).2).2.1, joinK sign out (g (nextI s st).2).1 (g (nextI s st).2).2.2.1 7, (g (nextI s st).2).2.2.2) (out ||| (g (nextI s st).2).1)
      else (out, (nextI s st).2)
def setI (s : ByteArray) : Nat → RSt → Nat × RSt
  | 0, st => (0, st)
  | f + 1, st => if (nextI s st).1 = 40 then loopI s (setI s f) (nextI s (nextI s st).2).1 (s.size + 1) (nextI s (nextI s st).2).2 0
      else if (nextI s st).2.2.2 = true ∨ ¬ (48 ≤ (nextI s st).1 ∧ (nextI s st).1 ≤ 54) then (0, ((nextI s st).2.1, (nextI s st).2.2.1, true)) else (2 ^ ((nextI s st).1 - 48), (nextI s st).2)
def BdR (st : RSt) : Prop := ∀ v, st.2.1 v < 128
theorem nextI_ok {s : ByteArray} {st : RSt} (h : st.1 ≤ s.size) (hb : BdR st) : st.1 ≤ (nextI s st).2.1 ∧ (nextI s st).2.1 ≤ s.size ∧ BdR (nextI s st).2 ∧ (nextI s st).1 < 256 := by
  by_cases he : st.1 = s.size
  · rw [nextI_end he]; exact ⟨Nat.le_refl _, h, hb, by show 0 < 256; omega⟩
  · rw [nextI_in he]; exact ⟨by dsimp only; omega, by dsimp only; omega, hb, byteAt_lt _ _⟩
theorem joinK_lt {sign out part : Nat} {r : Nat → Nat} {k : Nat} (ho : out < 128) (hp : part < 128) (hr : ∀ v, r v < 128) : ∀ v, joinK sign out part r k v < 128 := fun v => by
  unfold joinK
  split
  · refine or_lt128 (or_lt128 (hr v) ?_) ?_
    · split <;> omega
    · split <;> omega
  · exact hr v
def OkG (s : ByteArray) (g : RSt → Nat × RSt) : Prop := ∀ st, st.1 ≤ s.size → BdR st → st.1 ≤ (g st).2.1 ∧ (g st).2.1 ≤ s.size ∧ BdR (g st).2 ∧ (g st).1 < 128
theorem loopI_ok {s : ByteArray} {g : RSt → Nat × RSt} (hg : OkG s g) (sign : Nat) : ∀ k st out, st.1 ≤ s.size → BdR st → out < 128 → st.1 ≤ (loopI s g sign k st out).2.1 ∧ (loopI s g sign k st out).2.1 ≤ s.size ∧ BdR (loopI s g sign k st out).2 ∧ (loopI s g sign k st out).1 < 128 := by
  intro k
  induction k with
  | zero => intro st out h1 h2 h3; exact ⟨Nat.le_refl _, h1, h2, h3⟩
  | succ k ih =>
    intro st out h1 h2 h3
    unfold loopI
    split
    · exact ⟨Nat.le_refl _, h1, h2, h3⟩
    · obtain ⟨n1, n2, n3, n4⟩ := nextI_ok h1 h2
      split
      · obtain ⟨g1, g2, g3, g4⟩ := hg _ n2 n3
        obtain ⟨i1, i2, i3, i4⟩ := ih ((g (nextI s st).2).2.1, joinK sign out (g (nextI s st).2).1 (g (nextI s st).2).2.2.1 7, (g (nextI s st).2).2.2.2) (out ||| (g (nextI s st).2).1) g2 (joinK_lt h3 g4 g3) (or_lt128 h3 g4)
        exact ⟨by dsimp only at i1; omega, i2, i3, i4⟩
      · exact ⟨n1, n2, n3, h3⟩
theorem setI_ok (s : ByteArray) : ∀ f, OkG s (setI s f) := by
  intro f
  induction f with
  | zero => intro st h1 h2; exact ⟨Nat.le_refl _, h1, h2, by show 0 < 128; omega⟩
  | succ f ih =>
    intro st h1 h2
    obtain ⟨n1, n2, n3, n4⟩ := nextI_ok h1 h2
    unfold setI
    split
    · obtain ⟨m1, m2, m3, m4⟩ := nextI_ok n2 n3
      obtain ⟨i1, i2, i3, i4⟩ := loopI_ok ih (nextI s (nextI s st).2).1 (s.size + 1) (nextI s (nextI s st).2).2 0 m2 m3 (by omega)
      exact ⟨by omega, i2, i3, i4⟩
    · split
      · exact ⟨n1, n2, n3, by show 0 < 128; omega⟩
      · rename_i hh
        refine ⟨n1, n2, n3, ?_⟩
        have : (nextI s st).1 - 48 ≤ 6 := by omega
        exact Nat.lt_of_le_of_lt (Nat.pow_le_pow_right (by omega) this) (by decide)
def rowsI (n : Nat) (r : Nat → Nat) : List Int := (List.range n).map fun v => (r v : Int)
theorem rowsI_length (n : Nat) (r : Nat → Nat) : (rowsI n r).length = n := by simp [rowsI]
theorem toList_beq (a b : ByteArray) : (a.toList == b.toList) = decide (a = b) := by
  rw [ByteArray.toList_eq, ByteArray.toList_eq]
  by_cases h : a = b
  · subst h; simp
  · rw [decide_eq_false h, beq_eq_false_iff_ne]
    exact fun hh => h (Go.WideShapes.bytes_inj hh)
def cogb (size : Int) (rows : List Int) : Bool := decide (IsG size rows ∧ pathX size rows 4 = none)
def gocA (s : ByteArray) : Nat × RSt := setI s 101 (0, fun _ => 0, false)
def gocN (s : ByteArray) : Nat := cntN (gocA s).1
def gocR (s : ByteArray) : List Int := rowsI (gocN s) (gocA s).2.2.1
def gocB (s : ByteArray) : Bool := decide (s.size ≤ 100) && (!(gocA s).2.2.2 && (cogb (gocN s) (gocR s) && decide (cotX (gocN s) (gocR s) = s)))
def gocZ (s : ByteArray) : Int := if gocB s = true then gocN s else 0
def gocL (s : ByteArray) : List Int := if gocB s = true then gocR s else []
theorem gocA_ok (s : ByteArray) : (gocA s).2.1 ≤ s.size ∧ BdR (gocA s).2 ∧ (gocA s).1 < 128 := by
  obtain ⟨_, h1, h2, h3⟩ := setI_ok s 101 (0, fun _ => 0, false) (Nat.zero_le _) (fun v => by show 0 < 128; omega)
  exact ⟨h1, h2, h3⟩
end Go.Pw
