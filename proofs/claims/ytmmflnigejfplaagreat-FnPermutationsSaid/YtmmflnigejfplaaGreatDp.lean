import Derived.Test.YtmmflnigejfplaaGreatPwPcx
import Derived.WideShapes
import Derived.Laws.Strings
import Derived.Test.YtmmflnigejfplaaGreatPwPqg
import Derived.Test.YtmmflnigejfplaaGreatQt
import Derived.Test.YtmmflnigejfplaaGreatPwRdr
import Derived.Test.YtmmflnigejfplaaGreatDr
import Derived.Test.YtmmflnigejfplaaGreatPwOri
import Derived.Test.YtmmflnigejfplaaGreatPwPpe
import Derived.Test.YtmmflnigejfplaaGreatPwPqt
import Derived.Test.YtmmflnigejfplaaGreatPwPmo
import Derived.Test.YtmmflnigejfplaaGreatPwPsv
import Derived.Test.YtmmflnigejfplaaGreatPwPlain
import Derived.Test.YtmmflnigejfplaaGreatPwPor
import Derived.Test.YtmmflnigejfplaaGreatPwPpm
import Derived.Test.YtmmflnigejfplaaGreatPwPlo
import Derived.Test.YtmmflnigejfplaaGreatPwPfl
import Derived.Test.YtmmflnigejfplaaGreatPwMod
import Derived.Test.YtmmflnigejfplaaGreatPwPld
import Derived.Test.YtmmflnigejfplaaGreatPwPcc
import Derived.Test.YtmmflnigejfplaaGreatPwBool
import Derived.Test.YtmmflnigejfplaaGreatPwCur
import Derived.Test.YtmmflnigejfplaaGreatPwJoin
import Derived.Test.YtmmflnigejfplaaGreatLd
import Derived.Test.YtmmflnigejfplaaGreatSl
import Derived.Test.YtmmflnigejfplaaGreatPwClos
import Derived.Test.YtmmflnigejfplaaGreatOr
import Derived.Test.YtmmflnigejfplaaGreatSo
import Derived.Test.YtmmflnigejfplaaGreatGs
import Derived.Test.YtmmflnigejfplaaGreatPwDrop
import Derived.Test.YtmmflnigejfplaaGreatCq
import Derived.Test.YtmmflnigejfplaaGreatKd
import Derived.Test.YtmmflnigejfplaaGreatLk
import Derived.Test.YtmmflnigejfplaaGreatPe
/- Texts: digits, a cograph's tree as text. -/
namespace Go.Pw
open Go Go.RowKit
def digI (x : Int) : ByteArray := ⟨#[UInt8.ofNat (48 + x).toNat]⟩
def digsB (l : List Int) : ByteArray := l.foldl (fun a x => a ++ digI x) ByteArray.empty
theorem digI_size (x : Int) : (digI x).size = 1 := rfl
theorem digsB_snoc (l : List Int) (x : Int) : digsB (l ++ [x]) = digsB l ++ digI x := by simp [digsB]
theorem size_cat (a b : ByteArray) : (a ++ b).size = a.size + b.size := ByteArray.size_append
theorem digsB_size (l : List Int) : (digsB l).size = l.length := by
  unfold digsB
  suffices h : ∀ (l : List Int) (a : ByteArray), (l.foldl (fun a x => a ++ digI x) a).size = a.size + l.length by
    have := h l ByteArray.empty
    simpa using this
  intro l
  induction l with
  | nil => intro a; rfl
  | cons x l ih => intro a; rw [List.foldl_cons, ih, size_cat, digI_size, List.length_cons]; omega
theorem digsB_take {l : List Int} {i : Nat} (h : i < l.length) : digsB (l.take (i + 1)) = digsB (l.take i) ++ digI (l.getD i 0) := by
  rw [← digsB_snoc]; congr 1
  rw [List.take_add_one, List.getElem?_eq_getElem h]; simp [List.getD, h]
theorem toList_len (a : ByteArray) : a.toList.length = a.size := by rw [ByteArray.toList_eq]; rfl
def fmtS (set : Int) : ByteArray := if set = 0 then ⟨#[45]⟩ else digsB (listS set)
theorem listS_b6 (s : Int) : ∀ x ∈ listS s, 0 ≤ x ∧ x ≤ 6 := fun x hx => by
  obtain ⟨_, v, rfl, hv, _⟩ := mem_listS.1 hx
  omega
theorem listS_nil (s : Int) : listS s = [] ↔ s = 0 ∨ ¬ (0 ≤ s ∧ s ≤ 127) := by
  by_cases h : 0 ≤ s ∧ s ≤ 127
  · obtain ⟨k, rfl⟩ : ∃ k : Nat, s = (k : Int) := ⟨s.toNat, by omega⟩
    have key : ∀ k : Nat, k < 128 → (listS (k : Int) = [] ↔ k = 0) := by decide +kernel
    have := key k (by omega)
    rw [this]; omega
  · have : listS s = [] := if_neg h
    simp [this, h]
def lparB : ByteArray := ⟨#[40, 43]⟩
def lmulB : ByteArray := ⟨#[40, 42]⟩
def rparB : ByteArray := ⟨#[41]⟩
def spB : ByteArray := ⟨#[32]⟩
def foldT (f : Nat → ByteArray) (L : List Nat) (a : ByteArray) : ByteArray := L.foldl (fun acc p => (acc ++ spB) ++ f p) a
theorem foldT_take {f : Nat → ByteArray} {L : List Nat} {i : Nat} (h : i < L.length) (a : ByteArray) : foldT f (L.take (i + 1)) a = (foldT f (L.take i) a ++ spB) ++ f (L.getD i 0) := by
  unfold foldT
  rw [List.take_add_one, List.getElem?_eq_getElem h, List.foldl_append]
  simp [List.getD, h]
theorem foldT_size {f : Nat → ByteArray} {B : Nat} (h : ∀ p, (f p).size ≤ B) : ∀ (L : List Nat) (a : ByteArray), (foldT f L a).size ≤ a.size + L.length * (1 + B) := by
  intro L
  induction L with
  | nil => intro a; unfold foldT; simp
  | cons p L ih =>
    intro a
    have h1 := ih ((a ++ spB) ++ f p)
    have h2 := h p
    rw [size_cat, size_cat] at h1
    have h3 : spB.size = 1 := rfl
    have h4 : (p :: L).length * (1 + B) = L.length * (1 + B) + (1 + B) := by rw [List.length_cons, Nat.succ_mul]
    have h5 : foldT f (p :: L) a = foldT f L ((a ++ spB) ++ f p) := rfl
    rw [h5, h4]; omega
def cotT (r s : Nat → Nat) (n : Nat) : Nat → Nat → ByteArray
  | 0, _ => ByteArray.empty
  | c + 1, set => if cntN set = 1 then digsB (listS (set : Int)) else
      if (partsN r n set 128 set).length = 1 then foldT (cotT r s n c) (partsN s n set 128 set) lmulB ++ rparB
      else foldT (cotT r s n c) (partsN r n set 128 set) lparB ++ rparB
theorem cotT_size (r s : Nat → Nat) (n : Nat) : ∀ c set, (cotT r s n c set).size ≤ 259 ^ c := by
  intro c
  induction c with
  | zero => intro set; show ByteArray.empty.size ≤ 259 ^ 0; decide
  | succ c ih =>
    intro set
    have hp : 1 ≤ 259 ^ c := Nat.pow_pos (by omega)
    have hs : 259 ^ (c + 1) = 259 ^ c * 259 := Nat.pow_succ _ _
    unfold cotT
    split
    · have := digsB_size (listS (set : Int)); have := listS_length (set : Int); omega
    · split
      · have h1 := foldT_size ih (partsN s n set 128 set) lmulB
        have h2 := partsN_length s n set 128 set
        have h3 : (partsN s n set 128 set).length * (1 + 259 ^ c) ≤ 128 * (1 + 259 ^ c) := Nat.mul_le_mul_right _ h2
        have h4 : lmulB.size = 2 := rfl
        have h5 : rparB.size = 1 := rfl
        rw [size_cat]; omega
      · have h1 := foldT_size ih (partsN r n set 128 set) lparB
        have h2 := partsN_length r n set 128 set
        have h3 : (partsN r n set 128 set).length * (1 + 259 ^ c) ≤ 128 * (1 + 259 ^ c) := Nat.mul_le_mul_right _ h2
        have h4 : lparB.size = 2 := rfl
        have h5 : rparB.size = 1 := rfl
        rw [size_cat]; omega
theorem pow259 {c : Nat} (h : c ≤ 6) : 259 ^ c ≤ 400000000000000 := Nat.le_trans (Nat.pow_le_pow_right (by omega) h) (by decide)
theorem one_bit : ∀ S, S < 128 → S ≠ 0 → (S &&& (S - 1) = 0 ↔ cntN S = 1) := by decide +kernel
def cotX (size : Int) (rows : List Int) : ByteArray := if IsG size rows ∧ pathX size rows 4 = none then cotT (rowN rows) (rowN (barL size rows)) size.toNat 7 (2 ^ size.toNat - 1) else ByteArray.empty
end Go.Pw
/- The readers of a cograph's tree, as functions: the program's. -/
namespace Go.Pw
open Go Go.RowKit
def byteAt (s : ByteArray) (i : Nat) : Nat := (s.data.toList.getD i 0).toNat
theorem byteAt_lt (s : ByteArray) (i : Nat) : byteAt s i < 256 := UInt8.toNat_lt _
theorem byteAt_get {s : ByteArray} {i : Nat} (h : i < s.size) : s[i]? = some (s.data.toList.getD i 0) := by
  have h1 : i < s.data.toList.length := h
  have h2 : s[i]? = some (s[i]'h) := by simp [h]
  rw [h2]
  congr 1
  have h3 : i < s.data.size := h
  simp only [List.getD, ByteArray.getElem_eq_getElem_data, Array.getElem?_toList]
  rw [Array.getElem?_eq_getElem h3]; rfl
abbrev RSt := Nat × (Nat → Nat) × Bool
def cellsR (s : ByteArray) (st : RSt) : List Value := [.string s, .int .i64 (st.1 : Int), .int .i64 (st.2.1 0 : Nat), .int .i64 (st.2.1 1 : Nat), .int .i64 (st.2.1 2 : Nat), .int .i64 (st.2.1 3 : Nat), .int .i64 (st.2.1 4 : Nat), .int .i64 (st.2.1 5 : Nat), .int .i64 (st.2.1 6 : Nat), .bool st.2.2]
theorem cellsR_row {s : ByteArray} {st : RSt} {v : Nat} (h : v < 7) : (cellsR s st)[2 + v]? = some (.int .i64 (st.2.1 v : Nat)) := by
  have : v = 0 ∨ v = 1 ∨ v = 2 ∨ v = 3 ∨ v = 4 ∨ v = 5 ∨ v = 6 := by omega
  rcases this with rfl | rfl | rfl | rfl | rfl | rfl | rfl <;> rfl
def updR (r : Nat → Nat) (v x : Nat) : Nat → Nat := fun j => if j = v then x else r j
theorem cellsR_set {s : ByteArray} {a : Nat} {r : Nat → Nat} {b : Bool} {v x : Nat} (h : v < 7) : (cellsR s (a, r, b)).set (2 + v) (.int .i64 (x : Nat)) = cellsR s (a, updR r v x, b) := by
  have : v = 0 ∨ v = 1 ∨ v = 2 ∨ v = 3 ∨ v = 4 ∨ v = 5 ∨ v = 6 := by omega
  rcases this with rfl | rfl | rfl | rfl | rfl | rfl | rfl <;> rfl
theorem cellsR_or1 {s : ByteArray} {a : Nat} {r : Nat → Nat} {b : Bool} {v x : Nat} (h : v < 7) (hr : ∀ v, r v < 128) (hx : x < 128) : (cellsR s (a, r, b)).set (2 + v) (.int .i64 (ior (r v : Nat) (x : Nat))) = cellsR s (a, updR r v (r v ||| x), b) := by
  have := hr v
  rw [ior_nat (by omega) (by omega)]; exact cellsR_set h
theorem or_lt128 {a b : Nat} (ha : a < 128) (hb : b < 128) : a ||| b < 128 := Nat.or_lt_two_pow (n := 7) ha hb
theorem cellsR_or2 {s : ByteArray} {a : Nat} {r : Nat → Nat} {b : Bool} {v x y : Nat} (h : v < 7) (hr : ∀ v, r v < 128) (hx : x < 128) (hy : y < 128) : ((cellsR s (a, r, b)).set (2 + v) (.int .i64 (ior (r v : Nat) (x : Nat)))).set (2 + v) (.int .i64 (ior (ior (r v : Nat) (x : Nat)) (y : Nat))) = cellsR s (a, updR r v (r v ||| x ||| y), b) := by
  have h1 := hr v
  have h2 := or_lt128 h1 hx
  rw [ior_nat (by omega) (by omega), ior_nat (by omega) (by omega), List.set_set]; exact cellsR_set h
def nextI (s : ByteArray) (st : RSt) : Nat × RSt := if st.1 = s.size then (0, (st.1, st.2.1, true)) else (byteAt s st.1, (st.1 + 1, st.2.1, st.2.2))
theorem nextI_end {s : ByteArray} {st : RSt} (h : st.1 = s.size) : nextI s st = (0, (st.1, st.2.1, true)) := if_pos h
theorem nextI_in {s : ByteArray} {st : RSt} (h : st.1 ≠ s.size) : nextI s st = (byteAt s st.1, (st.1 + 1, st.2.1, st.2.2)) := if_neg h
theorem nextI_pos (s : ByteArray) (st : RSt) (h : (nextI s st).1 ≠ 0) : st.1 ≠ s.size ∧ (nextI s st).2.1 = st.1 + 1 := by
  by_cases he : st.1 = s.size
  · rw [nextI_end he] at h; exact absurd rfl h
  · rw [nextI_in he]; exact ⟨he, rfl⟩
def joinK (sign out part : Nat) (r : Nat → Nat) (k : Nat) : Nat → Nat := fun v => if v < k ∧ sign = 42 then r v ||| (if part.testBit v then out else 0) ||| (if out.testBit v then part else 0) else r v
theorem joinK_zero (sign out part : Nat) (r : Nat → Nat) : joinK sign out part r 0 = r := by
  funext v; unfold joinK; rw [if_neg (by omega)]
theorem joinK_no {sign : Nat} (h : sign ≠ 42) (out part : Nat) (r : Nat → Nat) (k : Nat) : joinK sign out part r k = r := by
  funext v; unfold joinK; rw [if_neg (fun hh => h hh.2)]
theorem joinK_succ (out part : Nat) (r : Nat → Nat) (k : Nat) : joinK 42 out part r (k + 1) = updR (joinK 42 out part r k) k (r k ||| (if part.testBit k then out else 0) ||| (if out.testBit k then part else 0)) := by
  funext v
  unfold updR joinK
  by_cases h : v = k
  · subst h
    have c1 : v < v + 1 ∧ 42 = 42 := ⟨by omega, rfl⟩
    rw [if_pos c1, if_pos rfl]
  · have c3 : ¬ v = k := h
    rw [if_neg c3]
    by_cases h2 : v < k
    · have c1 : v < k + 1 ∧ 42 = 42 := ⟨by omega, rfl⟩
      have c2 : v < k ∧ 42 = 42 := ⟨h2, rfl⟩
      rw [if_pos c1, if_pos c2]
    · have c1 : ¬ (v < k + 1 ∧ 42 = 42) := fun hh => by omega
      have c2 : ¬ (v < k ∧ 42 = 42) := fun hh => h2 hh.1
      rw [if_neg c1, if_neg c2]
theorem joinK_at (sign out part : Nat) (r : Nat → Nat) (k : Nat) : joinK sign out part r k k = r k := by
  unfold joinK; rw [if_neg (by omega)]
theorem updR_self (r : Nat → Nat) (k : Nat) : updR r k (r k) = r := by
  funext v; unfold updR; split
  · rename_i h; rw [h]
  · rfl
def loopI (s : ByteArray) (g : RSt → Nat × RSt) (sign : Nat) : Nat → RSt → Nat → Nat × RSt
  | 0, st, out => (out, st)
  | k + 1, st, out => if st.2.2 = true then (out, st) else
      if (nextI s st).1 = 32 then loopI s g sign k ((g (nextI s st).2).2.1, joinK sign out (g (nextI s st).2).1 (g (nextI s st).2).2.2.1 7, (g (nextI s st).2).2.2.2) (out ||| (g (nextI s st).2).1)
      else (out, (nextI s st).2)
def setI (s : ByteArray) : Nat → RSt → Nat × RSt
  | 0, st => (0, st)
  | f + 1, st => if (nextI s st).1 = 40 then loopI s (setI s f) (nextI s (nextI s st).2).1 (s.size + 1) (nextI s (nextI s st).2).2 0
      else if (nextI s st).2.2.2 = true ∨ ¬ (48 ≤ (nextI s st).1 ∧ (nextI s st).1 ≤ 54) then (0, ((nextI s st).2.1, (nextI s st).2.2.1, true)) else (2 ^ ((nextI s st).1 - 48), (nextI s st).2)
def BdR (st : RSt) : Prop := ∀ v, st.2.1 v < 128
theorem nextI_ok {s : ByteArray} {st : RSt} (h : st.1 ≤ s.size) (hb : BdR st) : st.1 ≤ (nextI s st).2.1 ∧ (nextI s st).2.1 ≤ s.size ∧ BdR (nextI s st).2 ∧ (nextI s st).1 < 256 := by
  by_cases he : st.1 = s.size
  · rw [nextI_end he]; exact ⟨Nat.le_refl _, h, hb, by show 0 < 256; omega⟩
  · rw [nextI_in he]; exact ⟨by dsimp only; omega, by dsimp only; omega, hb, byteAt_lt _ _⟩
theorem joinK_lt {sign out part : Nat} {r : Nat → Nat} {k : Nat} (ho : out < 128) (hp : part < 128) (hr : ∀ v, r v < 128) : ∀ v, joinK sign out part r k v < 128 := fun v => by
  unfold joinK
  split
  · refine or_lt128 (or_lt128 (hr v) ?_) ?_
    · split <;> omega
    · split <;> omega
  · exact hr v
def OkG (s : ByteArray) (g : RSt → Nat × RSt) : Prop := ∀ st, st.1 ≤ s.size → BdR st → st.1 ≤ (g st).2.1 ∧ (g st).2.1 ≤ s.size ∧ BdR (g st).2 ∧ (g st).1 < 128
theorem loopI_ok {s : ByteArray} {g : RSt → Nat × RSt} (hg : OkG s g) (sign : Nat) : ∀ k st out, st.1 ≤ s.size → BdR st → out < 128 → st.1 ≤ (loopI s g sign k st out).2.1 ∧ (loopI s g sign k st out).2.1 ≤ s.size ∧ BdR (loopI s g sign k st out).2 ∧ (loopI s g sign k st out).1 < 128 := by
  intro k
  induction k with
  | zero => intro st out h1 h2 h3; exact ⟨Nat.le_refl _, h1, h2, h3⟩
  | succ k ih =>
    intro st out h1 h2 h3
    unfold loopI
    split
    · exact ⟨Nat.le_refl _, h1, h2, h3⟩
    · obtain ⟨n1, n2, n3, n4⟩ := nextI_ok h1 h2
      split
      · obtain ⟨g1, g2, g3, g4⟩ := hg _ n2 n3
        obtain ⟨i1, i2, i3, i4⟩ := ih ((g (nextI s st).2).2.1, joinK sign out (g (nextI s st).2).1 (g (nextI s st).2).2.2.1 7, (g (nextI s st).2).2.2.2) (out ||| (g (nextI s st).2).1) g2 (joinK_lt h3 g4 g3) (or_lt128 h3 g4)
        exact ⟨by dsimp only at i1; omega, i2, i3, i4⟩
      · exact ⟨n1, n2, n3, h3⟩
theorem setI_ok (s : ByteArray) : ∀ f, OkG s (setI s f) := by
  intro f
  induction f with
  | zero => intro st h1 h2; exact ⟨Nat.le_refl _, h1, h2, by show 0 < 128; omega⟩
  | succ f ih =>
    intro st h1 h2
    obtain ⟨n1, n2, n3, n4⟩ := nextI_ok h1 h2
    unfold setI
    split
    · obtain ⟨m1, m2, m3, m4⟩ := nextI_ok n2 n3
      obtain ⟨i1, i2, i3, i4⟩ := loopI_ok ih (nextI s (nextI s st).2).1 (s.size + 1) (nextI s (nextI s st).2).2 0 m2 m3 (by omega)
      exact ⟨by omega, i2, i3, i4⟩
    · split
      · exact ⟨n1, n2, n3, by show 0 < 128; omega⟩
      · rename_i hh
        refine ⟨n1, n2, n3, ?_⟩
        have : (nextI s st).1 - 48 ≤ 6 := by omega
        exact Nat.lt_of_le_of_lt (Nat.pow_le_pow_right (by omega) this) (by decide)
def rowsI (n : Nat) (r : Nat → Nat) : List Int := (List.range n).map fun v => (r v : Int)
theorem rowsI_length (n : Nat) (r : Nat → Nat) : (rowsI n r).length = n := by simp [rowsI]
theorem toList_beq (a b : ByteArray) : (a.toList == b.toList) = decide (a = b) := by
  rw [ByteArray.toList_eq, ByteArray.toList_eq]
  by_cases h : a = b
  · subst h; simp
  · rw [decide_eq_false h, beq_eq_false_iff_ne]
    exact fun hh => h (Go.WideShapes.bytes_inj hh)
def cogb (size : Int) (rows : List Int) : Bool := decide (IsG size rows ∧ pathX size rows 4 = none)
def gocA (s : ByteArray) : Nat × RSt := setI s 101 (0, fun _ => 0, false)
def gocN (s : ByteArray) : Nat := cntN (gocA s).1
def gocR (s : ByteArray) : List Int := rowsI (gocN s) (gocA s).2.2.1
def gocB (s : ByteArray) : Bool := decide (s.size ≤ 100) && (!(gocA s).2.2.2 && (cogb (gocN s) (gocR s) && decide (cotX (gocN s) (gocR s) = s)))
def gocZ (s : ByteArray) : Int := if gocB s = true then gocN s else 0
def gocL (s : ByteArray) : List Int := if gocB s = true then gocR s else []
theorem gocA_ok (s : ByteArray) : (gocA s).2.1 ≤ s.size ∧ BdR (gocA s).2 ∧ (gocA s).1 < 128 := by
  obtain ⟨_, h1, h2, h3⟩ := setI_ok s 101 (0, fun _ => 0, false) (Nat.zero_le _) (fun v => by show 0 < 128; omega)
  exact ⟨h1, h2, h3⟩
end Go.Pw
/- The readers of a cograph's tree, as functions: the reference's. -/
namespace Go.Pw
open Go Go.RowKit
abbrev Rel := Nat → Nat → Bool
def SymP (P : Rel) : Prop := ∀ x y, P x y = P y x
def IrrP (P : Rel) : Prop := ∀ x, P x x = false
def crS (set part x y : Nat) : Bool := set.testBit x && part.testBit y
def joinW (sign set part : Nat) (P : Rel) : Rel := fun x y => P x y || (decide (sign = 42) && (crS set part x y || crS set part y x))
theorem joinW_no {sign : Nat} (h : sign ≠ 42) (set part : Nat) (P : Rel) : joinW sign set part P = P := by
  funext x y; unfold joinW; rw [decide_eq_false h]; simp
def loopS (s : ByteArray) (g : Nat → Rel → Option (Rel × Nat × Nat)) (sign : Nat) : Nat → Nat → Rel → Nat → Option (Rel × Nat × Nat)
  | 0, _, _, _ => none
  | k + 1, i, P, set => if i < s.size ∧ byteAt s i = 32 then
      match g (i + 1) P with
      | none => none
      | some (P', part, next) => if part &&& set = 0 then loopS s g sign k next (joinW sign set part P') (set ||| part) else none
      else if i < s.size ∧ byteAt s i = 41 then some (P, set, i + 1) else none
def rdS (s : ByteArray) : Nat → Nat → Rel → Option (Rel × Nat × Nat)
  | 0, _, _ => none
  | f + 1, i, P => if s.size ≤ i then none
      else if 48 ≤ byteAt s i ∧ byteAt s i ≤ 54 then some (P, 2 ^ (byteAt s i - 48), i + 1)
      else if byteAt s i = 40 ∧ i + 1 < s.size ∧ (byteAt s (i + 1) = 43 ∨ byteAt s (i + 1) = 42) then loopS s (rdS s f) (byteAt s (i + 1)) (s.size + 1) (i + 2) P 0
      else none
theorem and_bit {a b : Nat} (h : a &&& b = 0) (x : Nat) : (a.testBit x && b.testBit x) = false := by
  have := congrArg (fun z => z.testBit x) h
  simpa [Nat.testBit_and] using this
theorem joinW_sym {sign set part : Nat} {P : Rel} (h : SymP P) : SymP (joinW sign set part P) := fun x y => by
  unfold joinW; rw [h x y, Bool.or_comm (crS set part x y)]
theorem joinW_irr {sign set part : Nat} {P : Rel} (h : IrrP P) (hd : part &&& set = 0) : IrrP (joinW sign set part P) := fun x => by
  have := and_bit hd x
  unfold joinW crS
  rw [h x, Bool.and_comm (set.testBit x), this]; simp
def OkR (s : ByteArray) (g : Nat → Rel → Option (Rel × Nat × Nat)) : Prop := ∀ i P r, SymP P → IrrP P → g i P = some r → SymP r.1 ∧ IrrP r.1 ∧ r.2.1 < 128 ∧ i < r.2.2 ∧ r.2.2 ≤ s.size
theorem loopS_ok {s : ByteArray} {g : Nat → Rel → Option (Rel × Nat × Nat)} (hg : OkR s g) (sign : Nat) : ∀ k i P set r, SymP P → IrrP P → set < 128 → loopS s g sign k i P set = some r → SymP r.1 ∧ IrrP r.1 ∧ r.2.1 < 128 ∧ i < r.2.2 ∧ r.2.2 ≤ s.size := by
  intro k
  induction k with
  | zero => intro i P set r _ _ _ h; cases h
  | succ k ih =>
    intro i P set r h1 h2 h3 h
    unfold loopS at h
    split at h
    · split at h
      · cases h
      · rename_i P' part next he
        obtain ⟨g1, g2, g3, g4, g5⟩ := hg _ _ _ h1 h2 he
        dsimp only at g1 g2 g3 g4 g5
        split at h
        · rename_i hd
          obtain ⟨a1, a2, a3, a4, a5⟩ := ih next _ _ r (joinW_sym g1) (joinW_irr g2 hd) (or_lt128 h3 g3) h
          exact ⟨a1, a2, a3, by omega, a5⟩
        · cases h
    · split at h
      · rename_i hc
        obtain rfl := Option.some.inj h
        exact ⟨h1, h2, h3, by dsimp only; omega, by dsimp only; omega⟩
      · cases h
theorem rdS_ok (s : ByteArray) : ∀ f, OkR s (rdS s f) := by
  intro f
  induction f with
  | zero => intro i P r _ _ h; cases h
  | succ f ih =>
    intro i P r h1 h2 h
    unfold rdS at h
    split at h
    · cases h
    · split at h
      · rename_i hl hd
        obtain rfl := Option.some.inj h
        refine ⟨h1, h2, ?_, by dsimp only; omega, by dsimp only; omega⟩
        exact Nat.lt_of_le_of_lt (Nat.pow_le_pow_right (by omega) (show byteAt s i - 48 ≤ 6 by omega)) (by decide)
      · split at h
        · obtain ⟨a1, a2, a3, a4, a5⟩ := loopS_ok ih _ _ _ _ _ r h1 h2 (by omega) h
          exact ⟨a1, a2, a3, by omega, a5⟩
        · cases h
def befP (v w x y : Nat) : Bool := decide (x < v ∨ x = v ∧ y < w)
def prP (set part : Nat) (P : Rel) (v w : Nat) : Rel := fun x y => P x y || ((crS set part x y && befP v w x y) || (crS set part y x && befP v w y x))
theorem prP_sym {set part : Nat} {P : Rel} (h : SymP P) (v w : Nat) : SymP (prP set part P v w) := fun x y => by
  unfold prP; rw [h x y, Bool.or_comm (crS set part x y && befP v w x y)]
theorem prP_irr {set part : Nat} {P : Rel} (h : IrrP P) (hd : part &&& set = 0) (v w : Nat) : IrrP (prP set part P v w) := fun x => by
  have := and_bit hd x
  unfold prP crS
  rw [h x, Bool.and_comm (set.testBit x), this]; simp
theorem prP_zero (set part : Nat) (P : Rel) : prP set part P 0 0 = P := by
  funext x y; simp [prP, befP]
theorem befP_succ (v u x y : Nat) : befP v (u + 1) x y = (befP v u x y || decide (x = v ∧ y = u)) := by
  unfold befP
  rw [← Bool.decide_or]
  apply decide_eq_decide.2
  omega
theorem prP_add {set part : Nat} {P : Rel} {v u : Nat} (h : crS set part v u = true) : pairAdd (prP set part P v u) v u = prP set part P v (u + 1) := by
  funext x y
  unfold pairAdd prP
  rw [befP_succ, befP_succ]
  by_cases h1 : x = v ∧ y = u
  · obtain ⟨rfl, rfl⟩ := h1
    rw [h]; simp
  · by_cases h2 : x = u ∧ y = v
    · obtain ⟨rfl, rfl⟩ := h2
      rw [h]; simp
    · have h3 : ¬ (y = v ∧ x = u) := fun hh => h2 ⟨hh.2, hh.1⟩
      simp [h1, h2, h3]
theorem prP_skip {set part : Nat} {P : Rel} {v u : Nat} (h : crS set part v u = false) : prP set part P v (u + 1) = prP set part P v u := by
  funext x y
  unfold prP
  rw [befP_succ, befP_succ]
  by_cases h1 : x = v ∧ y = u
  · obtain ⟨rfl, rfl⟩ := h1
    rw [h]
    by_cases h2 : y = x
    · subst h2; rw [h]; simp
    · simp [h2]
  · by_cases h2 : y = v ∧ x = u
    · obtain ⟨rfl, rfl⟩ := h2
      rw [h]; simp [h1]
    · simp [h1, h2]
theorem prP_row {set part : Nat} {P : Rel} {v n : Nat} {x y : Nat} (hx : x < n) (hy : y < n) : prP set part P v n x y = prP set part P (v + 1) 0 x y := by
  have b : ∀ a b, b < n → befP v n a b = befP (v + 1) 0 a b := fun a b hb => by
    unfold befP; apply decide_eq_decide.2; omega
  unfold prP
  rw [b x y hy, b y x hx]
theorem prP_all {set part : Nat} {P : Rel} {n : Nat} {x y : Nat} (hx : x < n) (hy : y < n) : prP set part P n 0 x y = joinW 42 set part P x y := by
  have b : ∀ a b, a < n → befP n 0 a b = true := fun a b ha => by unfold befP; exact decide_eq_true (.inl ha)
  unfold prP joinW
  rw [b x y hx, b y x hy]; simp
end Go.Pw
/- AddEdge, whether the edge is there or not. -/
namespace Go.Proofs.YtmmflnigejfplaaGreat
open Go Go.RowKit Go.Pw
set_option maxHeartbeats 1000000 in
theorem s_AddEdge2_c (n : Nat) (gv : Value) (P : Nat → Nat → Bool) (v u : Nat) (w : World) (hr : Arr w gv (ints (gRows n P))) (h1 : 1 ≤ n) (hn : n ≤ 7) (hs : SymP P) (hi : IrrP P)
    (hv : v < n) (hu : u < n) (hvu : v ≠ u) :
    Gives Tryz.prog 50 #[.agg #[.int .i64 n, gv], .int .i64 v, .int .i64 u] w (fun x objs => ∃ sv' bb, x = .tuple #[.agg #[.int .i64 n, sv'], .bool bb] ∧ objs = [.row 3 sv' (ints (gRows n (pairAdd P v u)))]) := by
  by_cases hP : P v u = false
  · have := s_AddEdge_c n gv P v u w hr h1 hn hs hi hv hu hvu hP
    exact ⟨this.entry, this.out.mono fun e w' ⟨x, objs, he, ⟨sv', hx, ho⟩, hc⟩ => ⟨x, objs, he, ⟨sv', true, hx, ho⟩, hc⟩⟩
  have hP' : P v u = true := by simpa using hP
  have hg := gRows_isG h1 hn hs hi
  have hlen : (gRows n P).length = n := gRows_length n P
  have hhas := gRows_has hn P hv hu
  have hvu' : (v : Int) ≠ u := by omega
  have he : gRows n (pairAdd P v u) = gRows n P := gRows_congr fun i j _ _ => by
    unfold pairAdd
    by_cases h3 : i = v ∧ j = u
    · obtain ⟨rfl, rfl⟩ := h3; rw [hP']; rfl
    · by_cases h4 : i = u ∧ j = v
      · obtain ⟨rfl, rfl⟩ := h4; rw [hs, hP']; rfl
      · simp [h3, h4]
  rw [he]
  have kE : ∀ sv w', Arr w' sv (ints (gRows n P)) → Pure Tryz.prog 65 #[.agg #[.int .i64 n, sv], .int .i64 v, .int .i64 u] w' (.bool true) := fun sv w' h => by
    have := s_l2Edge_c n sv (gRows n P) v u w' h (by omega) (by omega)
    rw [show hasB ((gRows n P).getD (Int.toNat (v : Int)) 0) (u : Int) = P v u from hhas, hP'] at this; exact this
  refine gives_enter (args := [_, _, _]) en_s_AddEdge Tryz.func50 rfl Tryz.ntmps50 rfl ?_
  repeat' (first | apply pwp_seq | apply pwp_region | (apply px_run; (first | (apply opv_move; first | exact hid_int rfl | exact hid_bool rfl) | (apply opv_assign; first | exact hid_bool rfl) | (apply opv_pick_f <;> rfl) | (apply opv_not <;> rfl) | (apply opv_load_str 0 st_G; rfl; rfl; rfl) | (apply opv_load_str 1 st_G; rfl; rfl; rfl) | (apply opv_load_str 3 st_G; rfl; rfl; rfl) | (apply opv_call; rfl; rfl; exact Cl.stable _ _ _; exact fun w hw => s_l2Pair_c _ _ _ _ _ _ (by first | exact hw.arr (by assumption)) hg (by omega) (by omega) hvu') | (apply opv_call; rfl; rfl; exact Cl.stable _ _ _; exact fun w hw => kE _ _ (by first | exact hw.arr (by assumption)))); rfl; rfl) | apply px_nil | apply qseq_normal | apply qseq_ret | apply pwp_ret | (apply pwp_cond_t; rfl) | (apply px_box; rfl; rfl; rfl; rfl; intro bk) | (apply px_alloc st_G; rfl; rfl; rfl; intro bk) | (apply px_store_str 0 st_G; rfl; rfl; rfl; rfl; rfl; (intro w hw; (first | refine all2 rfl ?_ ?_) <;> (first | rfl | exact stor_row 1 hw rfl)); rfl) | (apply px_store_str 2 st_G; rfl; rfl; rfl; rfl; rfl; (intro w hw; (first | refine all2 rfl ?_ ?_) <;> (first | rfl | exact stor_row 1 hw rfl)); rfl) | (apply px_gives; rfl; rfl; rfl; rfl; rfl; exact fun w hw => s_l2Copy_c _ _ (gRows n P) _ (by first | exact hw.arr (by assumption)) (by omega); rintro _ _ ⟨sc, rfl, rfl⟩))
  refine qbody_cell_tmp 2 rfl st_G rfl rfl rfl rfl ⟨_, ⟨sc, false, rfl, rfl⟩, fun w' h => ?_⟩
  exact Cl.sub (by assumption) (by repeat (first | exact List.Sublist.slnil | exact List.Sublist.refl _ | apply List.Sublist.cons_cons | exact List.sublist_append_left _ _ | exact List.sublist_append_right _ _ | apply List.Sublist.cons))
theorem s_AddEdge3_c (n : Nat) (gv : Value) (P : Nat → Nat → Bool) (v u : Nat) (w : World) (hr : Arr w gv (ints (gRows n P))) (h1 : 1 ≤ n) (hn : n ≤ 7) (hs : SymP P) (hi : IrrP P)
    (hv : v < n) (hu : u < n) (hvu : v ≠ u) :
    Gives Tryz.prog 50 #[.agg #[.int .i64 n, gv], .int .i64 v, .int .i64 u] w (fun x objs => ∃ sv' bb, storable sv' = true ∧ x = .tuple #[.agg #[.int .i64 n, sv'], .bool bb] ∧ objs = [.row 3 sv' (ints (gRows n (pairAdd P v u)))]) := by
  have := s_AddEdge2_c n gv P v u w hr h1 hn hs hi hv hu hvu
  refine ⟨this.entry, this.out.mono fun e w' ⟨x, objs, he, ⟨sv', bb, hx, ho⟩, hc⟩ => ⟨x, objs, he, ⟨sv', bb, ?_, hx, ho⟩, hc⟩⟩
  subst ho
  exact stor_arr (arr_of_row (hc.holds _ (List.mem_singleton_self _)))
theorem s_l2PairNo_c (size : Int) (sv : Value) (rows : List Int) (v : Int) (w : World) (hr : Arr w sv (ints rows)) :
    Pure Tryz.prog 82 #[.agg #[.int .i64 size, sv], .int .i64 v, .int .i64 v] w (.bool false) := by
  refine pure_enter (args := [_, _, _]) en_s_l2Pair Tryz.func82 rfl Tryz.ntmps82 rfl ?_
  repeat' (first | apply pwp_seq | apply pwp_region | (apply px_run; (first | (apply opv_move; first | exact hid_int rfl | exact hid_bool rfl) | (apply opv_assign; first | exact hid_bool rfl) | (apply opv_lss <;> rfl) | (apply opv_geq <;> rfl) | (apply opv_neq <;> rfl) | (apply opv_pick_t <;> rfl) | (apply opv_pick_f <;> rfl) | (apply opv_field fld_G0; rfl) | (apply opv_load_blk 0; (first | with_reducible exact sc_int); rfl; rfl; rfl) | (apply opv_load_str 0 st_G; rfl; rfl; rfl) | (apply opv_call; rfl; rfl; exact Cl.stable _ _ _; exact fun w hw => s_IsGraph_c _ _ rows _ (by first | exact hw.arr (by assumption)))); rfl; rfl) | apply px_nil | (apply px_skip; rfl; rfl) | apply qseq_normal | apply pwp_ret | (apply px_guard_dec; rfl; rfl; rfl; all_goals (intro hc; try (first | contradiction))) | (apply px_box; rfl; rfl; rfl; rfl; intro bk))
  all_goals refine qbody_ret1 (v := .bool _) rfl rfl ⟨by first | rfl | (congr 1; simp_all), fun _ h => h.below⟩
theorem s_AddEdge4_c (n : Nat) (gv : Value) (P : Nat → Nat → Bool) (v u : Int) (w : World) (hr : Arr w gv (ints (gRows n P))) (h1 : 1 ≤ n) (hn : n ≤ 7) (hs : SymP P) (hi : IrrP P)
    (hv : 0 ≤ v ∧ v < n) (hu : 0 ≤ u ∧ u < n) :
    Gives Tryz.prog 50 #[.agg #[.int .i64 n, gv], .int .i64 v, .int .i64 u] w (fun x objs => ∃ sv' bb P', (SymP P' ∧ IrrP P') ∧ storable sv' = true ∧ x = .tuple #[.agg #[.int .i64 n, sv'], .bool bb] ∧ objs = [.row 3 sv' (ints (gRows n P'))]) := by
  obtain ⟨a, rfl⟩ : ∃ a : Nat, v = (a : Int) := ⟨v.toNat, by omega⟩
  obtain ⟨b, rfl⟩ : ∃ b : Nat, u = (b : Int) := ⟨u.toNat, by omega⟩
  by_cases hab : a = b
  case neg =>
    have := s_AddEdge3_c n gv P a b w hr h1 hn hs hi (by omega) (by omega) hab
    refine ⟨this.entry, this.out.mono fun e w' ⟨x, objs, he, ⟨sv', bb, h3, hx, ho⟩, hc⟩ => ⟨x, objs, he, ⟨sv', bb, pairAdd P a b, ⟨fun x y => ?_, fun x => ?_⟩, h3, hx, ho⟩, hc⟩⟩
    · unfold pairAdd
      rw [hs x y]
      congr 1
      rw [Bool.or_comm]
      congr 1
      · exact decide_eq_decide.2 ⟨fun h => ⟨h.2, h.1⟩, fun h => ⟨h.2, h.1⟩⟩
      · exact decide_eq_decide.2 ⟨fun h => ⟨h.2, h.1⟩, fun h => ⟨h.2, h.1⟩⟩
    · unfold pairAdd
      rw [hi x, decide_eq_false (fun h => hab (by omega)), decide_eq_false (fun h => hab (by omega))]; rfl
  subst hab
  have hlen : (gRows n P).length = n := gRows_length n P
  have key : Gives Tryz.prog 50 #[.agg #[.int .i64 n, gv], .int .i64 a, .int .i64 a] w (fun x objs => ∃ sv', x = .tuple #[.agg #[.int .i64 n, sv'], .bool false] ∧ objs = [.row 3 sv' (ints (gRows n P))]) := by
    refine gives_enter (args := [_, _, _]) en_s_AddEdge Tryz.func50 rfl Tryz.ntmps50 rfl ?_
    repeat' (first | apply pwp_seq | apply pwp_region | (apply px_run; (first | (apply opv_move; first | exact hid_int rfl | exact hid_bool rfl) | (apply opv_assign; first | exact hid_bool rfl) | (apply opv_pick_t <;> rfl) | (apply opv_not <;> rfl) | (apply opv_load_str 0 st_G; rfl; rfl; rfl) | (apply opv_load_str 1 st_G; rfl; rfl; rfl) | (apply opv_load_str 3 st_G; rfl; rfl; rfl) | (apply opv_call; rfl; rfl; exact Cl.stable _ _ _; exact fun w hw => s_l2PairNo_c _ _ (gRows n P) _ _ (by first | exact hw.arr (by assumption)))); rfl; rfl) | apply px_nil | (apply px_skip; rfl; rfl) | apply qseq_normal | apply qseq_ret | apply pwp_ret | (apply pwp_cond_t; rfl) | (apply px_box; rfl; rfl; rfl; rfl; intro bk) | (apply px_alloc st_G; rfl; rfl; rfl; intro bk) | (apply px_store_str 0 st_G; rfl; rfl; rfl; rfl; rfl; (intro w hw; (first | refine all2 rfl ?_ ?_) <;> (first | rfl | exact stor_row 1 hw rfl)); rfl) | (apply px_store_str 2 st_G; rfl; rfl; rfl; rfl; rfl; (intro w hw; (first | refine all2 rfl ?_ ?_) <;> (first | rfl | exact stor_row 1 hw rfl)); rfl) | (apply px_gives; rfl; rfl; rfl; rfl; rfl; exact fun w hw => s_l2Copy_c _ _ (gRows n P) _ (by first | exact hw.arr (by assumption)) (by omega); rintro _ _ ⟨sc, rfl, rfl⟩))
    refine qbody_cell_tmp 2 rfl st_G rfl rfl rfl rfl ⟨_, ⟨sc, rfl, rfl⟩, fun w' h => ?_⟩
    exact Cl.sub (by assumption) (by repeat (first | exact List.Sublist.slnil | exact List.Sublist.refl _ | apply List.Sublist.cons_cons | exact List.sublist_append_left _ _ | exact List.sublist_append_right _ _ | apply List.Sublist.cons))
  refine ⟨key.entry, key.out.mono fun e w' ⟨x, objs, he, ⟨sv', hx, ho⟩, hc⟩ => ⟨x, objs, he, ⟨sv', false, P, ⟨hs, hi⟩, ?_, hx, ho⟩, hc⟩⟩
  subst ho
  exact stor_arr (arr_of_row (hc.holds _ (List.mem_singleton_self _)))
end Go.Proofs.YtmmflnigejfplaaGreat
/- Draws: graphs. -/
namespace Go.Proofs.YtmmflnigejfplaaGreat
open Go Go.RowKit Go.Pw
/-- A graph of n vertices beside the cursor. -/
def GrP (cv : Value) (l : List Int) (cb : Nat) (n : Nat) (v : Value) (new : List Ob) : Prop := ∃ gv P i h, (SymP P ∧ IrrP P) ∧ storable gv = true ∧ v = .agg #[.int .i64 n, gv] ∧ (0 ≤ i ∧ i ≤ (l.length : Int)) ∧ new = [.row 3 gv (ints (gRows n P)), .blk cb (cells3 cv i h)]
theorem en_s_l2Random : Entry Tryz.prog 102 := ⟨_, Tryz.func102, by kernel_rfl, rfl⟩
set_option maxRecDepth 100000 in
set_option maxHeartbeats 1600000 in
theorem s_l2Random_c (cv : Value) (l : List Int) (cb : Nat) (i h odd : Int) (n : Nat) (w : World) (hcp : CodeP w cv l) (hi : 0 ≤ i ∧ i ≤ (l.length : Int)) (ho : Own w [.blk cb (cells3 cv i h)]) (h1 : 1 ≤ n) (hn : n ≤ 7) :
    GivesU Tryz.prog 102 #[.pointer (some ⟨cb, 0, none⟩), .int .i64 n, .int .i64 odd] w [.blk cb (cells3 cv i h)] (fun v new => GrP cv l cb n v new) := by
  have hap := code_apart hcp ho
  refine givesU_enterX (X := [cb]) (args := [_, _, _]) rfl ho en_s_l2Random Tryz.func102 rfl Tryz.ntmps102 rfl ?_
  have hg0 : gRows n (fun _ _ => false) = List.replicate n 0 := gRows_none (fun _ _ _ _ => rfl)
  have hrep : ints (List.replicate n 0) = List.replicate n (Value.int .i64 0) := by simp [ints]
  repeat' (first | apply pwp_seq | apply pwp_region | (apply px_run; (first | (apply opv_move; first | exact hid_int rfl) | (apply opv_assign; first | exact hid_int rfl) | (apply opv_build2 bl_G; rfl; rfl; (first | exact rd_row 0 rfl))); rfl; rfl) | apply px_nil | apply qseq_normal | apply pwp_block | (apply px_alloc st_G; rfl; rfl; rfl; intro bk) | (apply px_store_str 0 st_G; rfl; rfl; rfl; rfl; rfl; (intro w hw; (first | refine all2 rfl ?_ ?_) <;> (first | rfl | exact stor_row 1 hw rfl)); rfl) | (apply px_make ez_int; rfl; rfl; rfl; rfl; rfl; omega; (simp only [maxLen]; omega); intro sv))
  rename_i b6
  refine pwp_fact (φ := storable sv = true) (fun w' hw => by first | exact stor_row 0 hw rfl | exact stor_row 1 hw rfl | exact stor_row 2 hw rfl | exact stor_row 3 hw rfl) (fun hsv => ?_)
  refine pwp_loop (τ := Nat × Value × Rel × Int × Int) [(8,9), (14,36)] (fun x => [(8, .int .i64 (x.1 : Nat))]) (fun x => Cl [cb] w [.blk bk [.int .i64 n, x.2.1], .row 3 x.2.1 (ints (gRows n x.2.2.1)), .blk b6 [.int .i64 0, .slice none 0 0], .blk cb (cells3 cv x.2.2.2.1 x.2.2.2.2)])
    (fun x => x.1 ≤ n ∧ (SymP x.2.2.1 ∧ IrrP x.2.2.1) ∧ storable x.2.1 = true ∧ (0 ≤ x.2.2.2.1 ∧ x.2.2.2.1 ≤ (l.length : Int))) (fun x => n - x.1) (0, sv, (fun _ _ => false), i, h)
    ⟨rfl, trivial⟩ ⟨Nat.zero_le _, ⟨fun _ _ => rfl, fun _ => rfl⟩, hsv, hi⟩ (fun w' hw => by dsimp only; rw [hg0, hrep]; (have h := hw); exact Cl.ofSel (by assumption) (by repeat (first | exact sel_nil | refine sel_cons 0 rfl ?_ | refine sel_cons 1 rfl ?_ | refine sel_cons 2 rfl ?_ | refine sel_cons 3 rfl ?_ | refine sel_cons 4 rfl ?_ | refine sel_cons 5 rfl ?_ | refine sel_cons 6 rfl ?_ | refine sel_cons 7 rfl ?_ | refine sel_cons 8 rfl ?_ | refine sel_cons 9 rfl ?_ | refine sel_cons 10 rfl ?_ | refine sel_cons 11 rfl ?_ | refine sel_cons 12 rfl ?_ | refine sel_cons 13 rfl ?_))) (fun J x hx => ?_)
  obtain ⟨v, gv, P, i2, h2⟩ := x
  obtain ⟨v1, v2, v3, v4⟩ := hx
  dsimp only at v1 v2 v3 v4 ⊢
  by_cases hvn : v < n
  · repeat' (first | apply pwp_seq | apply pwp_region | (apply px_run; (first | (apply opv_move; first | exact hid_int rfl) | (apply opv_assign; first | exact hid_int rfl) | (apply opv_lss <;> rfl) | (apply opv_add_in; rfl; rfl; omega)); rfl; rfl) | apply px_nil | apply qseq_normal | apply pwp_block | apply pwp_skip | (apply pwp_cond_dec; rfl; all_goals (intro hc; try (first | (exfalso; omega)))))
    refine pwp_loop (τ := Nat × Value × Rel × Int × Int) [(9,9), (21,36)] (fun x => [(9, .int .i64 (x.1 : Nat))]) (fun x => Cl [cb] w [.blk bk [.int .i64 n, x.2.1], .row 3 x.2.1 (ints (gRows n x.2.2.1)), .blk b6 [.int .i64 0, .slice none 0 0], .blk cb (cells3 cv x.2.2.2.1 x.2.2.2.2)])
      (fun x => v < x.1 ∧ x.1 ≤ n ∧ (SymP x.2.2.1 ∧ IrrP x.2.2.1) ∧ storable x.2.1 = true ∧ (0 ≤ x.2.2.2.1 ∧ x.2.2.2.1 ≤ (l.length : Int))) (fun x => n - x.1) (v + 1, gv, P, i2, h2)
      ⟨rfl, trivial⟩ ⟨Nat.lt_succ_self _, hvn, v2, v3, v4⟩ (fun w' hw => (by have h := hw; exact Cl.ofSel (by assumption) (by repeat (first | exact sel_nil | refine sel_cons 0 rfl ?_ | refine sel_cons 1 rfl ?_ | refine sel_cons 2 rfl ?_ | refine sel_cons 3 rfl ?_ | refine sel_cons 4 rfl ?_ | refine sel_cons 5 rfl ?_ | refine sel_cons 6 rfl ?_ | refine sel_cons 7 rfl ?_ | refine sel_cons 8 rfl ?_ | refine sel_cons 9 rfl ?_ | refine sel_cons 10 rfl ?_ | refine sel_cons 11 rfl ?_ | refine sel_cons 12 rfl ?_ | refine sel_cons 13 rfl ?_)))) (fun J2 x hx => ?_)
    obtain ⟨u, gu, P2, i3, h3⟩ := x
    obtain ⟨u0, u1, u2, u3, u4⟩ := hx
    dsimp only at u0 u1 u2 u3 u4 ⊢
    by_cases hun : u < n
    · have kA := fun w' ha => s_AddEdge4_c n gu P2 v u w' ha h1 hn u2.1 u2.2 (by omega) (by omega)
      repeat' (first | apply pwp_seq | apply pwp_region | (apply px_run; (first | (apply opv_move; first | exact hid_int rfl | exact hid_ptr rfl | rfl) | (apply opv_assign; first | exact hid_int rfl) | (apply opv_lss <;> rfl) | (apply opv_add_in; rfl; rfl; omega) | (apply opv_load_str 1 st_G; rfl; rfl; rfl) | (apply opv_extract; rfl; rfl)); rfl; rfl) | apply px_nil | apply qseq_normal | apply pwp_block | apply qblock_normal | apply pwp_skip | (apply pwp_cond_dec; rfl; all_goals (intro hc; try (first | (exfalso; omega)))) | (apply px_givesV [3]; rfl; rfl; rfl; rfl; rfl; (exact fun w' hw ho' => s_l1Below_c cv l cb _ _ _ w' (hcp.at hap hw) (by assumption) ho'); rintro _ _ ⟨x, hx, rfl, ⟨ci, ch, hi, rfl⟩⟩) | (apply px_store_str 2 st_G; rfl; rfl; rfl; rfl; rfl; (intro w hw; (first | refine all2 rfl ?_ ?_) <;> (first | rfl | assumption)); rfl) | (apply px_gives; rfl; rfl; rfl; rfl; rfl; exact fun w hw => kA _ (by first | exact hw.rowArr (k := 2) rfl); rintro _ _ ⟨sc, bb, P3, hP3, hsc, rfl, rfl⟩))
      · refine qround_normal ?_ ⟨(u + 1, sc, P3, _, _), ⟨rfl, trivial⟩, ⟨by dsimp only; omega, by dsimp only; omega, hP3, hsc, by assumption⟩, by dsimp only; omega, fun w' hw => (by have h := hw; exact Cl.ofSel (by assumption) (by repeat (first | exact sel_nil | refine sel_cons 0 rfl ?_ | refine sel_cons 1 rfl ?_ | refine sel_cons 2 rfl ?_ | refine sel_cons 3 rfl ?_ | refine sel_cons 4 rfl ?_ | refine sel_cons 5 rfl ?_ | refine sel_cons 6 rfl ?_ | refine sel_cons 7 rfl ?_ | refine sel_cons 8 rfl ?_ | refine sel_cons 9 rfl ?_ | refine sel_cons 10 rfl ?_ | refine sel_cons 11 rfl ?_ | refine sel_cons 12 rfl ?_ | refine sel_cons 13 rfl ?_)))⟩
        repeat (first | exact same_refl | refine same_upd rfl ?_ | refine same_junk rfl ?_)
      · refine qround_normal ?_ ⟨(u + 1, gu, P2, _, _), ⟨rfl, trivial⟩, ⟨by dsimp only; omega, by dsimp only; omega, u2, u3, by assumption⟩, by dsimp only; omega, fun w' hw => (by have h := hw; exact Cl.ofSel (by assumption) (by repeat (first | exact sel_nil | refine sel_cons 0 rfl ?_ | refine sel_cons 1 rfl ?_ | refine sel_cons 2 rfl ?_ | refine sel_cons 3 rfl ?_ | refine sel_cons 4 rfl ?_ | refine sel_cons 5 rfl ?_ | refine sel_cons 6 rfl ?_ | refine sel_cons 7 rfl ?_ | refine sel_cons 8 rfl ?_ | refine sel_cons 9 rfl ?_ | refine sel_cons 10 rfl ?_ | refine sel_cons 11 rfl ?_ | refine sel_cons 12 rfl ?_ | refine sel_cons 13 rfl ?_)))⟩
        repeat (first | exact same_refl | refine same_upd rfl ?_ | refine same_junk rfl ?_)
    · obtain rfl : u = n := by omega
      repeat' (first | apply pwp_seq | apply pwp_region | (apply px_run; (first | (apply opv_move; first | exact hid_int rfl) | (apply opv_assign; first | exact hid_int rfl) | (apply opv_lss <;> rfl) | (apply opv_add_in; rfl; rfl; omega)); rfl; rfl) | apply px_nil | apply qseq_normal | apply qseq_exit | apply qblock_normal | (apply qblock_exit_same; rfl) | apply pwp_exit | apply qround_exit | (apply pwp_cond_dec; rfl; all_goals (intro hc; try (first | (exfalso; omega)))))
      refine qround_normal ?_ ⟨(v + 1, gu, P2, i3, h3), ⟨rfl, trivial⟩, ⟨by dsimp only; omega, u2, u3, u4⟩, by dsimp only; omega, fun w' hw => (by have h := hw; exact Cl.ofSel (by assumption) (by repeat (first | exact sel_nil | refine sel_cons 0 rfl ?_ | refine sel_cons 1 rfl ?_ | refine sel_cons 2 rfl ?_ | refine sel_cons 3 rfl ?_ | refine sel_cons 4 rfl ?_ | refine sel_cons 5 rfl ?_ | refine sel_cons 6 rfl ?_ | refine sel_cons 7 rfl ?_ | refine sel_cons 8 rfl ?_ | refine sel_cons 9 rfl ?_ | refine sel_cons 10 rfl ?_ | refine sel_cons 11 rfl ?_ | refine sel_cons 12 rfl ?_ | refine sel_cons 13 rfl ?_)))⟩
      repeat (first | exact same_refl | refine same_upd rfl ?_ | refine same_junk rfl ?_)
  · repeat' (first | apply pwp_seq | apply pwp_region | (apply px_run; (first | (apply opv_move; first | exact hid_int rfl) | (apply opv_lss <;> rfl) | (apply opv_load_str 0 st_G; rfl; rfl; rfl)); rfl; rfl) | apply px_nil | apply qseq_normal | apply qseq_exit | (apply qblock_exit_same; rfl) | apply pwp_exit | apply pwp_ret | apply qround_exit | (apply pwp_cond_dec; rfl; all_goals (intro hc; try (first | (exfalso; omega)))) | (apply px_store_str 2 st_G; rfl; rfl; rfl; rfl; rfl; (intro w hw; (first | refine all2 rfl ?_ ?_) <;> (first | rfl | assumption)); rfl))
    first
      | refine qbody_cell 0 rfl st_G rfl rfl rfl ⟨_, ⟨gv, P, i2, h2, v2, v3, rfl, v4, rfl⟩, fun w' hw => (by have h := hw; exact Cl.ofSel (by assumption) (by repeat (first | exact sel_nil | refine sel_cons 0 rfl ?_ | refine sel_cons 1 rfl ?_ | refine sel_cons 2 rfl ?_ | refine sel_cons 3 rfl ?_ | refine sel_cons 4 rfl ?_ | refine sel_cons 5 rfl ?_ | refine sel_cons 6 rfl ?_ | refine sel_cons 7 rfl ?_ | refine sel_cons 8 rfl ?_ | refine sel_cons 9 rfl ?_ | refine sel_cons 10 rfl ?_ | refine sel_cons 11 rfl ?_ | refine sel_cons 12 rfl ?_ | refine sel_cons 13 rfl ?_)))⟩
      | refine qbody_cell 1 rfl st_G rfl rfl rfl ⟨_, ⟨gv, P, i2, h2, v2, v3, rfl, v4, rfl⟩, fun w' hw => (by have h := hw; exact Cl.ofSel (by assumption) (by repeat (first | exact sel_nil | refine sel_cons 0 rfl ?_ | refine sel_cons 1 rfl ?_ | refine sel_cons 2 rfl ?_ | refine sel_cons 3 rfl ?_ | refine sel_cons 4 rfl ?_ | refine sel_cons 5 rfl ?_ | refine sel_cons 6 rfl ?_ | refine sel_cons 7 rfl ?_ | refine sel_cons 8 rfl ?_ | refine sel_cons 9 rfl ?_ | refine sel_cons 10 rfl ?_ | refine sel_cons 11 rfl ?_ | refine sel_cons 12 rfl ?_ | refine sel_cons 13 rfl ?_)))⟩
      | refine qbody_cell 2 rfl st_G rfl rfl rfl ⟨_, ⟨gv, P, i2, h2, v2, v3, rfl, v4, rfl⟩, fun w' hw => (by have h := hw; exact Cl.ofSel (by assumption) (by repeat (first | exact sel_nil | refine sel_cons 0 rfl ?_ | refine sel_cons 1 rfl ?_ | refine sel_cons 2 rfl ?_ | refine sel_cons 3 rfl ?_ | refine sel_cons 4 rfl ?_ | refine sel_cons 5 rfl ?_ | refine sel_cons 6 rfl ?_ | refine sel_cons 7 rfl ?_ | refine sel_cons 8 rfl ?_ | refine sel_cons 9 rfl ?_ | refine sel_cons 10 rfl ?_ | refine sel_cons 11 rfl ?_ | refine sel_cons 12 rfl ?_ | refine sel_cons 13 rfl ?_)))⟩
      | refine qbody_cell 3 rfl st_G rfl rfl rfl ⟨_, ⟨gv, P, i2, h2, v2, v3, rfl, v4, rfl⟩, fun w' hw => (by have h := hw; exact Cl.ofSel (by assumption) (by repeat (first | exact sel_nil | refine sel_cons 0 rfl ?_ | refine sel_cons 1 rfl ?_ | refine sel_cons 2 rfl ?_ | refine sel_cons 3 rfl ?_ | refine sel_cons 4 rfl ?_ | refine sel_cons 5 rfl ?_ | refine sel_cons 6 rfl ?_ | refine sel_cons 7 rfl ?_ | refine sel_cons 8 rfl ?_ | refine sel_cons 9 rfl ?_ | refine sel_cons 10 rfl ?_ | refine sel_cons 11 rfl ?_ | refine sel_cons 12 rfl ?_ | refine sel_cons 13 rfl ?_)))⟩
def names5 : List ByteArray := [⟨#[112, 97, 116, 104]⟩, ⟨#[99, 121, 99, 108, 101]⟩, ⟨#[99, 111, 109, 112, 108, 101, 116, 101]⟩, ⟨#[115, 116, 97, 114]⟩, ⟨#[119, 104, 101, 101, 108]⟩]
theorem en_s_NamedGraph : Entry Tryz.prog 88 := ⟨_, Tryz.func88, by kernel_rfl, rfl⟩
set_option maxRecDepth 100000 in
set_option maxHeartbeats 6400000 in
theorem s_NamedGraph_c (nm : ByteArray) (n : Nat) (w : World) (hnm : nm ∈ names5) (h1 : 1 ≤ n) (hn : n ≤ 7) :
    Gives Tryz.prog 88 #[.string nm, .int .i64 n] w (fun v objs => ∃ gv P bb, (SymP P ∧ IrrP P) ∧ storable gv = true ∧ v = .tuple #[.agg #[.int .i64 n, gv], .bool bb] ∧ objs = [.row 3 gv (ints (gRows n P))]) := by
  refine gives_enter (args := [_, _]) en_s_NamedGraph Tryz.func88 rfl Tryz.ntmps88 rfl ?_
  have hg0 : gRows n (fun _ _ => false) = List.replicate n 0 := gRows_none (fun _ _ _ _ => rfl)
  have hrep : ints (List.replicate n 0) = List.replicate n (Value.int .i64 0) := by simp [ints]
  have h5 : nm = ⟨#[112, 97, 116, 104]⟩ ∨ nm = ⟨#[99, 121, 99, 108, 101]⟩ ∨ nm = ⟨#[99, 111, 109, 112, 108, 101, 116, 101]⟩ ∨ nm = ⟨#[115, 116, 97, 114]⟩ ∨ nm = ⟨#[119, 104, 101, 101, 108]⟩ := by simpa [names5] using hnm
  have kin : ∀ w', Pure Tryz.prog 57 #[.int .i64 n, .int .i64 1, .int .i64 7] w' (.bool true) := fun w' => by
    have := s_l1In_c n 1 7 w'
    rw [decide_eq_true (by omega)] at this; exact this
  repeat' (first | apply pwp_seq | apply pwp_region | (apply px_run; (first | (apply opv_move; first | exact hid_int rfl) | (apply opv_assign; first | exact hid_int rfl | exact hid_bool rfl) | (apply opv_not <;> rfl) | (apply opv_build2 bl_G; rfl; rfl; (first | exact rd_row 0 rfl)) | (apply opv_call; rfl; rfl; exact Cl.stable _ _ _; exact fun w hw => kin _)); rfl; rfl) | apply px_nil | apply qseq_normal | apply pwp_block | apply pwp_skip | (apply pwp_cond_f; rfl) | (apply px_alloc st_G; rfl; rfl; rfl; intro bk) | (apply px_store_str 0 st_G; rfl; rfl; rfl; rfl; rfl; (intro w hw; (first | refine all2 rfl ?_ ?_) <;> (first | rfl | exact stor_row 1 hw rfl)); rfl) | (apply px_make ez_int; rfl; rfl; rfl; rfl; rfl; omega; (simp only [maxLen]; omega); intro sv))
  rename_i b6
  refine pwp_fact (φ := storable sv = true) (fun w' hw => by first | exact stor_row 0 hw rfl | exact stor_row 1 hw rfl | exact stor_row 2 hw rfl | exact stor_row 3 hw rfl) (fun hsv => ?_)
  refine pwp_loop (τ := Nat × Value × Rel) [(5,5), (7,9), (18,89)] (fun x => [(7, .int .i64 (x.1 : Nat))]) (fun x => Cl [] w [.blk bk [.int .i64 n, x.2.1], .row 3 x.2.1 (ints (gRows n x.2.2)), .blk b6 [.int .i64 0, .slice none 0 0]])
    (fun x => x.1 ≤ n ∧ (SymP x.2.2 ∧ IrrP x.2.2) ∧ storable x.2.1 = true) (fun x => n - x.1) (0, sv, (fun _ _ => false))
    ⟨rfl, trivial⟩ ⟨Nat.zero_le _, ⟨fun _ _ => rfl, fun _ => rfl⟩, hsv⟩ (fun w' hw => by dsimp only; rw [hg0, hrep]; (have h := hw); exact Cl.ofSel (by assumption) (by repeat (first | exact sel_nil | refine sel_cons 0 rfl ?_ | refine sel_cons 1 rfl ?_ | refine sel_cons 2 rfl ?_ | refine sel_cons 3 rfl ?_ | refine sel_cons 4 rfl ?_ | refine sel_cons 5 rfl ?_ | refine sel_cons 6 rfl ?_ | refine sel_cons 7 rfl ?_ | refine sel_cons 8 rfl ?_ | refine sel_cons 9 rfl ?_ | refine sel_cons 10 rfl ?_ | refine sel_cons 11 rfl ?_ | refine sel_cons 12 rfl ?_ | refine sel_cons 13 rfl ?_))) (fun J x hx => ?_)
  obtain ⟨v, gv, P⟩ := x
  obtain ⟨v1, v2, v3⟩ := hx
  dsimp only at v1 v2 v3 ⊢
  by_cases hvn : v < n
  · repeat' (first | apply pwp_seq | apply pwp_region | (apply px_run; (first | (apply opv_move; first | exact hid_int rfl) | (apply opv_assign; first | exact hid_int rfl) | (apply opv_lss <;> rfl) | (apply opv_add_in; rfl; rfl; omega)); rfl; rfl) | apply px_nil | apply qseq_normal | apply pwp_block | apply pwp_skip | (apply pwp_cond_dec; rfl; all_goals (intro hc; try (first | (exfalso; omega)))))
    refine pwp_loop (τ := Nat × Value × Rel) [(5,5), (8,9), (25,89)] (fun x => [(8, .int .i64 (x.1 : Nat))]) (fun x => Cl [] w [.blk bk [.int .i64 n, x.2.1], .row 3 x.2.1 (ints (gRows n x.2.2)), .blk b6 [.int .i64 0, .slice none 0 0]])
      (fun x => v < x.1 ∧ x.1 ≤ n ∧ (SymP x.2.2 ∧ IrrP x.2.2) ∧ storable x.2.1 = true) (fun x => n - x.1) (v + 1, gv, P)
      ⟨rfl, trivial⟩ ⟨Nat.lt_succ_self _, hvn, v2, v3⟩ (fun w' hw => (by have h := hw; exact Cl.ofSel (by assumption) (by repeat (first | exact sel_nil | refine sel_cons 0 rfl ?_ | refine sel_cons 1 rfl ?_ | refine sel_cons 2 rfl ?_ | refine sel_cons 3 rfl ?_ | refine sel_cons 4 rfl ?_ | refine sel_cons 5 rfl ?_ | refine sel_cons 6 rfl ?_ | refine sel_cons 7 rfl ?_ | refine sel_cons 8 rfl ?_ | refine sel_cons 9 rfl ?_ | refine sel_cons 10 rfl ?_ | refine sel_cons 11 rfl ?_ | refine sel_cons 12 rfl ?_ | refine sel_cons 13 rfl ?_)))) (fun J2 x hx => ?_)
    obtain ⟨u, gu, P2⟩ := x
    obtain ⟨u0, u1, u2, u3⟩ := hx
    dsimp only at u0 u1 u2 u3 ⊢
    by_cases hun : u < n
    · have kA := fun w' ha => s_AddEdge4_c n gu P2 v u w' ha h1 hn u2.1 u2.2 (by omega) (by omega)
      rcases h5 with rfl | rfl | rfl | rfl | rfl
      all_goals
        repeat' (first | apply pwp_seq | apply pwp_region | (apply px_run; (first | (apply opv_eql_s_r (r := true); rfl; rfl; (rw [toList_beq]; decide)) | (apply opv_eql_s_r (r := false); rfl; rfl; (rw [toList_beq]; decide)) | (apply opv_move; first | exact hid_int rfl | exact hid_bool rfl | rfl) | (apply opv_assign; first | exact hid_int rfl | exact hid_bool rfl) | (apply opv_lss <;> rfl) | (apply opv_eql <;> rfl) | (apply opv_pick_t <;> rfl) | (apply opv_pick_f <;> rfl) | (apply opv_add_in; rfl; rfl; omega) | (apply opv_sub_in; rfl; rfl; omega) | (apply opv_load_str 0 st_G; rfl; rfl; rfl) | (apply opv_extract; rfl; rfl)); rfl; rfl) | apply px_nil | (apply px_skip; rfl; rfl) | apply qseq_normal | apply pwp_block | apply qblock_normal | apply pwp_skip | (apply pwp_cond_t; rfl) | (apply pwp_cond_f; rfl) | (apply px_guard_dec; rfl; rfl; rfl; all_goals (intro hc; try (first | fail))) | (apply pwp_cond_dec; rfl; all_goals (intro hc; try (first | (exfalso; omega)))) | (apply px_store_str 1 st_G; rfl; rfl; rfl; rfl; rfl; (intro w hw; (first | refine all2 rfl ?_ ?_) <;> (first | rfl | assumption)); rfl) | (apply px_gives; rfl; rfl; rfl; rfl; rfl; exact fun w hw => kA _ (by first | exact hw.rowArr (k := 1) rfl); rintro _ _ ⟨sc, bb, P3, hP3, hsc, rfl, rfl⟩))
        all_goals first
          | (refine qround_normal ?_ ⟨(u + 1, sc, P3), ⟨rfl, trivial⟩, ⟨by dsimp only; omega, by dsimp only; omega, hP3, hsc⟩, by dsimp only; omega, fun w' hw => (by have h := hw; exact Cl.ofSel (by assumption) (by repeat (first | exact sel_nil | refine sel_cons 0 rfl ?_ | refine sel_cons 1 rfl ?_ | refine sel_cons 2 rfl ?_ | refine sel_cons 3 rfl ?_ | refine sel_cons 4 rfl ?_ | refine sel_cons 5 rfl ?_ | refine sel_cons 6 rfl ?_ | refine sel_cons 7 rfl ?_ | refine sel_cons 8 rfl ?_ | refine sel_cons 9 rfl ?_ | refine sel_cons 10 rfl ?_ | refine sel_cons 11 rfl ?_ | refine sel_cons 12 rfl ?_ | refine sel_cons 13 rfl ?_)))⟩
             repeat (first | exact same_refl | refine same_upd rfl ?_ | refine same_junk rfl ?_))
          | (refine qround_normal ?_ ⟨(u + 1, gu, P2), ⟨rfl, trivial⟩, ⟨by dsimp only; omega, by dsimp only; omega, u2, u3⟩, by dsimp only; omega, fun w' hw => (by have h := hw; exact Cl.ofSel (by assumption) (by repeat (first | exact sel_nil | refine sel_cons 0 rfl ?_ | refine sel_cons 1 rfl ?_ | refine sel_cons 2 rfl ?_ | refine sel_cons 3 rfl ?_ | refine sel_cons 4 rfl ?_ | refine sel_cons 5 rfl ?_ | refine sel_cons 6 rfl ?_ | refine sel_cons 7 rfl ?_ | refine sel_cons 8 rfl ?_ | refine sel_cons 9 rfl ?_ | refine sel_cons 10 rfl ?_ | refine sel_cons 11 rfl ?_ | refine sel_cons 12 rfl ?_ | refine sel_cons 13 rfl ?_)))⟩
             repeat (first | exact same_refl | refine same_upd rfl ?_ | refine same_junk rfl ?_))
    · obtain rfl : u = n := by omega
      repeat' (first | apply pwp_seq | apply pwp_region | (apply px_run; (first | (apply opv_move; first | exact hid_int rfl) | (apply opv_assign; first | exact hid_int rfl) | (apply opv_lss <;> rfl) | (apply opv_add_in; rfl; rfl; omega)); rfl; rfl) | apply px_nil | apply qseq_normal | apply qseq_exit | apply qblock_normal | (apply qblock_exit_same; rfl) | apply pwp_exit | apply qround_exit | (apply pwp_cond_dec; rfl; all_goals (intro hc; try (first | (exfalso; omega)))))
      refine qround_normal ?_ ⟨(v + 1, gu, P2), ⟨rfl, trivial⟩, ⟨by dsimp only; omega, u2, u3⟩, by dsimp only; omega, fun w' hw => (by have h := hw; exact Cl.ofSel (by assumption) (by repeat (first | exact sel_nil | refine sel_cons 0 rfl ?_ | refine sel_cons 1 rfl ?_ | refine sel_cons 2 rfl ?_ | refine sel_cons 3 rfl ?_ | refine sel_cons 4 rfl ?_ | refine sel_cons 5 rfl ?_ | refine sel_cons 6 rfl ?_ | refine sel_cons 7 rfl ?_ | refine sel_cons 8 rfl ?_ | refine sel_cons 9 rfl ?_ | refine sel_cons 10 rfl ?_ | refine sel_cons 11 rfl ?_ | refine sel_cons 12 rfl ?_ | refine sel_cons 13 rfl ?_)))⟩
      repeat (first | exact same_refl | refine same_upd rfl ?_ | refine same_junk rfl ?_)
  · rcases h5 with rfl | rfl | rfl | rfl | rfl
    all_goals
      repeat' (first | apply pwp_seq | apply pwp_region | (apply px_run; (first | (apply opv_neq_s_r (r := true); rfl; rfl; (rw [toList_beq]; decide)) | (apply opv_neq_s_r (r := false); rfl; rfl; (rw [toList_beq]; decide)) | (apply opv_move; first | exact hid_int rfl | exact hid_bool rfl | rfl) | (apply opv_assign; first | exact hid_bool rfl) | (apply opv_lss <;> rfl) | (apply opv_eql <;> rfl) | (apply opv_pick_t <;> rfl) | (apply opv_pick_f <;> rfl) | (apply opv_load_str 0 st_G; rfl; rfl; rfl)); rfl; rfl) | apply px_nil | (apply px_skip; rfl; rfl) | apply qseq_normal | apply qseq_exit | (apply qblock_exit_same; rfl) | apply pwp_skip | apply pwp_exit | apply pwp_ret | apply qround_exit | (apply pwp_cond_f; rfl) | (apply px_guard_dec; rfl; rfl; rfl; all_goals (intro hc; try (first | fail))) | (apply pwp_cond_dec; rfl; all_goals (intro hc; try (first | (exfalso; omega)))) | (apply px_store_str 2 st_G; rfl; rfl; rfl; rfl; rfl; (intro w hw; (first | refine all2 rfl ?_ ?_) <;> (first | rfl | assumption)); rfl))
      all_goals first
        | refine qbody_cell_tmp 0 rfl st_G rfl rfl rfl rfl ⟨_, ⟨gv, P, true, v2, v3, rfl, rfl⟩, fun w' hw => (by have h := hw; exact Cl.ofSel (by assumption) (by repeat (first | exact sel_nil | refine sel_cons 0 rfl ?_ | refine sel_cons 1 rfl ?_ | refine sel_cons 2 rfl ?_ | refine sel_cons 3 rfl ?_ | refine sel_cons 4 rfl ?_ | refine sel_cons 5 rfl ?_ | refine sel_cons 6 rfl ?_ | refine sel_cons 7 rfl ?_ | refine sel_cons 8 rfl ?_ | refine sel_cons 9 rfl ?_ | refine sel_cons 10 rfl ?_ | refine sel_cons 11 rfl ?_ | refine sel_cons 12 rfl ?_ | refine sel_cons 13 rfl ?_)))⟩
        | refine qbody_cell_tmp 1 rfl st_G rfl rfl rfl rfl ⟨_, ⟨gv, P, true, v2, v3, rfl, rfl⟩, fun w' hw => (by have h := hw; exact Cl.ofSel (by assumption) (by repeat (first | exact sel_nil | refine sel_cons 0 rfl ?_ | refine sel_cons 1 rfl ?_ | refine sel_cons 2 rfl ?_ | refine sel_cons 3 rfl ?_ | refine sel_cons 4 rfl ?_ | refine sel_cons 5 rfl ?_ | refine sel_cons 6 rfl ?_ | refine sel_cons 7 rfl ?_ | refine sel_cons 8 rfl ?_ | refine sel_cons 9 rfl ?_ | refine sel_cons 10 rfl ?_ | refine sel_cons 11 rfl ?_ | refine sel_cons 12 rfl ?_ | refine sel_cons 13 rfl ?_)))⟩
        | refine qbody_cell_tmp 2 rfl st_G rfl rfl rfl rfl ⟨_, ⟨gv, P, true, v2, v3, rfl, rfl⟩, fun w' hw => (by have h := hw; exact Cl.ofSel (by assumption) (by repeat (first | exact sel_nil | refine sel_cons 0 rfl ?_ | refine sel_cons 1 rfl ?_ | refine sel_cons 2 rfl ?_ | refine sel_cons 3 rfl ?_ | refine sel_cons 4 rfl ?_ | refine sel_cons 5 rfl ?_ | refine sel_cons 6 rfl ?_ | refine sel_cons 7 rfl ?_ | refine sel_cons 8 rfl ?_ | refine sel_cons 9 rfl ?_ | refine sel_cons 10 rfl ?_ | refine sel_cons 11 rfl ?_ | refine sel_cons 12 rfl ?_ | refine sel_cons 13 rfl ?_)))⟩
        | refine qbody_cell_tmp 3 rfl st_G rfl rfl rfl rfl ⟨_, ⟨gv, P, true, v2, v3, rfl, rfl⟩, fun w' hw => (by have h := hw; exact Cl.ofSel (by assumption) (by repeat (first | exact sel_nil | refine sel_cons 0 rfl ?_ | refine sel_cons 1 rfl ?_ | refine sel_cons 2 rfl ?_ | refine sel_cons 3 rfl ?_ | refine sel_cons 4 rfl ?_ | refine sel_cons 5 rfl ?_ | refine sel_cons 6 rfl ?_ | refine sel_cons 7 rfl ?_ | refine sel_cons 8 rfl ?_ | refine sel_cons 9 rfl ?_ | refine sel_cons 10 rfl ?_ | refine sel_cons 11 rfl ?_ | refine sel_cons 12 rfl ?_ | refine sel_cons 13 rfl ?_)))⟩
def GrQ (cv : Value) (l : List Int) (cb : Nat) (n : Int) (v : Value) (new : List Ob) : Prop := ∃ gv P i h, (SymP P ∧ IrrP P) ∧ storable gv = true ∧ v = .agg #[.int .i64 n, gv] ∧ (0 ≤ i ∧ i ≤ (l.length : Int)) ∧ new = [.row 3 gv (ints (gRows n.toNat P)), .blk cb (cells3 cv i h)]
theorem s_l2Random_i (cv : Value) (l : List Int) (cb : Nat) (i h odd : Int) (n : Int) (w : World) (hcp : CodeP w cv l) (hi : 0 ≤ i ∧ i ≤ (l.length : Int)) (ho : Own w [.blk cb (cells3 cv i h)]) (hn : 1 ≤ n ∧ n ≤ 7) :
    GivesU Tryz.prog 102 #[.pointer (some ⟨cb, 0, none⟩), .int .i64 n, .int .i64 odd] w [.blk cb (cells3 cv i h)] (fun v new => GrQ cv l cb n v new) := by
  obtain ⟨m, rfl⟩ : ∃ m : Nat, n = (m : Int) := ⟨n.toNat, by omega⟩
  exact s_l2Random_c cv l cb i h odd m w hcp hi ho (by omega) (by omega)
theorem s_NamedGraph_i (nm : ByteArray) (n : Int) (w : World) (hnm : nm ∈ names5) (hn : 1 ≤ n ∧ n ≤ 7) :
    Gives Tryz.prog 88 #[.string nm, .int .i64 n] w (fun v objs => ∃ gv P bb, (SymP P ∧ IrrP P) ∧ storable gv = true ∧ v = .tuple #[.agg #[.int .i64 n, gv], .bool bb] ∧ objs = [.row 3 gv (ints (gRows n.toNat P))]) := by
  obtain ⟨m, rfl⟩ : ∃ m : Nat, n = (m : Int) := ⟨n.toNat, by omega⟩
  exact s_NamedGraph_c nm m w hnm (by omega) (by omega)
theorem s_AddEdge_i (n : Int) (gv : Value) (P : Nat → Nat → Bool) (v u : Int) (w : World) (hr : Arr w gv (ints (gRows n.toNat P))) (hn : 1 ≤ n ∧ n ≤ 7) (hs : SymP P ∧ IrrP P) (hv : 0 ≤ v ∧ v < n) (hu : 0 ≤ u ∧ u < n) :
    Gives Tryz.prog 50 #[.agg #[.int .i64 n, gv], .int .i64 v, .int .i64 u] w (fun x objs => ∃ sv' bb P', (SymP P' ∧ IrrP P') ∧ storable sv' = true ∧ x = .tuple #[.agg #[.int .i64 n, sv'], .bool bb] ∧ objs = [.row 3 sv' (ints (gRows n.toNat P'))]) := by
  obtain ⟨m, rfl⟩ : ∃ m : Nat, n = (m : Int) := ⟨n.toNat, by omega⟩
  exact s_AddEdge4_c m gv P v u w hr (by omega) (by omega) hs.1 hs.2 hv hu
theorem en_s_l2Draw : Entry Tryz.prog 98 := ⟨_, Tryz.func98, by kernel_rfl, rfl⟩
set_option maxRecDepth 100000 in
set_option maxHeartbeats 3200000 in
theorem s_l2Draw_c (cv : Value) (l : List Int) (cb : Nat) (i h : Int) (w : World) (hcp : CodeP w cv l) (hi : 0 ≤ i ∧ i ≤ (l.length : Int)) (ho : Own w [.blk cb (cells3 cv i h)]) :
    GivesU Tryz.prog 98 #[.pointer (some ⟨cb, 0, none⟩)] w [.blk cb (cells3 cv i h)] (fun v new => ∃ n : Int, (1 ≤ n ∧ n ≤ 6) ∧ GrQ cv l cb n v new) := by
  have hap := code_apart hcp ho
  refine givesU_enterX (X := [cb]) (args := [_]) rfl ho en_s_l2Draw Tryz.func98 rfl Tryz.ntmps98 rfl ?_
  repeat' (first | apply pwp_seq | apply pwp_region | (apply px_run; (first | (apply opv_move; first | exact hid_int rfl | exact hid_ptr rfl | rfl) | (apply opv_assign; first | exact hid_int rfl | exact hid_bool rfl) | (apply opv_eql <;> rfl) | (apply opv_add_in; rfl; rfl; omega) | (apply opv_load_str 1 st_G; rfl; rfl; rfl) | (apply opv_load_str 2 st_G; rfl; rfl; rfl) | (apply opv_extract; rfl; rfl)); rfl; rfl) | apply px_nil | apply qseq_normal | apply qseq_ret | apply pwp_block | apply qblock_normal | apply qblock_ret | apply pwp_skip | apply pwp_ret | (apply pwp_cond_dec; rfl; all_goals (intro hc; try (first | fail))) | (apply pwp_cond; rfl; all_goals (intro hc; try (first | fail))) | (apply px_givesV [1]; rfl; rfl; rfl; rfl; rfl; (exact fun w' hw ho' => s_l1Below_c cv l cb _ _ 6 w' (hcp.at hap hw) (by assumption) ho'); rintro _ _ ⟨x0, hx0, rfl, ⟨ci, ch, hi, rfl⟩⟩) | (apply px_givesV [0]; rfl; rfl; rfl; rfl; rfl; (exact fun w' hw ho' => s_l1Below_c cv l cb _ _ _ w' (hcp.at hap hw) (by assumption) ho'); rintro _ _ ⟨x, hx, rfl, ⟨ci, ch, hi, rfl⟩⟩) | (apply px_givesV [2]; rfl; rfl; rfl; rfl; rfl; (exact fun w' hw ho' => s_l1Below_c cv l cb _ _ _ w' (hcp.at hap hw) (by assumption) ho'); rintro _ _ ⟨x, hx, rfl, ⟨ci, ch, hi, rfl⟩⟩) | (apply px_givesV [0]; rfl; rfl; rfl; rfl; rfl; (exact fun w' hw ho' => s_l1Once_c cv l cb _ _ _ w' (hcp.at hap hw) (by assumption) ho'); rintro _ _ ⟨b, rfl, ⟨ci, ch, hi, rfl⟩⟩) | (apply px_givesV [1]; rfl; rfl; rfl; rfl; rfl; (exact fun w' hw ho' => s_l1Pick_c cv _ l names5 cb _ _ w' (hcp.at hap hw) (by assumption) ho' (hw.rowArr (k := 0) rfl) (hw.rowNe 0 0 rfl rfl) (by decide)); rintro _ _ ⟨nm, hnm, rfl, ⟨ci, ch, hi, rfl⟩⟩) | (apply px_givesV [0]; rfl; rfl; rfl; rfl; rfl; (exact fun w' hw ho' => s_l2Random_i cv l cb _ _ _ _ w' (hcp.at hap hw) (by assumption) ho' (by omega)); rintro _ _ ⟨gr, Pr, ri, rh, hPr, hgr, rfl, hri, rfl⟩) | (apply px_lit5 ez_strD; rfl; rfl; rfl; rfl; rfl; rfl; rfl; rfl; rfl; rfl; rfl; rfl; rfl; intro sv) | (apply px_alloc st_G; rfl; rfl; rfl; intro bk) | (apply px_store_str 0 st_G; rfl; rfl; rfl; rfl; rfl; (intro w hw; (first | refine all2 rfl ?_ ?_) <;> (first | rfl | assumption)); rfl) | (apply px_store_str 2 st_G; rfl; rfl; rfl; rfl; rfl; (intro w hw; (first | refine all2 rfl ?_ ?_) <;> (first | rfl | assumption)); rfl) | (apply px_store_str 4 st_G; rfl; rfl; rfl; rfl; rfl; (intro w hw; (first | refine all2 rfl ?_ ?_) <;> (first | rfl | assumption)); rfl) | (apply px_store_str 5 st_G; rfl; rfl; rfl; rfl; rfl; (intro w hw; (first | refine all2 rfl ?_ ?_) <;> (first | rfl | assumption)); rfl) | (apply px_gives; rfl; rfl; rfl; rfl; rfl; exact fun w hw => s_NamedGraph_i _ _ _ (by assumption) (by omega); rintro _ _ ⟨ga, Pa, ba, hPa, hga, rfl, rfl⟩) | (apply px_gives; rfl; rfl; rfl; rfl; rfl; exact fun w hw => s_AddEdge_i _ _ Pa _ _ _ (by first | exact hw.rowArr (k := 2) rfl) (by omega) hPa (by omega) (by omega); rintro _ _ ⟨gb, bb, Pb, hPb, hgb, rfl, rfl⟩))
  all_goals first
    | refine qbody_cell 0 rfl st_G rfl rfl rfl ⟨_, ⟨1 + x0, by omega, gb, Pb, ci, ch, hPb, hgb, rfl, by assumption, rfl⟩, fun w' hw => (by have h := hw; exact Cl.ofSel (by assumption) (by repeat (first | exact sel_nil | refine sel_cons 0 rfl ?_ | refine sel_cons 1 rfl ?_ | refine sel_cons 2 rfl ?_ | refine sel_cons 3 rfl ?_ | refine sel_cons 4 rfl ?_ | refine sel_cons 5 rfl ?_ | refine sel_cons 6 rfl ?_ | refine sel_cons 7 rfl ?_ | refine sel_cons 8 rfl ?_ | refine sel_cons 9 rfl ?_ | refine sel_cons 10 rfl ?_ | refine sel_cons 11 rfl ?_ | refine sel_cons 12 rfl ?_ | refine sel_cons 13 rfl ?_)))⟩
    | refine qbody_cell 0 rfl st_G rfl rfl rfl ⟨_, ⟨1 + x0, by omega, ga, Pa, ci, ch, hPa, hga, rfl, by assumption, rfl⟩, fun w' hw => (by have h := hw; exact Cl.ofSel (by assumption) (by repeat (first | exact sel_nil | refine sel_cons 0 rfl ?_ | refine sel_cons 1 rfl ?_ | refine sel_cons 2 rfl ?_ | refine sel_cons 3 rfl ?_ | refine sel_cons 4 rfl ?_ | refine sel_cons 5 rfl ?_ | refine sel_cons 6 rfl ?_ | refine sel_cons 7 rfl ?_ | refine sel_cons 8 rfl ?_ | refine sel_cons 9 rfl ?_ | refine sel_cons 10 rfl ?_ | refine sel_cons 11 rfl ?_ | refine sel_cons 12 rfl ?_ | refine sel_cons 13 rfl ?_)))⟩
    | refine qbody_cell 0 rfl st_G rfl rfl rfl ⟨_, ⟨1 + x0, by omega, gr, Pr, ri, rh, hPr, hgr, rfl, hri, rfl⟩, fun w' hw => (by have h := hw; exact Cl.ofSel (by assumption) (by repeat (first | exact sel_nil | refine sel_cons 0 rfl ?_ | refine sel_cons 1 rfl ?_ | refine sel_cons 2 rfl ?_ | refine sel_cons 3 rfl ?_ | refine sel_cons 4 rfl ?_ | refine sel_cons 5 rfl ?_ | refine sel_cons 6 rfl ?_ | refine sel_cons 7 rfl ?_ | refine sel_cons 8 rfl ?_ | refine sel_cons 9 rfl ?_ | refine sel_cons 10 rfl ?_ | refine sel_cons 11 rfl ?_ | refine sel_cons 12 rfl ?_ | refine sel_cons 13 rfl ?_)))⟩
    | refine qbody_cell 1 rfl st_G rfl rfl rfl ⟨_, ⟨1 + x0, by omega, gb, Pb, ci, ch, hPb, hgb, rfl, by assumption, rfl⟩, fun w' hw => (by have h := hw; exact Cl.ofSel (by assumption) (by repeat (first | exact sel_nil | refine sel_cons 0 rfl ?_ | refine sel_cons 1 rfl ?_ | refine sel_cons 2 rfl ?_ | refine sel_cons 3 rfl ?_ | refine sel_cons 4 rfl ?_ | refine sel_cons 5 rfl ?_ | refine sel_cons 6 rfl ?_ | refine sel_cons 7 rfl ?_ | refine sel_cons 8 rfl ?_ | refine sel_cons 9 rfl ?_ | refine sel_cons 10 rfl ?_ | refine sel_cons 11 rfl ?_ | refine sel_cons 12 rfl ?_ | refine sel_cons 13 rfl ?_)))⟩
    | refine qbody_cell 1 rfl st_G rfl rfl rfl ⟨_, ⟨1 + x0, by omega, ga, Pa, ci, ch, hPa, hga, rfl, by assumption, rfl⟩, fun w' hw => (by have h := hw; exact Cl.ofSel (by assumption) (by repeat (first | exact sel_nil | refine sel_cons 0 rfl ?_ | refine sel_cons 1 rfl ?_ | refine sel_cons 2 rfl ?_ | refine sel_cons 3 rfl ?_ | refine sel_cons 4 rfl ?_ | refine sel_cons 5 rfl ?_ | refine sel_cons 6 rfl ?_ | refine sel_cons 7 rfl ?_ | refine sel_cons 8 rfl ?_ | refine sel_cons 9 rfl ?_ | refine sel_cons 10 rfl ?_ | refine sel_cons 11 rfl ?_ | refine sel_cons 12 rfl ?_ | refine sel_cons 13 rfl ?_)))⟩
    | refine qbody_cell 1 rfl st_G rfl rfl rfl ⟨_, ⟨1 + x0, by omega, gr, Pr, ri, rh, hPr, hgr, rfl, hri, rfl⟩, fun w' hw => (by have h := hw; exact Cl.ofSel (by assumption) (by repeat (first | exact sel_nil | refine sel_cons 0 rfl ?_ | refine sel_cons 1 rfl ?_ | refine sel_cons 2 rfl ?_ | refine sel_cons 3 rfl ?_ | refine sel_cons 4 rfl ?_ | refine sel_cons 5 rfl ?_ | refine sel_cons 6 rfl ?_ | refine sel_cons 7 rfl ?_ | refine sel_cons 8 rfl ?_ | refine sel_cons 9 rfl ?_ | refine sel_cons 10 rfl ?_ | refine sel_cons 11 rfl ?_ | refine sel_cons 12 rfl ?_ | refine sel_cons 13 rfl ?_)))⟩
    | refine qbody_cell 2 rfl st_G rfl rfl rfl ⟨_, ⟨1 + x0, by omega, gb, Pb, ci, ch, hPb, hgb, rfl, by assumption, rfl⟩, fun w' hw => (by have h := hw; exact Cl.ofSel (by assumption) (by repeat (first | exact sel_nil | refine sel_cons 0 rfl ?_ | refine sel_cons 1 rfl ?_ | refine sel_cons 2 rfl ?_ | refine sel_cons 3 rfl ?_ | refine sel_cons 4 rfl ?_ | refine sel_cons 5 rfl ?_ | refine sel_cons 6 rfl ?_ | refine sel_cons 7 rfl ?_ | refine sel_cons 8 rfl ?_ | refine sel_cons 9 rfl ?_ | refine sel_cons 10 rfl ?_ | refine sel_cons 11 rfl ?_ | refine sel_cons 12 rfl ?_ | refine sel_cons 13 rfl ?_)))⟩
    | refine qbody_cell 2 rfl st_G rfl rfl rfl ⟨_, ⟨1 + x0, by omega, ga, Pa, ci, ch, hPa, hga, rfl, by assumption, rfl⟩, fun w' hw => (by have h := hw; exact Cl.ofSel (by assumption) (by repeat (first | exact sel_nil | refine sel_cons 0 rfl ?_ | refine sel_cons 1 rfl ?_ | refine sel_cons 2 rfl ?_ | refine sel_cons 3 rfl ?_ | refine sel_cons 4 rfl ?_ | refine sel_cons 5 rfl ?_ | refine sel_cons 6 rfl ?_ | refine sel_cons 7 rfl ?_ | refine sel_cons 8 rfl ?_ | refine sel_cons 9 rfl ?_ | refine sel_cons 10 rfl ?_ | refine sel_cons 11 rfl ?_ | refine sel_cons 12 rfl ?_ | refine sel_cons 13 rfl ?_)))⟩
    | refine qbody_cell 2 rfl st_G rfl rfl rfl ⟨_, ⟨1 + x0, by omega, gr, Pr, ri, rh, hPr, hgr, rfl, hri, rfl⟩, fun w' hw => (by have h := hw; exact Cl.ofSel (by assumption) (by repeat (first | exact sel_nil | refine sel_cons 0 rfl ?_ | refine sel_cons 1 rfl ?_ | refine sel_cons 2 rfl ?_ | refine sel_cons 3 rfl ?_ | refine sel_cons 4 rfl ?_ | refine sel_cons 5 rfl ?_ | refine sel_cons 6 rfl ?_ | refine sel_cons 7 rfl ?_ | refine sel_cons 8 rfl ?_ | refine sel_cons 9 rfl ?_ | refine sel_cons 10 rfl ?_ | refine sel_cons 11 rfl ?_ | refine sel_cons 12 rfl ?_ | refine sel_cons 13 rfl ?_)))⟩
    | refine qbody_cell 3 rfl st_G rfl rfl rfl ⟨_, ⟨1 + x0, by omega, gb, Pb, ci, ch, hPb, hgb, rfl, by assumption, rfl⟩, fun w' hw => (by have h := hw; exact Cl.ofSel (by assumption) (by repeat (first | exact sel_nil | refine sel_cons 0 rfl ?_ | refine sel_cons 1 rfl ?_ | refine sel_cons 2 rfl ?_ | refine sel_cons 3 rfl ?_ | refine sel_cons 4 rfl ?_ | refine sel_cons 5 rfl ?_ | refine sel_cons 6 rfl ?_ | refine sel_cons 7 rfl ?_ | refine sel_cons 8 rfl ?_ | refine sel_cons 9 rfl ?_ | refine sel_cons 10 rfl ?_ | refine sel_cons 11 rfl ?_ | refine sel_cons 12 rfl ?_ | refine sel_cons 13 rfl ?_)))⟩
    | refine qbody_cell 3 rfl st_G rfl rfl rfl ⟨_, ⟨1 + x0, by omega, ga, Pa, ci, ch, hPa, hga, rfl, by assumption, rfl⟩, fun w' hw => (by have h := hw; exact Cl.ofSel (by assumption) (by repeat (first | exact sel_nil | refine sel_cons 0 rfl ?_ | refine sel_cons 1 rfl ?_ | refine sel_cons 2 rfl ?_ | refine sel_cons 3 rfl ?_ | refine sel_cons 4 rfl ?_ | refine sel_cons 5 rfl ?_ | refine sel_cons 6 rfl ?_ | refine sel_cons 7 rfl ?_ | refine sel_cons 8 rfl ?_ | refine sel_cons 9 rfl ?_ | refine sel_cons 10 rfl ?_ | refine sel_cons 11 rfl ?_ | refine sel_cons 12 rfl ?_ | refine sel_cons 13 rfl ?_)))⟩
    | refine qbody_cell 3 rfl st_G rfl rfl rfl ⟨_, ⟨1 + x0, by omega, gr, Pr, ri, rh, hPr, hgr, rfl, hri, rfl⟩, fun w' hw => (by have h := hw; exact Cl.ofSel (by assumption) (by repeat (first | exact sel_nil | refine sel_cons 0 rfl ?_ | refine sel_cons 1 rfl ?_ | refine sel_cons 2 rfl ?_ | refine sel_cons 3 rfl ?_ | refine sel_cons 4 rfl ?_ | refine sel_cons 5 rfl ?_ | refine sel_cons 6 rfl ?_ | refine sel_cons 7 rfl ?_ | refine sel_cons 8 rfl ?_ | refine sel_cons 9 rfl ?_ | refine sel_cons 10 rfl ?_ | refine sel_cons 11 rfl ?_ | refine sel_cons 12 rfl ?_ | refine sel_cons 13 rfl ?_)))⟩
    | refine qbody_cell 4 rfl st_G rfl rfl rfl ⟨_, ⟨1 + x0, by omega, gb, Pb, ci, ch, hPb, hgb, rfl, by assumption, rfl⟩, fun w' hw => (by have h := hw; exact Cl.ofSel (by assumption) (by repeat (first | exact sel_nil | refine sel_cons 0 rfl ?_ | refine sel_cons 1 rfl ?_ | refine sel_cons 2 rfl ?_ | refine sel_cons 3 rfl ?_ | refine sel_cons 4 rfl ?_ | refine sel_cons 5 rfl ?_ | refine sel_cons 6 rfl ?_ | refine sel_cons 7 rfl ?_ | refine sel_cons 8 rfl ?_ | refine sel_cons 9 rfl ?_ | refine sel_cons 10 rfl ?_ | refine sel_cons 11 rfl ?_ | refine sel_cons 12 rfl ?_ | refine sel_cons 13 rfl ?_)))⟩
    | refine qbody_cell 4 rfl st_G rfl rfl rfl ⟨_, ⟨1 + x0, by omega, ga, Pa, ci, ch, hPa, hga, rfl, by assumption, rfl⟩, fun w' hw => (by have h := hw; exact Cl.ofSel (by assumption) (by repeat (first | exact sel_nil | refine sel_cons 0 rfl ?_ | refine sel_cons 1 rfl ?_ | refine sel_cons 2 rfl ?_ | refine sel_cons 3 rfl ?_ | refine sel_cons 4 rfl ?_ | refine sel_cons 5 rfl ?_ | refine sel_cons 6 rfl ?_ | refine sel_cons 7 rfl ?_ | refine sel_cons 8 rfl ?_ | refine sel_cons 9 rfl ?_ | refine sel_cons 10 rfl ?_ | refine sel_cons 11 rfl ?_ | refine sel_cons 12 rfl ?_ | refine sel_cons 13 rfl ?_)))⟩
    | refine qbody_cell 4 rfl st_G rfl rfl rfl ⟨_, ⟨1 + x0, by omega, gr, Pr, ri, rh, hPr, hgr, rfl, hri, rfl⟩, fun w' hw => (by have h := hw; exact Cl.ofSel (by assumption) (by repeat (first | exact sel_nil | refine sel_cons 0 rfl ?_ | refine sel_cons 1 rfl ?_ | refine sel_cons 2 rfl ?_ | refine sel_cons 3 rfl ?_ | refine sel_cons 4 rfl ?_ | refine sel_cons 5 rfl ?_ | refine sel_cons 6 rfl ?_ | refine sel_cons 7 rfl ?_ | refine sel_cons 8 rfl ?_ | refine sel_cons 9 rfl ?_ | refine sel_cons 10 rfl ?_ | refine sel_cons 11 rfl ?_ | refine sel_cons 12 rfl ?_ | refine sel_cons 13 rfl ?_)))⟩
    | refine qbody_cell 5 rfl st_G rfl rfl rfl ⟨_, ⟨1 + x0, by omega, gb, Pb, ci, ch, hPb, hgb, rfl, by assumption, rfl⟩, fun w' hw => (by have h := hw; exact Cl.ofSel (by assumption) (by repeat (first | exact sel_nil | refine sel_cons 0 rfl ?_ | refine sel_cons 1 rfl ?_ | refine sel_cons 2 rfl ?_ | refine sel_cons 3 rfl ?_ | refine sel_cons 4 rfl ?_ | refine sel_cons 5 rfl ?_ | refine sel_cons 6 rfl ?_ | refine sel_cons 7 rfl ?_ | refine sel_cons 8 rfl ?_ | refine sel_cons 9 rfl ?_ | refine sel_cons 10 rfl ?_ | refine sel_cons 11 rfl ?_ | refine sel_cons 12 rfl ?_ | refine sel_cons 13 rfl ?_)))⟩
    | refine qbody_cell 5 rfl st_G rfl rfl rfl ⟨_, ⟨1 + x0, by omega, ga, Pa, ci, ch, hPa, hga, rfl, by assumption, rfl⟩, fun w' hw => (by have h := hw; exact Cl.ofSel (by assumption) (by repeat (first | exact sel_nil | refine sel_cons 0 rfl ?_ | refine sel_cons 1 rfl ?_ | refine sel_cons 2 rfl ?_ | refine sel_cons 3 rfl ?_ | refine sel_cons 4 rfl ?_ | refine sel_cons 5 rfl ?_ | refine sel_cons 6 rfl ?_ | refine sel_cons 7 rfl ?_ | refine sel_cons 8 rfl ?_ | refine sel_cons 9 rfl ?_ | refine sel_cons 10 rfl ?_ | refine sel_cons 11 rfl ?_ | refine sel_cons 12 rfl ?_ | refine sel_cons 13 rfl ?_)))⟩
    | refine qbody_cell 5 rfl st_G rfl rfl rfl ⟨_, ⟨1 + x0, by omega, gr, Pr, ri, rh, hPr, hgr, rfl, hri, rfl⟩, fun w' hw => (by have h := hw; exact Cl.ofSel (by assumption) (by repeat (first | exact sel_nil | refine sel_cons 0 rfl ?_ | refine sel_cons 1 rfl ?_ | refine sel_cons 2 rfl ?_ | refine sel_cons 3 rfl ?_ | refine sel_cons 4 rfl ?_ | refine sel_cons 5 rfl ?_ | refine sel_cons 6 rfl ?_ | refine sel_cons 7 rfl ?_ | refine sel_cons 8 rfl ?_ | refine sel_cons 9 rfl ?_ | refine sel_cons 10 rfl ?_ | refine sel_cons 11 rfl ?_ | refine sel_cons 12 rfl ?_ | refine sel_cons 13 rfl ?_)))⟩
    | refine qbody_cell 6 rfl st_G rfl rfl rfl ⟨_, ⟨1 + x0, by omega, gb, Pb, ci, ch, hPb, hgb, rfl, by assumption, rfl⟩, fun w' hw => (by have h := hw; exact Cl.ofSel (by assumption) (by repeat (first | exact sel_nil | refine sel_cons 0 rfl ?_ | refine sel_cons 1 rfl ?_ | refine sel_cons 2 rfl ?_ | refine sel_cons 3 rfl ?_ | refine sel_cons 4 rfl ?_ | refine sel_cons 5 rfl ?_ | refine sel_cons 6 rfl ?_ | refine sel_cons 7 rfl ?_ | refine sel_cons 8 rfl ?_ | refine sel_cons 9 rfl ?_ | refine sel_cons 10 rfl ?_ | refine sel_cons 11 rfl ?_ | refine sel_cons 12 rfl ?_ | refine sel_cons 13 rfl ?_)))⟩
    | refine qbody_cell 6 rfl st_G rfl rfl rfl ⟨_, ⟨1 + x0, by omega, ga, Pa, ci, ch, hPa, hga, rfl, by assumption, rfl⟩, fun w' hw => (by have h := hw; exact Cl.ofSel (by assumption) (by repeat (first | exact sel_nil | refine sel_cons 0 rfl ?_ | refine sel_cons 1 rfl ?_ | refine sel_cons 2 rfl ?_ | refine sel_cons 3 rfl ?_ | refine sel_cons 4 rfl ?_ | refine sel_cons 5 rfl ?_ | refine sel_cons 6 rfl ?_ | refine sel_cons 7 rfl ?_ | refine sel_cons 8 rfl ?_ | refine sel_cons 9 rfl ?_ | refine sel_cons 10 rfl ?_ | refine sel_cons 11 rfl ?_ | refine sel_cons 12 rfl ?_ | refine sel_cons 13 rfl ?_)))⟩
    | refine qbody_cell 6 rfl st_G rfl rfl rfl ⟨_, ⟨1 + x0, by omega, gr, Pr, ri, rh, hPr, hgr, rfl, hri, rfl⟩, fun w' hw => (by have h := hw; exact Cl.ofSel (by assumption) (by repeat (first | exact sel_nil | refine sel_cons 0 rfl ?_ | refine sel_cons 1 rfl ?_ | refine sel_cons 2 rfl ?_ | refine sel_cons 3 rfl ?_ | refine sel_cons 4 rfl ?_ | refine sel_cons 5 rfl ?_ | refine sel_cons 6 rfl ?_ | refine sel_cons 7 rfl ?_ | refine sel_cons 8 rfl ?_ | refine sel_cons 9 rfl ?_ | refine sel_cons 10 rfl ?_ | refine sel_cons 11 rfl ?_ | refine sel_cons 12 rfl ?_ | refine sel_cons 13 rfl ?_)))⟩
end Go.Proofs.YtmmflnigejfplaaGreat
/- The plain mathematics of the graphs that lists give: permutations, threshold orders, degrees. -/
namespace Go.Pw
open Go
/-- The graph of a list of numbers: places whose numbers are in the wrong order. -/
def gpJ (p : List Int) (v u : Nat) : Bool := decide (p.getD u 0 < p.getD v 0)
def gpL (p : List Int) : List Int := if permP p then gRows p.length (seenP (gpJ p) p.length 0) else []
def gpZ (p : List Int) : Int := if permP p then p.length else 0
theorem gpL_length (p : List Int) : (gpL p).length ≤ 7 := by
  unfold gpL
  split
  · rename_i h; rw [gRows_length]; have := h.1.2; omega
  · simp
/-- Degrees. -/
def degU (rows : List Int) (k : Nat) : List Int := (List.range k).map fun i => cntS (rows.getD i 0)
def degL (size : Int) (rows : List Int) : List Int := if IsG size rows then (sortI (degU rows rows.length)).reverse else []
theorem degU_len (rows : List Int) (k : Nat) : (degU rows k).length = k := by simp [degU]
theorem degU_succ (rows : List Int) (k : Nat) : degU rows (k + 1) = degU rows k ++ [cntS (rows.getD k 0)] := by simp [degU, List.range_succ]
theorem degL_len (size : Int) (rows : List Int) : (degL size rows).length ≤ 7 := by
  unfold degL
  split
  · rename_i h
    obtain ⟨n, _, h2, _, h4⟩ := isG_size h
    rw [List.length_reverse, sortI_len, degU_len]; omega
  · simp

theorem cntS_bound (s : Int) : 0 ≤ cntS s ∧ cntS s ≤ 7 := by
  unfold cntS
  have := listS_length s
  omega
theorem degL_bound (size : Int) (rows : List Int) (i : Nat) : 0 ≤ (degL size rows).getD i 0 ∧ (degL size rows).getD i 0 ≤ 7 := by
  by_cases hi : i < (degL size rows).length
  · have hm : (degL size rows).getD i 0 ∈ degL size rows := getD_mem hi
    unfold degL at hm
    split at hm
    · rename_i hg
      rw [List.mem_reverse] at hm
      have hm := (sortI_perm _).mem_iff.1 hm
      obtain ⟨k, _, hk⟩ := List.mem_map.1 (show _ ∈ (List.range rows.length).map fun i => cntS (rows.getD i 0) from hm)
      have := cntS_bound (rows.getD k 0)
      unfold degL
      rw [if_pos hg]
      omega
    · cases hm
  · have : (degL size rows).getD i 0 = 0 := by simp [List.getD, hi]
    omega
/-- The number of the last place whose degree is at least the place. -/
def mU (d : List Int) : Nat → Int
  | 0 => 0
  | k + 1 => if d.getD k 0 ≥ k then (k : Int) + 1 else mU d k
def mL (d : List Int) : Int := mU d d.length
theorem mU_range (d : List Int) : ∀ k : Nat, 0 ≤ mU d k ∧ mU d k ≤ k
  | 0 => by simp [mU]
  | k + 1 => by
    have := mU_range d k
    unfold mU
    split <;> omega
/-- The sums of the degrees before and behind it. -/
def hiU (d : List Int) (m : Int) : Nat → Int
  | 0 => 0
  | k + 1 => if (k : Int) < m then hiU d m k + d.getD k 0 else hiU d m k
def loU (d : List Int) (m : Int) : Nat → Int
  | 0 => 0
  | k + 1 => if (k : Int) < m then loU d m k else loU d m k + d.getD k 0
theorem hiU_range {d : List Int} {m : Int} (hd : ∀ i, 0 ≤ d.getD i 0 ∧ d.getD i 0 ≤ 7) : ∀ k : Nat, (0 ≤ hiU d m k ∧ hiU d m k ≤ 7 * k) ∧ 0 ≤ loU d m k ∧ loU d m k ≤ 7 * k
  | 0 => by simp [hiU, loU]
  | k + 1 => by
    have := hiU_range (m := m) hd k
    have := hd k
    unfold hiU loU
    split <;> omega
def sbdP (size : Int) (rows : List Int) : Prop := IsG size rows ∧ hiU (degL size rows) (mL (degL size rows)) (degL size rows).length = mL (degL size rows) * (mL (degL size rows) - 1) + loU (degL size rows) (mL (degL size rows)) (degL size rows).length
instance (size : Int) (rows : List Int) : Decidable (sbdP size rows) := by unfold sbdP; infer_instance
/-- The graph of a threshold order: pairs seen, by their places in the order. -/
def plN (o : List Int) (a : Nat) : Nat := (placeL o a).toNat
def gtP (o : List Int) (j : List Bool) (i k a b : Nat) : Bool := seenP (fun _ u => j.getD u false) i k (plN o a) (plN o b)
def gtOk (o : List Int) (j : List Bool) : Prop := permP o ∧ j.length = o.length
instance (o : List Int) (j : List Bool) : Decidable (gtOk o j) := by unfold gtOk; infer_instance
def gtL (o : List Int) (j : List Bool) : List Int := if gtOk o j then gRows o.length (gtP o j o.length 0) else []
def gtZ (o : List Int) (j : List Bool) : Int := if gtOk o j then o.length else 0
theorem gtL_length (o : List Int) (j : List Bool) : (gtL o j).length ≤ 7 := by
  unfold gtL
  split
  · rename_i h; rw [gRows_length]; have := h.1.1; omega
  · simp
theorem plN_at {o : List Int} (h : permP o) {i : Nat} (hi : i < o.length) : plN o (o.getD i 0).toNat = i ∧ 0 ≤ o.getD i 0 ∧ o.getD i 0 < o.length := by
  have h1 := h.2.1 i hi
  have e : (((o.getD i 0).toNat : Nat) : Int) = o.getD i 0 := by omega
  unfold plN
  rw [e, placeL_at h.2.2 hi]
  exact ⟨by omega, by omega, by omega⟩
theorem plN_eq {o : List Int} (h : permP o) {a i : Nat} (ha : a < o.length) (hi : i < o.length) : plN o a = i ↔ a = (o.getD i 0).toNat := by
  constructor
  · intro e
    have hm : (a : Int) ∈ o := by
      have := h.1
      exact order_mem (n := o.length) h.2.1 h.2.2 rfl a ha
    have h2 := placeL_get o a hm
    unfold plN at e
    rw [e] at h2
    omega
  · intro e; subst e; exact (plN_at h hi).1
theorem gtP_sym (o : List Int) (j : List Bool) (i k a b : Nat) : gtP o j i k a b = gtP o j i k b a := seenP_sym _ _ _ _ _
theorem gtP_irr (o : List Int) (j : List Bool) (i k a : Nat) : gtP o j i k a a = false := seenP_irr _ _ _ _
theorem gtP_zero (o : List Int) (j : List Bool) (a b : Nat) : gtP o j 0 0 a b = false := seenP_zero _ _ _
theorem gtP_next (o : List Int) (j : List Bool) (i a b : Nat) : gtP o j i i a b = gtP o j (i + 1) 0 a b := seenP_next _ _ _ _
theorem gtP_new {o : List Int} {j : List Bool} (h : permP o) {i k : Nat} (hi : i < o.length) (hk : k < i) :
    gtP o j i k (o.getD i 0).toNat (o.getD k 0).toNat = false ∧ gtP o j i k (o.getD k 0).toNat (o.getD i 0).toNat = false := by
  unfold gtP
  rw [(plN_at h hi).1, (plN_at h (show k < o.length by omega)).1]
  have := seenP_new (fun _ u => j.getD u false) hk
  exact ⟨this.2, this.1⟩
theorem gtP_no {o : List Int} {j : List Bool} {i k : Nat} (hk : k < i) (hj : j.getD i false = false) (a b : Nat) : gtP o j i k a b = gtP o j i (k + 1) a b :=
  seenP_no _ hk hj _ _
theorem gtP_skip {o : List Int} {j : List Bool} {i : Nat} (hj : j.getD i false = false) (a b : Nat) : ∀ k, k ≤ i → gtP o j i 0 a b = gtP o j i k a b
  | 0, _ => rfl
  | k + 1, h => by rw [gtP_skip hj a b k (by omega), gtP_no (by omega) hj]
theorem gtP_yes {o : List Int} {j : List Bool} (h : permP o) {i k : Nat} (hi : i < o.length) (hk : k < i) (hj : j.getD i false = true) {a b : Nat} (ha : a < o.length) (hb : b < o.length) :
    pairAdd (gtP o j i k) (o.getD i 0).toNat (o.getD k 0).toNat a b = gtP o j i (k + 1) a b := by
  have h1 := seenP_yes (fun _ u => j.getD u false) hk hj (plN o a) (plN o b)
  unfold gtP
  rw [← h1]
  unfold pairAdd
  congr 1
  have c1 : decide (a = (o.getD i 0).toNat ∧ b = (o.getD k 0).toNat) = decide (plN o a = i ∧ plN o b = k) := decide_eq_decide.2 (by rw [plN_eq h ha hi, plN_eq h hb (by omega)])
  have c2 : decide (a = (o.getD k 0).toNat ∧ b = (o.getD i 0).toNat) = decide (plN o a = k ∧ plN o b = i) := decide_eq_decide.2 (by rw [plN_eq h hb hi, plN_eq h ha (by omega)])
  rw [c1, c2, Bool.or_comm]
end Go.Pw
/- Transitive orientations: forcing, the triangle lemma, classes are transitive, taking a class away makes no new opposites. -/
namespace Go.Pw
/-- An arc forces another. -/
inductive Fo (E : Nat → Nat → Bool) (a b : Nat) : Nat → Nat → Prop
  | refl : E a b = true → Fo E a b a b
  | left {c d e : Nat} : Fo E a b c d → E e d = true → E c e = false → Fo E a b e d
  | right {c d e : Nat} : Fo E a b c d → E c e = true → E d e = false → Fo E a b c e
section
variable {E : Nat → Nat → Bool}
theorem Fo.edge {a b c d : Nat} (h : Fo E a b c d) : E c d = true := by
  cases h <;> assumption
theorem Fo.start {a b c d : Nat} (h : Fo E a b c d) : E a b = true := by
  induction h with
  | refl h => exact h
  | left _ _ _ ih => exact ih
  | right _ _ _ ih => exact ih
theorem Fo.trans {a b c d e f : Nat} (h : Fo E a b c d) (h2 : Fo E c d e f) : Fo E a b e f := by
  induction h2 with
  | refl _ => exact h
  | left _ h3 h4 ih => exact ih.left h3 h4
  | right _ h3 h4 ih => exact ih.right h3 h4
variable (hs : ∀ x y, E x y = E y x)
include hs
theorem Fo.rev {a b c d : Nat} (h : Fo E a b c d) : Fo E b a d c := by
  induction h with
  | refl h => exact .refl (by rw [hs]; exact h)
  | left _ h3 h4 ih => exact ih.right (by rw [hs]; exact h3) h4
  | right _ h3 h4 ih => exact ih.left (by rw [hs]; exact h3) h4
theorem Fo.symm {a b c d : Nat} (h : Fo E a b c d) : Fo E c d a b := by
  induction h with
  | refl h => exact .refl h
  | @left c d e h0 h3 h4 ih => exact ((Fo.refl h3).left h0.edge (by rw [hs]; exact h4)).trans ih
  | @right c d e h0 h3 h4 ih => exact ((Fo.refl h3).right h0.edge (by rw [hs]; exact h4)).trans ih
/-- The triangle lemma: the apex a sees each arc that bc forces as it sees bc. -/
theorem triangle (hirr : ∀ x, E x x = false) {a b c : Nat} (hab : E a b = true) (hac : E a c = true) (h1 : ¬ Fo E b c a c) (h2 : ¬ Fo E b c b a) {p q : Nat} (h : Fo E b c p q) : Fo E a b a p ∧ Fo E a c a q := by
  induction h with
  | refl _ => exact ⟨.refl hab, .refl hac⟩
  | @left c' d e h0 h3 h4 ih =>
    obtain ⟨i1, i2⟩ := ih
    -- c'd in the class, ed beside it, c' and e apart
    have hae : E a e = true := by
      cases h : E a e with
      | true => rfl
      | false =>
        exfalso
        have : Fo E b c a d := (h0.left h3 h4).left i2.edge (by rw [hs]; exact h)
        exact h1 (this.trans (i2.symm hs))
    exact ⟨i1.right hae h4, i2⟩
  | @right c' d e h0 h3 h4 ih =>
    obtain ⟨i1, i2⟩ := ih
    have hae : E a e = true := by
      cases h : E a e with
      | true => rfl
      | false =>
        exfalso
        have : Fo E b c c' a := (h0.right h3 h4).right (by rw [hs]; exact i1.edge) (by rw [hs]; exact h)
        exact h2 (this.trans ((i1.rev hs).symm hs))
    exact ⟨i1, i2.right hae h4⟩
/-- A class without opposites is transitive. -/
theorem Fo.tr (hirr : ∀ x, E x x = false) {x y : Nat} (hno : ¬ Fo E x y y x) {a b c : Nat} (h1 : Fo E x y a b) (h2 : Fo E x y b c) : Fo E x y a c := by
  have hac : E a c = true := by
    cases h : E a c with
    | true => rfl
    | false =>
      exfalso
      have : Fo E x y c b := h1.left (by rw [hs]; exact h2.edge) h
      exact hno (this.trans ((h2.rev hs).symm hs))
  apply Classical.byContradiction
  intro hn
  have t1 : ¬ Fo E b c a c := fun h => hn (h2.trans h)
  have t2 : ¬ Fo E b c b a := fun h => hno ((h2.trans h).trans ((h1.rev hs).symm hs))
  have := (triangle hs hirr h1.edge hac t1 t2 ((h2.symm hs).trans h1)).1.edge
  rw [hirr] at this
  cases this
/-- Arcs that come to force each other when the class of bc is taken away: out of one vertex, or into one. -/
def Mg (E : Nat → Nat → Bool) (A : Nat → Nat → Prop) (a b c d : Nat) : Prop := (a = c ∧ (A b d ∨ A d b)) ∨ (b = d ∧ (A a c ∨ A c a))
/-- Out of an apex: two merges from one class lead to one class. -/
theorem merge_out (hirr : ∀ x, E x x = false) {x y : Nat} (hno : ¬ Fo E x y y x) {a b c : Nat} (hbc : Fo E x y b c) (hab : E a b = true) (hac : E a c = true)
    (nab : ¬ Fo E x y a b) (nba : ¬ Fo E x y b a) (nac : ¬ Fo E x y a c) (nca : ¬ Fo E x y c a) (hne : ¬ Fo E a c a b) {e f p q : Nat} (he : Fo E a b e f) (hpq : E p q = true) (nef : ¬ Fo E x y p q) (nfe : ¬ Fo E x y q p) (hm : Mg E (Fo E x y) e f p q) : Fo E a c p q := by
  have sw : ∀ {u v w z : Nat}, Fo E u v w z → Fo E w z u v := fun h => h.symm hs
  -- the apex a, arcs of the class of bc
  have ta : ∀ {p q}, Fo E x y p q → Fo E a b a p ∧ Fo E a c a q := fun h => triangle hs hirr hab hac (fun h => nac (hbc.trans h)) (fun h => nba (hbc.trans h)) ((sw hbc).trans h)
  -- the apex c, arcs of the class of ab
  have hca : E c a = true := by rw [hs]; exact hac
  have hcb : E c b = true := by rw [hs]; exact hbc.edge
  have tc : ∀ {p q}, Fo E a b p q → Fo E c a c p ∧ Fo E c b c q := fun h => triangle hs hirr hca hcb (fun h => nba (hbc.trans ((sw (h.rev hs))))) (fun h => hne (sw h)) h
  -- the apex b, arcs of the class of ac
  have hba : E b a = true := by rw [hs]; exact hab
  have tb : ∀ {p q}, Fo E a c p q → Fo E b a b p ∧ Fo E b c b q := fun h => triangle hs hirr hba hbc.edge (fun h => nac (hbc.trans (sw h))) (fun h => hne h) h
  rcases hm with ⟨rfl, hA | hA⟩ | ⟨rfl, hA | hA⟩
  · have te : ∀ {u v}, Fo E x y u v → Fo E e f e u ∧ Fo E e q e v := fun h => triangle hs hirr he.edge hpq (fun h => nef (hA.trans h)) (fun h => nba ((hA.trans h).trans (sw (he.rev hs)))) ((sw hA).trans h)
    obtain ⟨e1, e2⟩ := te hbc
    have e3 := ((tc (he.trans e1)).1).rev hs
    exact e3.trans (sw e2)
  · exfalso
    have te : ∀ {u v}, Fo E x y u v → Fo E e q e u ∧ Fo E e f e v := fun h => triangle hs hirr hpq he.edge (fun h => nab ((hA.trans h).trans (sw he))) (fun h => nfe (hA.trans h)) ((sw hA).trans h)
    have e1 := (tc (he.trans (te hbc).2)).2.edge
    rw [hirr] at e1
    cases e1
  · exfalso
    have e0 := (tc he).1
    have e1 := (tc ((ta hA).1)).2
    exact nac (hbc.trans ((e1.trans (sw e0)).rev hs))
  · exfalso
    have e1 := (ta hA).2
    have e2 := ((tc he).1).rev hs
    have e3 := (tb e2).1
    have e4 := (tb e1).2
    exact nba (hbc.trans (e4.trans (sw e3)))
theorem Mg.flip {x y a b c d : Nat} (h : Mg E (Fo E x y) a b c d) : Mg E (Fo E y x) a b c d := by
  rcases h with ⟨e, h | h⟩ | ⟨e, h | h⟩
  · exact .inl ⟨e, .inr (h.rev hs)⟩
  · exact .inl ⟨e, .inl (h.rev hs)⟩
  · exact .inr ⟨e, .inr (h.rev hs)⟩
  · exact .inr ⟨e, .inl (h.rev hs)⟩
omit hs in
theorem Mg.turn {A : Nat → Nat → Prop} {a b c d : Nat} (h : Mg E A a b c d) : Mg E A b a d c := by
  rcases h with h | h
  · exact .inr h
  · exact .inl h
/-- Two merges lead back. -/
theorem merge_any (hirr : ∀ x, E x x = false) {x y : Nat} (hno : ¬ Fo E x y y x) {E' : Nat → Nat → Bool} (hE : ∀ p q, E' p q = true ↔ E p q = true ∧ ¬ Fo E x y p q ∧ ¬ Fo E x y q p) {c d e f p q r s : Nat}
    (hcd : E' c d = true) (hef : E' e f = true) (hrs : E' r s = true) (h1 : Mg E (Fo E x y) c d e f) (hne : ¬ Fo E c d e f) (h2 : Fo E e f p q) (h3 : Mg E (Fo E x y) p q r s) : Fo E c d r s := by
  have hno' : ¬ Fo E y x x y := fun h => hno (h.rev hs)
  have rv : ∀ {u v}, Fo E y x u v → Fo E x y v u := fun h => h.rev hs
  rw [hE] at hcd hef hrs
  rcases h1 with ⟨rfl, hA | hA⟩ | ⟨rfl, hA | hA⟩
  · exact merge_out hs hirr hno' (hA.rev hs) hef.1 hcd.1 (fun h => hef.2.2 (rv h)) (fun h => hef.2.1 (rv h)) (fun h => hcd.2.2 (rv h)) (fun h => hcd.2.1 (rv h)) hne h2 hrs.1 (fun h => hrs.2.2 (rv h)) (fun h => hrs.2.1 (rv h)) (h3.flip hs)
  · exact merge_out hs hirr hno hA hef.1 hcd.1 hef.2.1 hef.2.2 hcd.2.1 hcd.2.2 hne h2 hrs.1 hrs.2.1 hrs.2.2 h3
  · have hcd' : E d c = true := by rw [hs]; exact hcd.1
    have hef' : E d e = true := by rw [hs]; exact hef.1
    have hrs' : E s r = true := by rw [hs]; exact hrs.1
    exact (merge_out hs hirr hno' (hA.rev hs) hef' hcd' (fun h => hef.2.1 (rv h)) (fun h => hef.2.2 (rv h)) (fun h => hcd.2.1 (rv h)) (fun h => hcd.2.2 (rv h)) (fun h => hne (h.rev hs)) (h2.rev hs) hrs' (fun h => hrs.2.1 (rv h)) (fun h => hrs.2.2 (rv h)) ((h3.flip hs).turn)).rev hs
  · have hcd' : E d c = true := by rw [hs]; exact hcd.1
    have hef' : E d e = true := by rw [hs]; exact hef.1
    have hrs' : E s r = true := by rw [hs]; exact hrs.1
    exact (merge_out hs hirr hno hA hef' hcd' hef.2.2 hef.2.1 hcd.2.2 hcd.2.1 (fun h => hne (h.rev hs)) (h2.rev hs) hrs' hrs.2.2 hrs.2.1 (h3.turn)).rev hs
/-- Taking a class away makes no arc force its opposite. -/
theorem class_away (hirr : ∀ x, E x x = false) (hcons : ∀ a b, E a b = true → ¬ Fo E a b b a) {x y : Nat} (hxy : E x y = true) {E' : Nat → Nat → Bool} (hE : ∀ p q, E' p q = true ↔ E p q = true ∧ ¬ Fo E x y p q ∧ ¬ Fo E x y q p) {a b : Nat} (hab : E' a b = true) : ¬ Fo E' a b b a := by
  have hno := hcons x y hxy
  have key : ∀ {p q}, Fo E' a b p q → (Fo E a b p q ∨ ∃ c d e f, Fo E a b c d ∧ Mg E (Fo E x y) c d e f ∧ Fo E e f p q ∧ E' c d = true ∧ E' e f = true) := by
    intro p q h
    have stepM : ∀ {p q r s}, E' p q = true → E' r s = true → Mg E (Fo E x y) p q r s → (Fo E a b p q ∨ ∃ c d e f, Fo E a b c d ∧ Mg E (Fo E x y) c d e f ∧ Fo E e f p q ∧ E' c d = true ∧ E' e f = true) → (Fo E a b r s ∨ ∃ c d e f, Fo E a b c d ∧ Mg E (Fo E x y) c d e f ∧ Fo E e f r s ∧ E' c d = true ∧ E' e f = true) := by
      intro p q r s hpq hrs hm hS
      rcases hS with h1 | ⟨c, d, e, f, h1, h2, h3, h4, h5⟩
      · exact .inr ⟨p, q, r, s, h1, hm, .refl ((hE r s).1 hrs).1, hpq, hrs⟩
      · by_cases hc : Fo E c d e f
        · exact .inr ⟨p, q, r, s, (h1.trans hc).trans h3, hm, .refl ((hE r s).1 hrs).1, hpq, hrs⟩
        · exact .inl (h1.trans (merge_any hs hirr hno hE h4 h5 hrs h2 hc h3 hm))
    have stepG : ∀ {p q r s}, Fo E p q r s → (Fo E a b p q ∨ ∃ c d e f, Fo E a b c d ∧ Mg E (Fo E x y) c d e f ∧ Fo E e f p q ∧ E' c d = true ∧ E' e f = true) → (Fo E a b r s ∨ ∃ c d e f, Fo E a b c d ∧ Mg E (Fo E x y) c d e f ∧ Fo E e f r s ∧ E' c d = true ∧ E' e f = true) := by
      intro p q r s h hS
      rcases hS with h1 | ⟨c, d, e, f, h1, h2, h3, h4, h5⟩
      · exact .inl (h1.trans h)
      · exact .inr ⟨c, d, e, f, h1, h2, h3.trans h, h4, h5⟩
    have gone : ∀ {u v}, E u v = true → E' u v = false → Fo E x y u v ∨ Fo E x y v u := fun {u v} h1 h2 => by
      apply Classical.byContradiction
      intro hn
      have := (hE u v).2 ⟨h1, fun h => hn (.inl h), fun h => hn (.inr h)⟩
      rw [this] at h2; cases h2
    induction h with
    | refl h => exact .inl (.refl ((hE a b).1 h).1)
    | @left c d e h0 h3 h4 ih =>
      cases hce : E c e with
      | false => exact stepG ((Fo.refl ((hE _ _).1 h0.edge).1).left ((hE _ _).1 h3).1 hce) ih
      | true => exact stepM h0.edge h3 (.inr ⟨rfl, gone hce h4⟩) ih
    | @right c d e h0 h3 h4 ih =>
      cases hde : E d e with
      | false => exact stepG ((Fo.refl ((hE _ _).1 h0.edge).1).right ((hE _ _).1 h3).1 hde) ih
      | true => exact stepM h0.edge h3 (.inl ⟨rfl, gone hde h4⟩) ih
  intro h
  rcases key h with h1 | ⟨c, d, e, f, h1, h2, h3, h4, h5⟩
  · exact hcons a b ((hE a b).1 hab).1 h1
  · have h6 : Fo E c d f e := (h1.symm hs).trans ((h3.rev hs).symm hs)
    rw [hE] at h4 h5
    have hcd := hcons c d h4.1
    rcases h2 with ⟨rfl, hA⟩ | ⟨rfl, hA⟩
    · have h7 : Fo E c d f d := h6.tr hs hirr hcd (.refl h4.1)
      rcases hA with hA | hA
      · exact h4.2.2 (hA.trans ((h7.rev hs).symm hs))
      · exact h4.2.1 (hA.trans (h7.symm hs))
    · have h7 : Fo E c d c e := (Fo.refl h4.1).tr hs hirr hcd h6
      rcases hA with hA | hA
      · exact h4.2.1 (hA.trans (h7.symm hs))
      · exact h4.2.2 (hA.trans ((h7.rev hs).symm hs))
/-- A transitive orientation. -/
structure TrO (E : Nat → Nat → Bool) (F : Nat → Nat → Prop) : Prop where
  sub : ∀ a b, F a b → E a b = true
  all : ∀ a b, E a b = true → F a b ∨ F b a
  asym : ∀ a b, F a b → ¬ F b a
  tr : ∀ a b c, F a b → F b c → F a c
/-- A class and a transitive orientation of what is left beside it are one of all. -/
theorem tr_join (hirr : ∀ x, E x x = false) {x y : Nat} (hno : ¬ Fo E x y y x) {E' : Nat → Nat → Bool} (hE : ∀ p q, E' p q = true ↔ E p q = true ∧ ¬ Fo E x y p q ∧ ¬ Fo E x y q p) {T : Nat → Nat → Prop} (hT : TrO E' T) : TrO E (fun a b => Fo E x y a b ∨ T a b) := by
  have sb : ∀ {a b}, T a b → E a b = true ∧ ¬ Fo E x y a b ∧ ¬ Fo E x y b a := fun h => (hE _ _).1 (hT.sub _ _ h)
  have dec : ∀ {a c}, E a c = true → Fo E x y a c ∨ Fo E x y c a ∨ T a c ∨ T c a := fun {a c} h => by
    by_cases h1 : Fo E x y a c
    · exact .inl h1
    by_cases h2 : Fo E x y c a
    · exact .inr (.inl h2)
    exact .inr (.inr (hT.all a c ((hE a c).2 ⟨h, h1, h2⟩)))
  refine ⟨fun a b h => h.elim Fo.edge fun h => (sb h).1, fun a b h => ?_, fun a b h1 h2 => ?_, fun a b c h1 h2 => ?_⟩
  · rcases dec h with h | h | h | h
    · exact .inl (.inl h)
    · exact .inr (.inl h)
    · exact .inl (.inr h)
    · exact .inr (.inr h)
  · rcases h1 with h1 | h1 <;> rcases h2 with h2 | h2
    · exact hno (h1.trans ((h2.rev hs).symm hs))
    · exact (sb h2).2.2 h1
    · exact (sb h1).2.2 h2
    · exact hT.asym a b h1 h2
  · rcases h1 with h1 | h1 <;> rcases h2 with h2 | h2
    · exact .inl (h1.tr hs hirr hno h2)
    · have hac : E a c = true := by
        cases h : E a c with
        | true => rfl
        | false => exact ((sb h2).2.2 (h1.left (by rw [hs]; exact (sb h2).1) h)).elim
      rcases dec hac with h | h | h | h
      · exact .inl h
      · exact ((sb h2).2.2 (h.tr hs hirr hno h1)).elim
      · exact .inr h
      · exact ((sb (hT.tr _ _ _ h2 h)).2.2 h1).elim
    · have hac : E a c = true := by
        cases h : E a c with
        | true => rfl
        | false => exact ((sb h1).2.2 (h2.right (by rw [hs]; exact (sb h1).1) (by rw [hs]; exact h))).elim
      rcases dec hac with h | h | h | h
      · exact .inl h
      · exact ((sb h1).2.2 (h2.tr hs hirr hno h)).elim
      · exact .inr h
      · exact ((sb (hT.tr _ _ _ h h1)).2.2 h2).elim
    · exact .inr (hT.tr _ _ _ h1 h2)
/-- A transitive orientation keeps what is forced. -/
theorem TrO.keeps {F : Nat → Nat → Prop} (hF : TrO E F) {a b c d : Nat} (h : Fo E a b c d) (hab : F a b) : F c d := by
  induction h with
  | refl _ => exact hab
  | left _ h3 h4 ih =>
    rcases hF.all _ _ h3 with h | h
    · exact h
    · have := hF.sub _ _ (hF.tr _ _ _ ih h)
      rw [h4] at this; cases this
  | right _ h3 h4 ih =>
    rcases hF.all _ _ h3 with h | h
    · exact h
    · have := hF.sub _ _ (hF.tr _ _ _ h ih)
      rw [hs, h4] at this; cases this
end
end Go.Pw
/- The program's orientation is transitive, and found whenever no arc forces its opposite. -/
namespace Go.Pw
open Go
/-- A graph on the first n vertices. -/
structure Gph (n : Nat) (P : Nat → Nat → Bool) : Prop where
  n1 : 1 ≤ n
  n7 : n ≤ 7
  sym : ∀ x y, P x y = P y x
  irr : ∀ x, P x x = false
  lt : ∀ x y, P x y = true → x < n ∧ y < n
theorem next_iff {n : Nat} {P : Nat → Nat → Bool} (hP : Gph n P) {a b v u : Nat} (hab : P a b = true) (hv : v < n) (hu : u < n) : nextB (gRows n P) (a : Int) (b : Int) v u = true ↔ P v u = true ∧ ((v = a ∧ u ≠ b ∧ P u b = false) ∨ (u = b ∧ v ≠ a ∧ P v a = false)) := by
  obtain ⟨ha, hb⟩ := hP.lt a b hab
  rw [nextB_iff, gRows_has hP.n7 P hv hu, gRows_has hP.n7 P hu hb, gRows_has hP.n7 P hv ha]
  constructor
  · rintro ⟨h1, ⟨h2, h3, h4⟩ | ⟨h2, h3, h4⟩⟩
    · exact ⟨h1, .inl ⟨by omega, by omega, h4⟩⟩
    · exact ⟨h1, .inr ⟨by omega, by omega, h4⟩⟩
  · rintro ⟨h1, ⟨h2, h3, h4⟩ | ⟨h2, h3, h4⟩⟩
    · exact ⟨h1, .inl ⟨by omega, by omega, h4⟩⟩
    · exact ⟨h1, .inr ⟨by omega, by omega, h4⟩⟩
theorem nextA_in {rows : List Int} {a b : Int} {v u : Nat} (hv : v < rows.length) (hu : u < rows.length) (h : nextB rows a b v u = true) : [(v : Int), (u : Int)] ∈ nextA rows a b := by
  unfold nextA nextU
  refine List.mem_flatMap.2 ⟨v, List.mem_range.2 hv, ?_⟩
  unfold nextRow
  exact List.mem_map.2 ⟨u, List.mem_filter.2 ⟨List.mem_range.2 hu, h⟩, rfl⟩
/-- All that is found is forced. -/
theorem bfs_sound {n : Nat} {P : Nat → Nat → Bool} (hP : Gph n P) {a b : Nat} (hab : P a b = true) : ∀ k, ∀ e ∈ (bfsA (gRows n P) a b k).1, ∃ v u : Nat, e = [(v : Int), (u : Int)] ∧ Fo P a b v u
  | 0, e, he => by obtain rfl := List.mem_singleton.1 he; exact ⟨a, b, rfl, .refl hab⟩
  | k + 1, e, he => by
    unfold bfsA at he
    split at he
    · rename_i hk
      unfold stepA at he
      rcases fold_mem _ he with he | he
      · exact bfs_sound hP hab k e he
      · have hm : (bfsA (gRows n P) a b k).1.getD k [] ∈ (bfsA (gRows n P) a b k).1 := by simp [List.getD, hk]
        obtain ⟨v, u, e1, hf⟩ := bfs_sound hP hab k _ hm
        rw [e1] at he
        obtain ⟨v', u', rfl, hv, hu, hb⟩ := nextA_mem he
        rw [gRows_length] at hv hu
        have hb' := (next_iff hP hf.edge hv hu).1 hb
        refine ⟨v', u', rfl, ?_⟩
        rcases hb'.2 with ⟨rfl, _, h4⟩ | ⟨rfl, _, h4⟩
        · exact hf.right hb'.1 (by rw [hP.sym]; exact h4)
        · exact hf.left hb'.1 (by rw [hP.sym]; exact h4)
    · exact bfs_sound hP hab k e he
theorem fold_pre {k : Int} : ∀ (L : List (List Int)) (s : List (List Int) × List Int), ∃ t, (L.foldl (addA k) s).1 = s.1 ++ t
  | [], s => ⟨[], by simp⟩
  | e :: L, s => by
    obtain ⟨t, ht⟩ := fold_pre (k := k) L (addA k s e)
    rw [List.foldl_cons, ht]
    unfold addA
    split
    · exact ⟨t, rfl⟩
    · exact ⟨[e] ++ t, by simp⟩
theorem fold_all {k : Int} : ∀ (L : List (List Int)) (s : List (List Int) × List Int) {x : List Int}, x ∈ L → x ∈ (L.foldl (addA k) s).1
  | e :: L, s, x, h => by
    rw [List.foldl_cons]
    rcases List.mem_cons.1 h with rfl | h
    · refine fold_old L ?_
      unfold addA
      split
      · assumption
      · exact List.mem_append_right _ (List.mem_singleton_self _)
    · exact fold_all L _ h
/-- What stood before place k has been followed up. -/
theorem bfs_closed {rows : List Int} {a b : Int} : ∀ k i, i < k → i < (bfsA rows a b k).1.length → ∀ x ∈ nextA rows (((bfsA rows a b k).1.getD i []).getD 0 0) (((bfsA rows a b k).1.getD i []).getD 1 0), x ∈ (bfsA rows a b k).1
  | 0, i, h, _, _, _ => by omega
  | k + 1, i, hi, hl, x, hx => by
    unfold bfsA at hl hx ⊢
    split at hl
    · rename_i hk
      rw [if_pos hk] at hx ⊢
      unfold stepA at hl hx ⊢
      obtain ⟨t, ht⟩ := fold_pre (k := (k : Int)) (nextA rows (((bfsA rows a b k).1.getD k []).getD 0 0) (((bfsA rows a b k).1.getD k []).getD 1 0)) (bfsA rows a b k)
      have hget : ∀ i, i < (bfsA rows a b k).1.length → ((nextA rows (((bfsA rows a b k).1.getD k []).getD 0 0) (((bfsA rows a b k).1.getD k []).getD 1 0)).foldl (addA (k : Int)) (bfsA rows a b k)).1.getD i [] = (bfsA rows a b k).1.getD i [] := fun i hi => by
        rw [ht]; simp [List.getD, List.getElem?_append_left hi]
      by_cases hik : i = k
      · subst hik
        rw [hget i hk] at hx
        exact fold_all _ _ hx
      · have hil : i < (bfsA rows a b k).1.length := by omega
        rw [hget i hil] at hx
        exact fold_old _ (bfs_closed k i (by omega) hil x hx)
    · rename_i hk
      rw [if_neg hk] at hx ⊢
      exact bfs_closed k i (by omega) hl x hx
/-- The program finds exactly the arcs that an arc forces. -/
theorem forced_iff {n : Nat} {P : Nat → Nat → Bool} (hP : Gph n P) {a b : Nat} (hab : P a b = true) {v u : Nat} : [(v : Int), (u : Int)] ∈ (forcedA (gRows n P) a b).1 ↔ Fo P a b v u := by
  constructor
  · intro h
    obtain ⟨v', u', e, hf⟩ := bfs_sound hP hab 49 _ h
    have e1 : v = v' := by have := congrArg (fun l : List Int => l.getD 0 0) e; exact Int.ofNat.inj this
    have e2 : u = u' := by have := congrArg (fun l : List Int => l.getD 1 0) e; exact Int.ofNat.inj this
    subst e1 e2
    exact hf
  · intro h
    obtain ⟨ha, hb⟩ := hP.lt a b hab
    have hl := gRows_length n P
    have hok := forcedA_ok (rows := gRows n P) (a := a) (b := b) ⟨a, b, rfl, by omega, by omega⟩
    rw [hl] at hok
    have hlen := hok.bound hP.n7
    have close : ∀ {c d e f : Nat}, [(c : Int), (d : Int)] ∈ (forcedA (gRows n P) a b).1 → P e f = true → nextB (gRows n P) c d e f = true → [(e : Int), (f : Int)] ∈ (forcedA (gRows n P) a b).1 := fun {c d e f} hm hef hn => by
      obtain ⟨i, hi, hg⟩ := List.mem_iff_getElem.1 hm
      obtain ⟨he, hf⟩ := hP.lt e f hef
      refine bfs_closed 49 i (by omega) hi _ ?_
      have : (bfsA (gRows n P) a b 49).1.getD i [] = [(c : Int), (d : Int)] := by
        show (forcedA (gRows n P) a b).1.getD i [] = _
        simp only [List.getD]; rw [List.getElem?_eq_getElem hi]; exact hg
      rw [this]
      exact nextA_in (by omega) (by omega) hn
    induction h with
    | refl _ => exact forcedA_first _ _ _
    | @left c d e h0 h3 h4 ih =>
      by_cases hce : e = c
      · subst hce; exact ih
      · obtain ⟨hc, hd⟩ := hP.lt _ _ h0.edge
        obtain ⟨he, _⟩ := hP.lt _ _ h3
        exact close ih h3 ((next_iff hP h0.edge he hd).2 ⟨h3, .inr ⟨rfl, hce, by rw [hP.sym]; exact h4⟩⟩)
    | @right c d e h0 h3 h4 ih =>
      by_cases hde : e = d
      · subst hde; exact ih
      · obtain ⟨hc, hd⟩ := hP.lt _ _ h0.edge
        obtain ⟨_, he⟩ := hP.lt _ _ h3
        exact close ih h3 ((next_iff hP h0.edge hc he).2 ⟨h3, .inl ⟨rfl, hde, by rw [hP.sym]; exact h4⟩⟩)
/-- What is left when a list of arcs is taken away. -/
theorem remF_iff : ∀ (L : List (List Int)) (P : Nat → Nat → Bool) (i u : Nat), (∀ e ∈ L, ∃ v w : Nat, e = [(v : Int), (w : Int)]) → (L.foldl remE P i u = true ↔ P i u = true ∧ [(i : Int), (u : Int)] ∉ L ∧ [(u : Int), (i : Int)] ∉ L)
  | [], P, i, u, _ => by simp
  | e :: L, P, i, u, h => by
    obtain ⟨v, w, rfl⟩ := h _ (List.mem_cons_self ..)
    rw [List.foldl_cons, remF_iff L _ i u fun x hx => h x (List.mem_cons_of_mem _ hx)]
    have e1 : remE P [(v : Int), (w : Int)] i u = true ↔ P i u = true ∧ ¬ (i = v ∧ u = w) ∧ ¬ (i = w ∧ u = v) := by
      unfold remE remP
      simp only [List.getD_cons_zero, List.getD_cons_succ, Int.toNat_natCast, Bool.and_eq_true, Bool.not_eq_true', Bool.or_eq_false_iff, decide_eq_false_iff_not]
    have e2 : ∀ x y : Nat, ([(x : Int), (y : Int)] = [(v : Int), (w : Int)]) ↔ x = v ∧ y = w := fun x y => by simp; omega
    rw [e1, List.mem_cons, List.mem_cons, e2, e2]
    constructor
    · rintro ⟨⟨h1, h2, h3⟩, h4, h5⟩
      exact ⟨h1, fun h => h.elim h2 h4, fun h => h.elim (fun h => h3 ⟨h.2, h.1⟩) h5⟩
    · rintro ⟨h1, h2, h3⟩
      exact ⟨⟨h1, fun h => h2 (.inl h), fun h => h3 (.inl ⟨h.2, h.1⟩)⟩, fun h => h2 (.inr h), fun h => h3 (.inr h)⟩
theorem addF_iff : ∀ (L : List (List Int)) (Q : Nat → Nat → Bool) (i u : Nat), (∀ e ∈ L, ∃ v w : Nat, e = [(v : Int), (w : Int)]) → (L.foldl addE Q i u = true ↔ Q i u = true ∨ [(i : Int), (u : Int)] ∈ L)
  | [], Q, i, u, _ => by simp
  | e :: L, Q, i, u, h => by
    obtain ⟨v, w, rfl⟩ := h _ (List.mem_cons_self ..)
    rw [List.foldl_cons, addF_iff L _ i u fun x hx => h x (List.mem_cons_of_mem _ hx)]
    have e1 : addE Q [(v : Int), (w : Int)] i u = true ↔ Q i u = true ∨ (i = v ∧ u = w) := by
      unfold addE addQ
      simp only [List.getD_cons_zero, List.getD_cons_succ, Int.toNat_natCast, Bool.or_eq_true, decide_eq_true_eq]
    have e2 : ([(i : Int), (u : Int)] = [(v : Int), (w : Int)]) ↔ i = v ∧ u = w := by simp; omega
    rw [e1, List.mem_cons, e2, or_assoc]
/-- No arc forces its opposite. -/
def Cons (P : Nat → Nat → Bool) : Prop := ∀ a b, P a b = true → ¬ Fo P a b b a
theorem no_edges {n : Nat} {P : Nat → Nat → Bool} (hP : Gph n P) (h : edgesL n (gRows n P) = []) (x y : Nat) : P x y = false := by
  have key : ∀ v u : Nat, v < u → P v u = false := fun v u hvu => by
    cases hp : P v u with
    | false => rfl
    | true =>
      exfalso
      obtain ⟨hv, hu⟩ := hP.lt v u hp
      have hg := gRows_isG hP.n1 hP.n7 hP.sym hP.irr
      unfold edgesL edU at h
      rw [if_pos hg, List.flatMap_eq_nil_iff] at h
      have h1 := h v (List.mem_range.2 (by rw [gRows_length]; exact hv))
      unfold edRow at h1
      rw [List.map_eq_nil_iff, List.filter_eq_nil_iff] at h1
      have h2 := h1 u (List.mem_range.2 (by rw [gRows_length]; exact hu))
      rw [gRows_has hP.n7 P hv hu, hp, decide_eq_true hvu] at h2
      exact h2 rfl
  rcases Nat.lt_trichotomy x y with h1 | rfl | h1
  · exact key x y h1
  · exact hP.irr x
  · rw [hP.sym]; exact key y x h1
/-- One round of the program's search. -/
theorem ori_round {n : Nat} {P : Nat → Nat → Bool} (hP : Gph n P) {e : List Int} (he : e ∈ edgesL n (gRows n P)) : ∃ x y : Nat, e = [(x : Int), (y : Int)] ∧ P x y = true ∧
    (∀ p q, (forcedA (gRows n P) (e.getD 0 0) (e.getD 1 0)).1.foldl remE P p q = true ↔ P p q = true ∧ ¬ Fo P x y p q ∧ ¬ Fo P x y q p) ∧ (∀ Q p q, (forcedA (gRows n P) (e.getD 0 0) (e.getD 1 0)).1.foldl addE Q p q = true ↔ Q p q = true ∨ Fo P x y p q) ∧
    (([e.getD 1 0, e.getD 0 0] ∈ (forcedA (gRows n P) (e.getD 0 0) (e.getD 1 0)).1) ↔ Fo P x y y x) ∧ Gph n ((forcedA (gRows n P) (e.getD 0 0) (e.getD 1 0)).1.foldl remE P) := by
  obtain ⟨x, y, rfl, hxy, hy, _, hb⟩ := edges_mem he
  rw [gRows_length] at hy
  rw [gRows_has hP.n7 P (by omega) hy] at hb
  simp only [List.getD_cons_zero, List.getD_cons_succ]
  have hpair : ∀ z ∈ (forcedA (gRows n P) (x : Int) (y : Int)).1, ∃ v w : Nat, z = [(v : Int), (w : Int)] := fun z hz => by
    obtain ⟨v, u, e, _⟩ := bfs_sound hP hb 49 z hz
    exact ⟨v, u, e⟩
  have h1 : ∀ p q, (forcedA (gRows n P) (x : Int) (y : Int)).1.foldl remE P p q = true ↔ P p q = true ∧ ¬ Fo P x y p q ∧ ¬ Fo P x y q p := fun p q => by
    rw [remF_iff _ P p q hpair, forced_iff hP hb, forced_iff hP hb]
  refine ⟨x, y, rfl, hb, h1, fun Q p q => by rw [addF_iff _ Q p q hpair, forced_iff hP hb], forced_iff hP hb, ⟨hP.n1, hP.n7, remF_sym _ hP.sym, remF_irr hP.irr, fun p q h => hP.lt p q ((h1 p q).1 h).1⟩⟩
/-- What the program finds is a transitive orientation. -/
theorem oriF_tr {n : Nat} : ∀ (f : Nat) {P Q O : Nat → Nat → Bool}, Gph n P → oriF n f P Q = some O → ∃ T, TrO P T ∧ ∀ a b, O a b = true ↔ Q a b = true ∨ T a b
  | 0, _, _, _, _, h => by cases h
  | f + 1, P, Q, O, hP, h => by
    unfold oriF at h
    cases he : edgesL n (gRows n P) with
    | nil =>
      rw [he] at h
      injection h with h
      subst h
      have hn := no_edges hP he
      exact ⟨fun _ _ => False, ⟨fun _ _ h => h.elim, fun a b h => (by rw [hn] at h; cases h), fun _ _ h => h.elim, fun _ _ _ h => h.elim⟩, fun a b => by simp⟩
    | cons e r =>
      rw [he] at h
      dsimp only at h
      obtain ⟨x, y, _, hxy, h1, h2, h3, h4⟩ := ori_round hP (e := e) (by rw [he]; exact List.mem_cons_self ..)
      split at h
      · cases h
      · rename_i hno
        rw [h3] at hno
        obtain ⟨T, hT, hO⟩ := oriF_tr f h4 h
        exact ⟨_, tr_join hP.sym hP.irr hno h1 hT, fun a b => by rw [hO, h2, or_assoc]⟩
/-- If no arc forces its opposite, it finds one. -/
theorem oriF_finds {n : Nat} : ∀ (f : Nat) {P Q : Nat → Nat → Bool}, Gph n P → Cons P → cntP n P < f → (oriF n f P Q).isSome = true
  | 0, _, _, _, _, h => by omega
  | f + 1, P, Q, hP, hc, hf => by
    unfold oriF
    cases he : edgesL n (gRows n P) with
    | nil => rfl
    | cons e r =>
      dsimp only
      have hm : e ∈ edgesL n (gRows n P) := by rw [he]; exact List.mem_cons_self ..
      obtain ⟨x, y, _, hxy, h1, h2, h3, h4⟩ := ori_round hP hm
      have hr := roundO hP.n1 hP.n7 hP.irr hm
      rw [if_neg (fun h => hc x y hxy (h3.1 h))]
      exact oriF_finds f h4 (fun a b hab => class_away hP.sym hP.irr hc hxy h1 hab) (by have := hr.less; omega)
theorem TrO.cons {P : Nat → Nat → Bool} {F : Nat → Nat → Prop} (hs : ∀ x y, P x y = P y x) (hF : TrO P F) : Cons P := fun a b hab h => by
  rcases hF.all a b hab with h1 | h1
  · exact hF.asym a b h1 (hF.keeps hs h h1)
  · exact hF.asym b a h1 (hF.keeps hs (h.rev hs) h1)
/-- Found exactly if no arc forces its opposite, exactly if there is one. -/
theorem oriF_iff {n : Nat} {P : Nat → Nat → Bool} (hP : Gph n P) : ((oriF n 50 P fun _ _ => false).isSome = true ↔ Cons P) ∧ (Cons P ↔ ∃ F, TrO P F) := by
  have h1 : (oriF n 50 P fun _ _ => false).isSome = true → ∃ F, TrO P F := fun h => by
    obtain ⟨O, hO⟩ := Option.isSome_iff_exists.1 h
    obtain ⟨T, hT, _⟩ := oriF_tr 50 hP hO
    exact ⟨T, hT⟩
  have h2 : Cons P → (oriF n 50 P fun _ _ => false).isSome = true := fun h => oriF_finds 50 hP h (by
    have := cntP_le n P
    have := Nat.mul_le_mul hP.n7 hP.n7
    omega)
  have h3 : (∃ F, TrO P F) → Cons P := fun ⟨F, hF⟩ => hF.cons hP.sym
  exact ⟨⟨fun h => h3 (h1 h), h2⟩, ⟨fun h => h1 (h2 h), h3⟩⟩
end Go.Pw
/- The plain mathematics of FnPermutations: two orientations give a model; the longest lists are greatest cliques. -/
namespace Go.Pw
open Go
/-- A strict linear order of the first n vertices. -/
structure LinO (n : Nat) (F : Nat → Nat → Bool) : Prop where
  lt : ∀ x y, F x y = true → x < n ∧ y < n
  tot : ∀ x y, x < n → y < n → x ≠ y → F x y = true ∨ F y x = true
  asym : ∀ x y, F x y = true → F y x = false
  tr : ∀ x y z, F x y = true → F y z = true → F x z = true
/-- Transitive orientations of a graph and of its complement make a linear order. -/
theorem lin_join {n : Nat} {E E' O H : Nat → Nat → Bool} (hE : Gph n E) (hE' : Gph n E') (hex : ∀ x y, E x y = true → E' x y = false) (hall : ∀ x y, x < n → y < n → x ≠ y → E x y = true ∨ E' x y = true)
    (hO : TrO E fun a b => O a b = true) (hH : TrO E' fun a b => H a b = true) : LinO n fun u v => H u v || O u v := by
  have sO : ∀ {a b}, O a b = true → E a b = true := fun h => hO.sub _ _ h
  have sH : ∀ {a b}, H a b = true → E' a b = true := fun h => hH.sub _ _ h
  have no : ∀ {a b}, E a b = true → E' a b = true → False := fun h1 h2 => by rw [hex _ _ h1] at h2; cases h2
  have no' : ∀ {a b}, E a b = true → E' b a = true → False := fun h1 h2 => no h1 (by rw [hE'.sym]; exact h2)
  have tot : ∀ x y, x < n → y < n → x ≠ y → (O x y = true ∨ O y x = true) ∨ H x y = true ∨ H y x = true := fun x y hx hy hne => by
    rcases hall x y hx hy hne with h | h
    · exact .inl (hO.all x y h)
    · exact .inr (hH.all x y h)
  have lt : ∀ x y, (H x y || O x y) = true → x < n ∧ y < n := fun x y h => by
    rcases (Bool.or_eq_true _ _).mp h with h | h
    · exact hE'.lt x y (sH h)
    · exact hE.lt x y (sO h)
  refine ⟨lt, fun x y hx hy hne => ?_, fun x y h => ?_, fun x y z h1 h2 => ?_⟩
  · rcases tot x y hx hy hne with (h | h) | h | h
    · exact .inl (by rw [h]; simp)
    · exact .inr (by rw [h]; simp)
    · exact .inl (by rw [h]; simp)
    · exact .inr (by rw [h]; simp)
  · cases hyx : (H y x || O y x) with
    | false => rfl
    | true =>
      exfalso
      rcases (Bool.or_eq_true _ _).mp h with h | h <;> rcases (Bool.or_eq_true _ _).mp hyx with h' | h'
      · exact hH.asym x y h h'
      · exact no' (sO h') (sH h)
      · exact no' (sO h) (sH h')
      · exact hO.asym x y h h'
  · have hx := (lt x y h1).1
    have hz := (lt y z h2).2
    rw [Bool.or_eq_true]
    rcases (Bool.or_eq_true _ _).mp h1 with h1 | h1 <;> rcases (Bool.or_eq_true _ _).mp h2 with h2 | h2
    · exact .inl (hH.tr _ _ _ h1 h2)
    · have hne : x ≠ z := fun e => by subst e; exact no' (sO h2) (sH h1)
      rcases tot x z hx hz hne with (h | h) | h | h
      · exact .inr h
      · exact (no' (sO (hO.tr _ _ _ h2 h)) (sH h1)).elim
      · exact .inl h
      · exact (no' (sO h2) (sH (hH.tr _ _ _ h h1))).elim
    · have hne : x ≠ z := fun e => by subst e; exact no' (sO h1) (sH h2)
      rcases tot x z hx hz hne with (h | h) | h | h
      · exact .inr h
      · exact (no' (sO (hO.tr _ _ _ h h1)) (sH h2)).elim
      · exact .inl h
      · exact (no' (sO h1) (sH (hH.tr _ _ _ h2 h))).elim
    · exact .inr (hO.tr _ _ _ h1 h2)
theorem TrO.back {E O : Nat → Nat → Bool} (hs : ∀ x y, E x y = E y x) (h : TrO E fun a b => O a b = true) : TrO E fun a b => O b a = true :=
  ⟨fun a b h1 => by rw [hs]; exact h.sub _ _ h1, fun a b h1 => (h.all a b h1).symm, fun a b h1 => h.asym b a h1, fun a b c h1 h2 => h.tr _ _ _ h2 h1⟩
/-- Ranks. -/
theorem LinO.rank {n : Nat} {F : Nat → Nat → Bool} (h : LinO n F) {v w : Nat} (hvw : F v w = true) : cU F v n < cU F w n := by
  obtain ⟨hv, hw⟩ := h.lt v w hvw
  have hvv : F v v = false := by
    cases hf : F v v with
    | false => rfl
    | true => have := h.asym v v hf; rw [hf] at this; cases this
  unfold cU
  exact filter_lt (fun u => F u v) (fun u => F u w) (List.range n) (fun x _ hx => h.tr _ _ _ hx hvw) ⟨v, List.mem_range.2 hv, hvw, hvv⟩
theorem LinO.rank_lt {n : Nat} {F : Nat → Nat → Bool} (h : LinO n F) {v : Nat} (hv : v < n) : cU F v n < n := cU_lt hv (by
  cases hf : F v v with
  | false => rfl
  | true => have := h.asym v v hf; rw [hf] at this; cases this)
theorem LinO.rank_inj {n : Nat} {F : Nat → Nat → Bool} (h : LinO n F) {v w : Nat} (hv : v < n) (hw : w < n) (e : cU F v n = cU F w n) : v = w := by
  apply Classical.byContradiction
  intro hne
  rcases h.tot v w hv hw hne with h1 | h1
  · have := h.rank h1; omega
  · have := h.rank h1; omega
theorem LinO.at {n : Nat} {F : Nat → Nat → Bool} (h : LinO n F) : ∀ k, k ≤ n → ∀ v, v < k → (ordU n F k).getD (cU F v n) 0 = (v : Int)
  | 0, _, v, hv => by omega
  | k + 1, hk, v, hv => by
    have hl := ordU_len n F k
    rw [ordU]
    by_cases e : v = k
    · subst e
      have := h.rank_lt (v := v) (by omega)
      simp [List.getD, List.getElem?_set, hl, this]
    · have hne : cU F k n ≠ cU F v n := fun e' => e (h.rank_inj (by omega) (by omega) e'.symm)
      have := h.at k (by omega) v (by omega)
      simp only [List.getD, List.getElem?_set] at this ⊢
      rw [if_neg hne]; exact this
theorem LinO.hit {n : Nat} {F : Nat → Nat → Bool} (h : LinO n F) {i : Nat} (hi : i < n) : ∃ v, v < n ∧ cU F v n = i := by
  have hl : ((List.range n).map fun v => ((cU F v n : Nat) : Int)).length = n := by simp
  have hget : ∀ v, v < n → ((List.range n).map fun v => ((cU F v n : Nat) : Int)).getD v 0 = ((cU F v n : Nat) : Int) := fun v hv => by simp [List.getD, hv]
  have hm := order_mem (l := (List.range n).map fun v => ((cU F v n : Nat) : Int)) (n := n) (fun v hv => by
    rw [hl] at hv
    rw [hget v hv]
    have := h.rank_lt hv
    omega) (fun v hv w hw e => by
    rw [hl] at hv
    rw [hget v hv, hget w (by omega)] at e
    have := h.rank_inj (v := w) (w := v) (by omega) hv (by omega)
    omega) hl i hi
  obtain ⟨v, hv, e⟩ := List.mem_map.1 hm
  exact ⟨v, List.mem_range.1 hv, by omega⟩
/-- The order that the ranks give. -/
theorem LinO.order {n : Nat} {F : Nat → Nat → Bool} (h : LinO n F) {rows : List Int} (hg : IsG n rows) : orderP n rows (ordU n F n) ∧ ∀ v, v < n → placeL (ordU n F n) v = (cU F v n : Nat) := by
  have hl := ordU_len n F n
  have hat := h.at n (Nat.le_refl _)
  have hap : apartL (ordU n F n) := fun i hi j hj e => by
    rw [hl] at hi
    obtain ⟨v, hv, rfl⟩ := h.hit hi
    obtain ⟨w, hw, rfl⟩ := h.hit (show j < n by omega)
    rw [hat v hv, hat w hw] at e
    have : w = v := by omega
    subst this
    omega
  refine ⟨⟨⟨hg, fun i hi => ?_, hap⟩, by rw [hl]⟩, fun v hv => ?_⟩
  · rw [hl] at hi
    obtain ⟨v, hv, rfl⟩ := h.hit hi
    rw [hat v hv]
    omega
  · have := placeL_at hap (k := cU F v n) (by rw [hl]; exact h.rank_lt hv)
    rwa [hat v hv] at this
theorem LinO.place {n : Nat} {F : Nat → Nat → Bool} (h : LinO n F) {rows : List Int} (hg : IsG n rows) {v u : Nat} (hv : v < n) (hu : u < n) (hne : v ≠ u) : decide (placeL (ordU n F n) v < placeL (ordU n F n) u) = F v u := by
  obtain ⟨_, hp⟩ := h.order hg
  rw [hp v hv, hp u hu]
  cases hf : F v u with
  | true => exact decide_eq_true (by have := h.rank hf; omega)
  | false =>
    rcases h.tot v u hv hu hne with h1 | h1
    · rw [hf] at h1; cases h1
    · exact decide_eq_false (by have := h.rank h1; omega)
/-- A graph's bits. -/
theorem bits_gph {rows : List Int} {n : Nat} (hg : IsG n rows) : Gph n (bitsP rows) := by
  obtain ⟨m, hm, hrl, h1, h7⟩ := isG_size hg
  obtain rfl : n = m := by omega
  refine ⟨h1, h7, bits_sym hg, bits_irr hg, fun x y h => ?_⟩
  unfold bitsP at h
  rw [Bool.and_eq_true, decide_eq_true_iff] at h
  omega
theorem bits_has {rows : List Int} {n : Nat} (hg : IsG n rows) {x y : Nat} (hx : x < n) (hy : y < n) : bitsP rows x y = hasB (rows.getD x 0) (y : Int) := by
  obtain ⟨m, hm, hrl, h1, h7⟩ := isG_size hg
  unfold bitsP
  rw [decide_eq_true ⟨by omega, by omega⟩]; rfl
theorem ori_tr {rows : List Int} {n : Nat} (hg : IsG n rows) (h : (oriX n rows).isSome = true) : TrO (bitsP rows) fun a b => oriQ n rows a b = true := by
  obtain ⟨O, hO⟩ := Option.isSome_iff_exists.1 h
  have hq : oriQ n rows = O := by unfold oriQ; rw [hO]; rfl
  obtain ⟨m, hm, hrl, _, _⟩ := isG_size hg
  unfold oriX at hO
  rw [if_pos hg, show rows.length = n by omega] at hO
  obtain ⟨T, hT, hTO⟩ := oriF_tr 50 (bits_gph hg) hO
  rw [hq]
  have e : (fun a b => O a b = true) = T := by
    funext a b
    exact propext ⟨fun h => ((hTO a b).1 h).resolve_left (by simp), fun h => (hTO a b).2 (.inr h)⟩
  rw [e]; exact hT
theorem ori_some {rows : List Int} {n : Nat} (hg : IsG n rows) (F : Nat → Nat → Prop) (hF : TrO (bitsP rows) F) : (oriX n rows).isSome = true := by
  obtain ⟨m, hm, hrl, _, _⟩ := isG_size hg
  unfold oriX
  rw [if_pos hg, show rows.length = n by omega]
  obtain ⟨h1, h2⟩ := oriF_iff (bits_gph hg)
  exact h1.2 (h2.2 ⟨F, hF⟩)
theorem hasB_eNg {rows : List Int} {n : Nat} (hg : IsG n rows) (x y : Nat) (hy : y < n) : hasB (rows.getD x 0) (y : Int) = eN (rowN rows) x y := by
  have hr := ng_of hg rfl
  have h7 := pow_le7 hr.le
  have := hr.lt x
  have := hr.le
  rw [rowN_eq hg x, hasB_nat (by omega) (by omega)]; rfl
theorem bar_bits {rows : List Int} {n : Nat} (hg : IsG n rows) {x y : Nat} (hx : x < n) (hy : y < n) : bitsP (barL n rows) x y = (!bitsP rows x y && decide (x ≠ y)) := by
  have hb := bar_isG hg
  rw [bits_has hb hx hy, bits_has hg hx hy, hasB_eNg hb x y hy, hasB_eNg hg x y hy, bar_eN hg rfl hx hy]; rfl
/-- The model found is one. -/
theorem pm_good {rows : List Int} {n : Nat} (h : pmOk n rows = true) : pmodP n rows (pmA n rows) (pmB n rows) := by
  have hf := pm_facts h
  have hg := hf.isG
  have hz : barZ n rows = n := by unfold barZ; rw [if_pos hg]
  have hb := bar_isG hg
  have h2 := hf.two
  rw [hz] at h2
  obtain ⟨m, hm, hrl, _, _⟩ := isG_size hg
  have hrl' : rows.length = n := by omega
  have tO := ori_tr hg hf.one
  have tH := ori_tr hb h2
  have gE := bits_gph hg
  have gE' := bits_gph hb
  have hex : ∀ x y, bitsP rows x y = true → bitsP (barL n rows) x y = false := fun x y hxy => by
    obtain ⟨hx, hy⟩ := gE.lt x y hxy
    rw [bar_bits hg hx hy, hxy]; rfl
  have hall : ∀ x y, x < n → y < n → x ≠ y → bitsP rows x y = true ∨ bitsP (barL n rows) x y = true := fun x y hx hy hne => by
    rw [bar_bits hg hx hy]
    cases bitsP rows x y with
    | true => exact .inl rfl
    | false => exact .inr (by simp [hne])
  have eA : pmA n rows = ordU n (fun u v => oriQ n (barL n rows) u v || oriQ n rows u v) n := by
    unfold pmA
    rw [if_pos h, hrl']
    congr 1
    funext u v
    unfold pmFA; rw [hz]
  have eB : pmB n rows = ordU n (fun u v => oriQ n (barL n rows) u v || oriQ n rows v u) n := by
    unfold pmB
    rw [if_pos h, hrl']
    congr 1
    funext u v
    unfold pmFB; rw [hz]
  have lA := lin_join gE gE' hex hall tO tH
  have lB := lin_join (O := fun a b => oriQ n rows b a) gE gE' hex hall (TrO.back gE.sym tO) tH
  rw [eA, eB]
  refine ⟨(lA.order hg).1, (lB.order hg).1, fun v hv u hu => ?_⟩
  rw [hrl'] at hv
  have hun : u < n := by omega
  unfold turnQ
  rw [lA.place hg hv hun (by omega), lB.place hg hv hun (by omega), ← bits_has hg hv hun]
  have sO : ∀ {a b}, oriQ n rows a b = true → bitsP rows a b = true := fun h => tO.sub _ _ h
  have sH : ∀ {a b}, oriQ n (barL n rows) a b = true → bitsP (barL n rows) a b = true := fun h => tH.sub _ _ h
  cases hvu : bitsP rows v u with
  | true =>
    have n1 : oriQ n (barL n rows) v u = false := by
      cases hq : oriQ n (barL n rows) v u with
      | false => rfl
      | true => have := sH hq; rw [hex v u hvu] at this; cases this
    rw [n1, Bool.false_or, Bool.false_or]
    rcases tO.all v u hvu with h1 | h1
    · have h3 : oriQ n rows u v = false := by
        cases hq : oriQ n rows u v with
        | false => rfl
        | true => exact (tO.asym v u h1 hq).elim
      rw [h1, h3]; rfl
    · have h3 : oriQ n rows v u = false := by
        cases hq : oriQ n rows v u with
        | false => rfl
        | true => exact (tO.asym v u hq h1).elim
      rw [h1, h3]; rfl
  | false =>
    have n1 : oriQ n rows v u = false := by
      cases hq : oriQ n rows v u with
      | false => rfl
      | true => have := sO hq; rw [hvu] at this; cases this
    have n2 : oriQ n rows u v = false := by
      cases hq : oriQ n rows u v with
      | false => rfl
      | true => have := sO hq; rw [bits_sym hg, hvu] at this; cases this
    rw [n1, n2, Bool.or_false]
    cases oriQ n (barL n rows) v u <;> rfl
/-- The graph of a permutation is one with a model. -/
theorem gp_seen {p : List Int} {a b : Nat} (hb : b < p.length) (hab : a < b) : seenP (gpJ p) p.length 0 a b = fallF p a b ∧ seenP (gpJ p) p.length 0 b a = fallF p a b := by
  have h1 : bef p.length 0 a b = true := decide_eq_true (.inl hb)
  have h2 : decide (a < b) = true := decide_eq_true hab
  have h3 : decide (b < a) = false := decide_eq_false (by omega)
  unfold seenP
  rw [h1, h2, h3]
  simp [gpJ, fallF]
theorem gp_graph {p : List Int} (h : permP p) : gpZ p = p.length ∧ IsG (p.length : Int) (gpL p) ∧ ∀ a b, a < b → b < p.length → bitsP (gpL p) a b = fallF p a b := by
  have l1 : 1 ≤ p.length := by have := h.1; omega
  have l7 : p.length ≤ 7 := by have := h.1; omega
  have e1 : gpL p = gRows p.length (seenP (gpJ p) p.length 0) := if_pos h
  have hg : IsG (p.length : Int) (gpL p) := by rw [e1]; exact gRows_isG l1 l7 (fun i u => seenP_sym _ _ _ _ _) (fun i => seenP_irr _ _ _ _)
  refine ⟨if_pos h, hg, fun a b hab hb => ?_⟩
  rw [bits_has hg (by omega) hb, e1, gRows_has l7 _ (by omega) hb]
  exact (gp_seen hb hab).1
theorem perm_ne {p : List Int} (h : permP p) {a b : Nat} (hab : a < b) (hb : b < p.length) : p.getD a 0 ≠ p.getD b 0 := h.2.2 b hb a hab
theorem gp_model {p : List Int} (h : permP p) : pmOk (gpZ p) (gpL p) = true := by
  obtain ⟨hz, hg, hE⟩ := gp_graph h
  rw [hz]
  have hbz : barZ (p.length : Int) (gpL p) = p.length := by unfold barZ; rw [if_pos hg]
  have hb := bar_isG hg
  have gE := bits_gph hg
  have gE' := bits_gph hb
  unfold pmOk
  rw [hbz, Bool.and_eq_true]
  constructor
  · refine ori_some hg (fun a b => a < b ∧ bitsP (gpL p) a b = true) ⟨fun a b h => h.2, fun a b hab => ?_, fun a b h1 h2 => by omega, fun a b c h1 h2 => ?_⟩
    · rcases Nat.lt_trichotomy a b with h1 | rfl | h1
      · exact .inl ⟨h1, hab⟩
      · rw [gE.irr] at hab; cases hab
      · exact .inr ⟨h1, by rw [gE.sym]; exact hab⟩
    · obtain ⟨h3, h4⟩ := h1
      obtain ⟨h5, h6⟩ := h2
      have hc := (gE.lt _ _ h6).2
      rw [hE a b h3 (by omega)] at h4
      rw [hE b c h5 hc] at h6
      refine ⟨by omega, ?_⟩
      rw [hE a c (by omega) hc]
      unfold fallF at *
      simp only [decide_eq_true_eq] at *
      omega
  · refine ori_some hb (fun a b => a < b ∧ bitsP (barL p.length (gpL p)) a b = true) ⟨fun a b h => h.2, fun a b hab => ?_, fun a b h1 h2 => by omega, fun a b c h1 h2 => ?_⟩
    · rcases Nat.lt_trichotomy a b with h1 | rfl | h1
      · exact .inl ⟨h1, hab⟩
      · rw [gE'.irr] at hab; cases hab
      · exact .inr ⟨h1, by rw [gE'.sym]; exact hab⟩
    · obtain ⟨h3, h4⟩ := h1
      obtain ⟨h5, h6⟩ := h2
      have hc := (gE'.lt _ _ h6).2
      rw [bar_bits hg (by omega) (by omega), hE a b h3 (by omega)] at h4
      rw [bar_bits hg (by omega) hc, hE b c h5 hc] at h6
      refine ⟨by omega, ?_⟩
      rw [bar_bits hg (by omega) hc, hE a c (by omega) hc]
      have n1 := perm_ne h h3 (by omega)
      have n2 := perm_ne h h5 hc
      unfold fallF at *
      simp only [Bool.and_eq_true, Bool.not_eq_true', decide_eq_true_eq, decide_eq_false_iff_not] at *
      omega
/-- The members of a set in ascending order. -/
theorem listS_facts {X : Nat} (hX : X < 128) : (listS (X : Int)).Pairwise (fun a b => a < b) ∧ (∀ x : Nat, (x : Int) ∈ listS (X : Int) ↔ X.testBit x = true) ∧ (∀ y ∈ listS (X : Int), 0 ≤ y ∧ y < 7) ∧ (listS (X : Int)).length = cntN X := by
  have hl := listS_nat hX
  refine ⟨listS_pair X hX, fun x => ?_, fun y hy => ?_, by rw [hl, List.length_map]; rfl⟩
  · rw [hl, List.mem_map]
    constructor
    · rintro ⟨v, hv, e⟩
      have : v = x := Int.ofNat.inj e
      subst this
      exact (List.mem_filter.1 hv).2
    · intro h
      exact ⟨x, List.mem_filter.2 ⟨List.mem_range.2 (has_lt (n := 7) (by omega) h), h⟩, rfl⟩
  · rw [hl, List.mem_map] at hy
    obtain ⟨v, hv, rfl⟩ := hy
    have := List.mem_range.1 (List.mem_filter.1 hv).1
    exact ⟨by simp, by simp; omega⟩
theorem pair_get {l : List Int} (h : l.Pairwise (fun a b => a < b)) {i j : Nat} (hij : i < j) (hj : j < l.length) : l.getD i 0 < l.getD j 0 := by
  have := List.pairwise_iff_getElem.1 h i j (by omega) hj hij
  simpa [List.getD, hj, show i < l.length by omega] using this
theorem setX_list {X : Nat} (hX : X < 128) : setX (listS (X : Int)) = X ∧ okS (listS (X : Int)) := by
  obtain ⟨h1, h2, h3, h4⟩ := listS_facts hX
  have hok : okS (listS (X : Int)) := ⟨fun i hi => by have := h3 _ (getD_mem hi); omega, fun i hi j hj e => by have := pair_get h1 hj hi; omega⟩
  refine ⟨?_, hok⟩
  obtain ⟨S, e1, e2, e3⟩ := setU_nat (listS (X : Int)) (listS (X : Int)).length (fun i hi => by have := h3 _ (getD_mem hi); omega) hok.2
  unfold setX
  rw [if_pos hok, e1]
  congr 1
  apply Nat.eq_of_testBit_eq
  intro x
  by_cases hx : x ≤ 63
  · rw [Bool.eq_iff_iff, e3 x hx, ← h2 x]
    constructor
    · rintro ⟨i, hi, e⟩; rw [← e]; exact getD_mem hi
    · intro h
      obtain ⟨i, hi, e⟩ := mem_getD h
      exact ⟨i, hi, e⟩
  · have : ∀ Y : Nat, Y < 128 → Y.testBit x = false := fun Y hY => by
      cases h : Y.testBit x with
      | false => rfl
      | true => have := has_lt (n := 7) (by omega) h; omega
    rw [this S e2, this X hX]
/-- The first of the longest lists: its members stand in the relation, and there are no more of such. -/
theorem long_facts {R : Nat → Nat → Bool} {n : Nat} (hn1 : 1 ≤ n) (hn7 : n ≤ 7) (hR : ∀ a b c, a < b → b < c → c < n → R a b = true → R b c = true → R a c = true) :
    ∃ X : Nat, 0 < X ∧ X < 2 ^ n ∧ lspB R (2 ^ n) = listS (X : Int) ∧ (∀ x y, X.testBit x = true → X.testBit y = true → x < y → R x y = true) ∧ ∀ C : Nat, C < 2 ^ n → (∀ x y, C.testBit x = true → C.testBit y = true → x < y → R x y = true) → cntN C ≤ cntN X := by
  have h7 := pow_le7 hn7
  obtain ⟨s1, s2⟩ := lspB_spec R (2 ^ n)
  have hadj : ∀ C : Nat, C < 2 ^ n → (∀ x y, C.testBit x = true → C.testBit y = true → x < y → R x y = true) → adjF R (listS (C : Int)) := fun C hC h i hi => by
    obtain ⟨f1, f2, f3, f4⟩ := listS_facts (show C < 128 by omega)
    have m1 := getD_mem (l := listS (C : Int)) (k := i) (by omega)
    have m2 := getD_mem (l := listS (C : Int)) (k := i + 1) hi
    have b1 := f3 _ m1
    have b2 := f3 _ m2
    have hlt := pair_get f1 (show i < i + 1 by omega) hi
    refine h _ _ ((f2 _).1 ?_) ((f2 _).1 ?_) (by omega)
    · rw [Int.toNat_of_nonneg b1.1]; exact m1
    · rw [Int.toNat_of_nonneg b2.1]; exact m2
  have hpow : ∀ x, x < n → (2 ^ x) < 2 ^ n := fun x hx => Nat.pow_lt_pow_right (by omega) hx
  have hne : lspB R (2 ^ n) ≠ [] := fun e => by
    have h0 : (2 : Nat) ^ 0 < 2 ^ n := hpow 0 (by omega)
    have := s2 1 (by omega) h0 (hadj 1 h0 fun x y hx hy hxy => by
      have ex : x = 0 := by
        have := has_lt (s := 1) (n := 1) (by decide) hx; omega
      have ey : y = 0 := by
        have := has_lt (s := 1) (n := 1) (by decide) hy; omega
      omega)
    rw [e] at this
    have hl : (listS ((1 : Nat) : Int)).length = cntN 1 := (listS_facts (by omega)).2.2.2
    have h1 : cntN 1 = 1 := by decide
    exact this (.inl (by rw [hl, h1]; exact Nat.zero_lt_one))
  rcases s1 with h | ⟨X, x1, x2, x3, x4⟩
  · exact absurd h hne
  obtain ⟨f1, f2, f3, f4⟩ := listS_facts (show X < 128 by omega)
  refine ⟨X, x1, x2, x4, fun x y hx hy hxy => ?_, fun C hC h => ?_⟩
  · obtain ⟨i, hi, ei⟩ := mem_getD ((f2 x).2 hx)
    obtain ⟨j, hj, ej⟩ := mem_getD ((f2 y).2 hy)
    have hij : i < j := by
      refine Classical.byContradiction fun hn => ?_
      rcases Nat.lt_or_ge j i with h1 | h1
      · have := pair_get f1 h1 hi; omega
      · have : i = j := by omega
        subst this; omega
    have key : ∀ d, i + d + 1 < (listS (X : Int)).length → R ((listS (X : Int)).getD i 0).toNat ((listS (X : Int)).getD (i + d + 1) 0).toNat = true := by
      intro d
      induction d with
      | zero => intro hd; exact x3 i hd
      | succ d ih =>
        intro hd
        have h1 := ih (by omega)
        have h2 := x3 (i + d + 1) hd
        have l1 := pair_get f1 (show i < i + d + 1 by omega) (by omega)
        have l2 := pair_get f1 (show i + d + 1 < i + d + 1 + 1 by omega) hd
        have m0 := getD_mem (l := listS (X : Int)) (k := i) hi
        have m2 := getD_mem (l := listS (X : Int)) (k := i + d + 1 + 1) hd
        have b0 := f3 _ m0
        have b2 := f3 _ m2
        have hlt := has_lt x2 ((f2 ((listS (X : Int)).getD (i + d + 1 + 1) 0).toNat).1 (by rw [Int.toNat_of_nonneg b2.1]; exact m2))
        show R ((listS (X : Int)).getD i 0).toNat ((listS (X : Int)).getD (i + d + 1 + 1) 0).toNat = true
        have m1 := getD_mem (l := listS (X : Int)) (k := i + d + 1) (by omega)
        have b1 := f3 _ m1
        exact hR _ _ _ (by omega) (by omega) hlt h1 h2
    have := key (j - i - 1) (by omega)
    rw [show i + (j - i - 1) + 1 = j by omega, ei, ej] at this
    exact this
  · by_cases h0 : C = 0
    · subst h0
      have : cntN 0 = 0 := by decide
      omega
    · have := s2 C (by omega) hC (hadj C hC h)
      rw [x4] at this
      have hl : (listS (C : Int)).length = cntN C := (listS_facts (by omega)).2.2.2
      rw [← hl, ← f4]
      exact Nat.le_of_not_lt fun h => this (.inl h)
/-- What the law asks of the longest falling and rising lists. -/
structure LongOk (p l : List Int) (co : Bool) : Prop where
  ok : okS l
  set : if co = true then indepP p.length (gpL p) (setX l) else cliqueP p.length (gpL p) (setX l)
  top : (l.length : Int) = cntN (bestN (fun s => if co = true then decide (indepP p.length (gpL p) (s : Int)) else decide (cliqueP p.length (gpL p) (s : Int))) (2 ^ p.length))
theorem long_ok {p : List Int} (h : permP p) (co : Bool) : LongOk p (loL (if co = true then riseF else fallF) p) co := by
  obtain ⟨hz, hg, hE⟩ := gp_graph h
  have l1 : 1 ≤ p.length := by have := h.1; omega
  have l7 : p.length ≤ 7 := by have := h.1; omega
  have h7 := pow_le7 l7
  have hR : ∀ a b c, a < b → b < c → c < p.length → spF p (!co) a b = true → spF p (!co) b c = true → spF p (!co) a c = true := by
    intro a b c hab hbc hc h1 h2
    have n1 := perm_ne h hab (by omega)
    have n2 := perm_ne h hbc hc
    cases co with
    | false =>
      simp [spF] at h1 h2 ⊢
      simp only [List.getD] at n1 n2
      omega
    | true =>
      simp [spF] at h1 h2 ⊢
      simp only [List.getD] at n1 n2
      omega
  obtain ⟨X, x1, x2, x3, x4, x5⟩ := long_facts l1 l7 hR
  have el : loL (if co = true then riseF else fallF) p = listS (X : Int) := by
    rw [← x3]
    cases co with
    | false => exact (lspB_fall h).symm
    | true => exact (lspB_rise h).symm
  obtain ⟨f1, f2, f3, f4⟩ := listS_facts (show X < 128 by omega)
  obtain ⟨g1, g2⟩ := setX_list (show X < 128 by omega)
  rw [el]
  have eE : ∀ x y, x < y → y < p.length → eN (rowN (gpL p)) x y = fallF p x y := fun x y hxy hy => by rw [← hasB_eNg hg x y hy, ← bits_has hg (by omega) hy, hE x y hxy hy]
  have hs := eN_sym hg rfl
  -- sets of the law's kind are those whose pairs stand in the relation
  have kind : ∀ C : Nat, C < 2 ^ p.length → ((if co = true then decide (indepP p.length (gpL p) (C : Int)) else decide (cliqueP p.length (gpL p) (C : Int))) = true ↔ ∀ x y, C.testBit x = true → C.testBit y = true → x < y → spF p (!co) x y = true) := by
    intro C hC
    cases co with
    | false =>
      rw [if_neg Bool.false_ne_true, clique_om hg hC]
      constructor
      · intro hc x y hx hy hxy
        have := hc x y hx hy (by omega)
        rw [eE x y hxy (has_lt hC hy)] at this
        unfold spF fallF at *
        simpa using this
      · intro hc x y hx hy hne
        have key : ∀ x y, C.testBit x = true → C.testBit y = true → x < y → eN (rowN (gpL p)) x y = true := fun x y hx hy hxy => by
          rw [eE x y hxy (has_lt hC hy)]
          have := hc x y hx hy hxy
          unfold spF fallF at *
          simpa using this
        rcases Nat.lt_or_ge x y with h1 | h1
        · exact key x y hx hy h1
        · rw [hs]; exact key y x hy hx (by omega)
    | true =>
      rw [if_pos rfl, indep_om hg hC]
      constructor
      · intro hc x y hx hy hxy
        have := (coE_true.1 (hc x y hx hy (by omega))).1
        rw [eE x y hxy (has_lt hC hy)] at this
        unfold spF fallF at *
        simpa using this
      · intro hc x y hx hy hne
        have key : ∀ x y, C.testBit x = true → C.testBit y = true → x < y → eN (rowN (gpL p)) x y = false := fun x y hx hy hxy => by
          rw [eE x y hxy (has_lt hC hy)]
          have := hc x y hx hy hxy
          unfold spF fallF at *
          simpa using this
        refine coE_true.2 ⟨?_, hne⟩
        rcases Nat.lt_or_ge x y with h1 | h1
        · exact key x y hx hy h1
        · rw [hs]; exact key y x hy hx (by omega)
  have hX := (kind X x2).2 x4
  refine ⟨g2, ?_, ?_⟩
  · rw [g1]
    cases co with
    | false => exact of_decide_eq_true hX
    | true => exact of_decide_eq_true hX
  · rw [f4]
    congr 1
    obtain ⟨b1, b2⟩ := bestN_spec (fun s => if co = true then decide (indepP p.length (gpL p) (s : Int)) else decide (cliqueP p.length (gpL p) (s : Int))) (2 ^ p.length)
    have c1 := b2 X x2 hX
    have c2 : cntN (bestN (fun s => if co = true then decide (indepP p.length (gpL p) (s : Int)) else decide (cliqueP p.length (gpL p) (s : Int))) (2 ^ p.length)) ≤ cntN X := by
      rcases b1 with b1 | ⟨b1, b3⟩
      · rw [b1]
        have : cntN 0 = 0 := by decide
        omega
      · exact x5 _ b1 ((kind _ b1).1 b3)
    omega
end Go.Pw
/- Draws: any graph, a set, and what the laws of modules draw. -/
namespace Go.Proofs.YtmmflnigejfplaaGreat
open Go Go.RowKit Go.Pw
/-- Some graph, not always a good one, beside the cursor. -/
def AnyG (cv : Value) (l : List Int) (cb : Nat) (v : Value) (new : List Ob) : Prop := ∃ n gv rows i h, (-1 ≤ n ∧ n ≤ 8) ∧ (1 ≤ rows.length ∧ rows.length ≤ 7) ∧ storable gv = true ∧ v = .agg #[.int .i64 n, gv] ∧ (0 ≤ i ∧ i ≤ (l.length : Int)) ∧ new = [.row 3 gv (ints rows), .blk cb (cells3 cv i h)]
theorem en_s_l2Any : Entry Tryz.prog 87 := ⟨_, Tryz.func87, by kernel_rfl, rfl⟩
set_option maxRecDepth 100000 in
set_option maxHeartbeats 3200000 in
theorem s_l2Any_c (cv : Value) (l : List Int) (cb : Nat) (i h : Int) (w : World) (hcp : CodeP w cv l) (hi : 0 ≤ i ∧ i ≤ (l.length : Int)) (ho : Own w [.blk cb (cells3 cv i h)]) :
    GivesU Tryz.prog 87 #[.pointer (some ⟨cb, 0, none⟩)] w [.blk cb (cells3 cv i h)] (fun v new => AnyG cv l cb v new) := by
  have hap := code_apart hcp ho
  refine givesU_enterX (X := [cb]) (args := [_]) rfl ho en_s_l2Any Tryz.func87 rfl Tryz.ntmps87 rfl ?_
  have hm4 : ∀ y ∈ [(0 : Int), -1, 8, 3], -1 ≤ y ∧ y ≤ 8 := by decide
  have hlenG : ∀ (n : Int) (P : Rel), 1 ≤ n ∧ n ≤ 6 → 1 ≤ (gRows n.toNat P).length ∧ (gRows n.toNat P).length ≤ 7 := fun n P hn => by rw [gRows_length]; omega
  repeat' (first | apply pwp_seq | apply pwp_region | (apply px_run; (first | (apply opv_move; first | exact hid_ptr rfl) | (apply opv_assign; first | exact hid_bool rfl) | (apply opv_eql <;> rfl) | (apply opv_field fld_G0; rfl) | (apply opv_field fld_G1; rfl) | (apply opv_load_blk 0; (first | with_reducible exact sc_ints); rfl; rfl; rfl) | (apply opv_index_nat (vs := ints _) el_int; rfl; rfl; (first | exact rd_row 3 rfl); (first | (simp [ints]; omega))) | (apply opv_load_str 1 st_G; rfl; rfl; rfl) | (apply opv_load_str 2 st_G; rfl; rfl; rfl)); rfl; rfl) | apply px_nil | apply qseq_normal | apply pwp_block | apply qblock_normal | apply pwp_skip | apply pwp_ret | (apply pwp_region_any [0, 1, 2] [6] 4 (Cl [cb] w [.blk _ [.int .i64 n, gv], .row _ gv (ints (gRows n.toNat P))]); kernel_rfl; decide +kernel; exact Cl.stable _ _ _; exact fun w h => h.sub (by repeat (first | apply List.Sublist.cons_cons | exact List.sublist_append_left _ _ | apply List.Sublist.cons))) | apply qlooks_normal | (apply qstep_out; decide +kernel) | (apply qstep_in; exact fun w h => h.sub (by repeat (first | apply List.Sublist.cons_cons | exact List.sublist_append_left _ _ | apply List.Sublist.cons))) | (apply pxa_nil; decide +kernel) | (apply pxa_one 3; decide +kernel; rfl) | (apply pxa_one 4; decide +kernel; rfl) | (apply pxa_one 5; decide +kernel; rfl) | (apply pxa_one 6; decide +kernel; rfl) | (apply pwp_cond_dec; rfl; all_goals (intro hc; try (first | fail))) | (apply px_givesV [1]; rfl; rfl; rfl; rfl; rfl; (exact fun w' hw ho' => s_l2Draw_c cv l cb _ _ w' (hcp.at hap hw) (by assumption) ho'); rintro _ _ ⟨n, hn, gv, P, ci, ch, hP, hgv, rfl, hi, rfl⟩) | (apply px_givesV [2]; rfl; rfl; rfl; rfl; rfl; (exact fun w' hw ho' => s_l1Below_c cv l cb _ _ _ w' (hcp.at hap hw) (by assumption) ho'); rintro _ _ ⟨x, hx, rfl, ⟨ci, ch, hi, rfl⟩⟩) | (apply px_givesV [1]; rfl; rfl; rfl; rfl; rfl; (exact fun w' hw ho' => s_l1PickInt_c cv _ l [0, -1, 8, 3] cb _ _ w' (hcp.at hap hw) (by assumption) ho' (hw.rowArr (k := 0) rfl) (hw.rowNe 0 0 rfl rfl) (by decide)); rintro _ _ ⟨y, hy, rfl, ⟨ci, ch, hi, rfl⟩⟩) | (apply px_givesV [1]; rfl; rfl; rfl; rfl; rfl; (exact fun w' hw ho' => s_l1PickInt_c cv _ l [-1, 1, 2, 128, 9223372036854775807] cb _ _ w' (hcp.at hap hw) (by assumption) ho' (hw.rowArr (k := 0) rfl) (hw.rowNe 0 0 rfl rfl) (by decide)); rintro _ _ ⟨y, hy, rfl, ⟨ci, ch, hi, rfl⟩⟩) | (apply px_lit4 ez_int; rfl; (intro w hw; rfl); rfl; (intro w hw; rfl); rfl; (intro w hw; rfl); rfl; (intro w hw; rfl); rfl; rfl; rfl; intro sv) | (apply px_lit5 ez_int; rfl; rfl; rfl; rfl; rfl; rfl; rfl; rfl; rfl; rfl; rfl; rfl; rfl; intro sv) | (apply px_alloc st_G; rfl; rfl; rfl; intro bk) | (apply px_store_str 0 st_G; rfl; rfl; rfl; rfl; rfl; (intro w hw; (first | refine all2 rfl ?_ ?_) <;> (first | rfl | assumption)); rfl) | (apply px_store_str 3 st_G; rfl; rfl; rfl; rfl; rfl; (intro w hw; (first | refine all2 rfl ?_ ?_) <;> (first | rfl | assumption)); rfl) | (apply px_store_str 4 st_G; rfl; rfl; rfl; rfl; rfl; (intro w hw; (first | refine all2 rfl ?_ ?_) <;> (first | rfl | assumption)); rfl) | (apply px_store_blk 2; (first | with_reducible exact co_int); rfl; rfl; rfl; (intro w hw; (first | rfl)); rfl; rfl) | (apply px_store_int 3 co_int; rfl; rfl; rfl; (first | (simp; omega)); rfl))
  all_goals first
    | (refine qbody_cell 0 rfl st_G rfl rfl rfl ⟨_, ⟨_, gv, _, ci, ch, ?_, ?_, hgv, rfl, hi, rfl⟩, fun w' hw => (by have h := hw; exact Cl.ofSel (by assumption) (by repeat (first | exact sel_nil | refine sel_cons 0 rfl ?_ | refine sel_cons 1 rfl ?_ | refine sel_cons 2 rfl ?_ | refine sel_cons 3 rfl ?_ | refine sel_cons 4 rfl ?_ | refine sel_cons 5 rfl ?_ | refine sel_cons 6 rfl ?_ | refine sel_cons 7 rfl ?_ | refine sel_cons 8 rfl ?_ | refine sel_cons 9 rfl ?_ | refine sel_cons 10 rfl ?_ | refine sel_cons 11 rfl ?_ | refine sel_cons 12 rfl ?_ | refine sel_cons 13 rfl ?_)))⟩
       · first | omega | exact hm4 _ hy
       · first | exact hlenG n P hn | (rw [List.length_set]; exact hlenG n P hn))
    | (refine qbody_cell 1 rfl st_G rfl rfl rfl ⟨_, ⟨_, gv, _, ci, ch, ?_, ?_, hgv, rfl, hi, rfl⟩, fun w' hw => (by have h := hw; exact Cl.ofSel (by assumption) (by repeat (first | exact sel_nil | refine sel_cons 0 rfl ?_ | refine sel_cons 1 rfl ?_ | refine sel_cons 2 rfl ?_ | refine sel_cons 3 rfl ?_ | refine sel_cons 4 rfl ?_ | refine sel_cons 5 rfl ?_ | refine sel_cons 6 rfl ?_ | refine sel_cons 7 rfl ?_ | refine sel_cons 8 rfl ?_ | refine sel_cons 9 rfl ?_ | refine sel_cons 10 rfl ?_ | refine sel_cons 11 rfl ?_ | refine sel_cons 12 rfl ?_ | refine sel_cons 13 rfl ?_)))⟩
       · first | omega | exact hm4 _ hy
       · first | exact hlenG n P hn | (rw [List.length_set]; exact hlenG n P hn))
    | (refine qbody_cell 2 rfl st_G rfl rfl rfl ⟨_, ⟨_, gv, _, ci, ch, ?_, ?_, hgv, rfl, hi, rfl⟩, fun w' hw => (by have h := hw; exact Cl.ofSel (by assumption) (by repeat (first | exact sel_nil | refine sel_cons 0 rfl ?_ | refine sel_cons 1 rfl ?_ | refine sel_cons 2 rfl ?_ | refine sel_cons 3 rfl ?_ | refine sel_cons 4 rfl ?_ | refine sel_cons 5 rfl ?_ | refine sel_cons 6 rfl ?_ | refine sel_cons 7 rfl ?_ | refine sel_cons 8 rfl ?_ | refine sel_cons 9 rfl ?_ | refine sel_cons 10 rfl ?_ | refine sel_cons 11 rfl ?_ | refine sel_cons 12 rfl ?_ | refine sel_cons 13 rfl ?_)))⟩
       · first | omega | exact hm4 _ hy
       · first | exact hlenG n P hn | (rw [List.length_set]; exact hlenG n P hn))
    | (refine qbody_cell 3 rfl st_G rfl rfl rfl ⟨_, ⟨_, gv, _, ci, ch, ?_, ?_, hgv, rfl, hi, rfl⟩, fun w' hw => (by have h := hw; exact Cl.ofSel (by assumption) (by repeat (first | exact sel_nil | refine sel_cons 0 rfl ?_ | refine sel_cons 1 rfl ?_ | refine sel_cons 2 rfl ?_ | refine sel_cons 3 rfl ?_ | refine sel_cons 4 rfl ?_ | refine sel_cons 5 rfl ?_ | refine sel_cons 6 rfl ?_ | refine sel_cons 7 rfl ?_ | refine sel_cons 8 rfl ?_ | refine sel_cons 9 rfl ?_ | refine sel_cons 10 rfl ?_ | refine sel_cons 11 rfl ?_ | refine sel_cons 12 rfl ?_ | refine sel_cons 13 rfl ?_)))⟩
       · first | omega | exact hm4 _ hy
       · first | exact hlenG n P hn | (rw [List.length_set]; exact hlenG n P hn))
    | (refine qbody_cell 4 rfl st_G rfl rfl rfl ⟨_, ⟨_, gv, _, ci, ch, ?_, ?_, hgv, rfl, hi, rfl⟩, fun w' hw => (by have h := hw; exact Cl.ofSel (by assumption) (by repeat (first | exact sel_nil | refine sel_cons 0 rfl ?_ | refine sel_cons 1 rfl ?_ | refine sel_cons 2 rfl ?_ | refine sel_cons 3 rfl ?_ | refine sel_cons 4 rfl ?_ | refine sel_cons 5 rfl ?_ | refine sel_cons 6 rfl ?_ | refine sel_cons 7 rfl ?_ | refine sel_cons 8 rfl ?_ | refine sel_cons 9 rfl ?_ | refine sel_cons 10 rfl ?_ | refine sel_cons 11 rfl ?_ | refine sel_cons 12 rfl ?_ | refine sel_cons 13 rfl ?_)))⟩
       · first | omega | exact hm4 _ hy
       · first | exact hlenG n P hn | (rw [List.length_set]; exact hlenG n P hn))
    | (refine qbody_cell 5 rfl st_G rfl rfl rfl ⟨_, ⟨_, gv, _, ci, ch, ?_, ?_, hgv, rfl, hi, rfl⟩, fun w' hw => (by have h := hw; exact Cl.ofSel (by assumption) (by repeat (first | exact sel_nil | refine sel_cons 0 rfl ?_ | refine sel_cons 1 rfl ?_ | refine sel_cons 2 rfl ?_ | refine sel_cons 3 rfl ?_ | refine sel_cons 4 rfl ?_ | refine sel_cons 5 rfl ?_ | refine sel_cons 6 rfl ?_ | refine sel_cons 7 rfl ?_ | refine sel_cons 8 rfl ?_ | refine sel_cons 9 rfl ?_ | refine sel_cons 10 rfl ?_ | refine sel_cons 11 rfl ?_ | refine sel_cons 12 rfl ?_ | refine sel_cons 13 rfl ?_)))⟩
       · first | omega | exact hm4 _ hy
       · first | exact hlenG n P hn | (rw [List.length_set]; exact hlenG n P hn))
    | (refine qbody_cell 6 rfl st_G rfl rfl rfl ⟨_, ⟨_, gv, _, ci, ch, ?_, ?_, hgv, rfl, hi, rfl⟩, fun w' hw => (by have h := hw; exact Cl.ofSel (by assumption) (by repeat (first | exact sel_nil | refine sel_cons 0 rfl ?_ | refine sel_cons 1 rfl ?_ | refine sel_cons 2 rfl ?_ | refine sel_cons 3 rfl ?_ | refine sel_cons 4 rfl ?_ | refine sel_cons 5 rfl ?_ | refine sel_cons 6 rfl ?_ | refine sel_cons 7 rfl ?_ | refine sel_cons 8 rfl ?_ | refine sel_cons 9 rfl ?_ | refine sel_cons 10 rfl ?_ | refine sel_cons 11 rfl ?_ | refine sel_cons 12 rfl ?_ | refine sel_cons 13 rfl ?_)))⟩
       · first | omega | exact hm4 _ hy
       · first | exact hlenG n P hn | (rw [List.length_set]; exact hlenG n P hn))
/-- Some graph that a draw hands back. -/
def DrG (n : Int) (gv : Value) (rows : List Int) : Prop := (-1 ≤ n ∧ n ≤ 8) ∧ (1 ≤ rows.length ∧ rows.length ≤ 7) ∧ storable gv = true
theorem nox {cv : Value} {l : List Int} : ∀ b off n c, cv = .slice (some ⟨b, off, none⟩) n c → b ∈ ([] : List Nat) → byts l = [] := fun _ _ _ _ _ h => absurd h List.not_mem_nil
end Go.Proofs.YtmmflnigejfplaaGreat
/- The plain mathematics of searches through all lists of four. -/
namespace Go.Pw
open Go
theorem firstG_pre {N : Nat} {ok : List Int → Int → Bool} {fin : List Int → Bool} : ∀ (d : Nat) (l L : List Int), firstG N ok fin d l = some L → (∃ m, L = l ++ m) ∧ fin L = true
  | 0, l, L, h => by
    unfold firstG at h
    split at h
    · obtain rfl := Option.some.inj h; exact ⟨⟨[], by simp⟩, by assumption⟩
    · cases h
  | d + 1, l, L, h => by
    unfold firstG at h
    obtain ⟨v, _, hv⟩ := List.exists_of_findSome?_eq_some h
    split at hv
    · obtain ⟨⟨m, hm⟩, hf⟩ := firstG_pre d _ L hv
      exact ⟨⟨(v : Int) :: m, by rw [hm]; simp⟩, hf⟩
    · cases hv
theorem apart_pre {l m : List Int} {v : Int} (h : apartL (l ++ [v] ++ m)) : v ∉ l := fun hv => by
  obtain ⟨i, hi, rfl⟩ := mem_getD hv
  refine h l.length (by simp) i hi ?_
  simp [List.getD, hi, List.getElem?_append_left, List.getElem?_append]
/-- Where the end asks for different members, the search need not. -/
theorem firstG_all4 {N : Nat} {fin : List Int → Bool} (hf : ∀ L, fin L = true → apartL L) : ∀ (d : Nat) (l : List Int), firstG N (okI fun _ => true) fin d l = firstG N (fun _ _ => true) fin d l
  | 0, _ => rfl
  | d + 1, l => by
    unfold firstG
    refine findSome_congr fun v _ => ?_
    by_cases h : (v : Int) ∈ l
    · have h1 : okI (fun _ => true) l (v : Int) = false := by simp [okI, h]
      rw [if_neg (by rw [h1]; exact Bool.false_ne_true), if_pos rfl]
      cases hg : firstG N (fun _ _ => true) fin d (l ++ [(v : Int)]) with
      | none => rfl
      | some L =>
        obtain ⟨⟨m, hm⟩, hL⟩ := firstG_pre d _ L hg
        exact (apart_pre (m := m) (by rw [← hm]; exact hf L hL) h).elim
    · have h1 : okI (fun _ => true) l (v : Int) = true := by simp [okI, h]
      rw [if_pos h1, if_pos rfl, firstG_all4 hf d]
/-- The four members that a number codes. -/
def digs (N c : Nat) : List Int := [((c / (N * N * N) : Nat) : Int), ((c / (N * N) % N : Nat) : Int), ((c / N % N : Nat) : Int), ((c % N : Nat) : Int)]
def fourK (N : Nat) (fin : List Int → Bool) (k : Nat) : Option (List Int) := (List.range k).findSome? fun c => if fin (digs N c) = true then some (digs N c) else none
theorem digs_of {N a b c d : Nat} (hb : b < N) (hc : c < N) (hd : d < N) : digs N (((a * N + b) * N + c) * N + d) = [(a : Int), (b : Int), (c : Int), (d : Int)] := by
  have hN : 0 < N := by omega
  have q : ∀ x y, y < N → (x * N + y) / N = x := fun x y hy => by
    rw [Nat.add_comm, Nat.add_mul_div_right _ _ hN, Nat.div_eq_of_lt hy, Nat.zero_add]
  have m : ∀ x y, y < N → (x * N + y) % N = y := fun x y hy => by
    rw [Nat.add_comm, Nat.add_mul_mod_self_right, Nat.mod_eq_of_lt hy]
  have e1 : (((a * N + b) * N + c) * N + d) / (N * N * N) = a := by rw [← Nat.div_div_eq_div_mul, ← Nat.div_div_eq_div_mul, q _ _ hd, q _ _ hc, q _ _ hb]
  have e2 : (((a * N + b) * N + c) * N + d) / (N * N) % N = b := by rw [← Nat.div_div_eq_div_mul, q _ _ hd, q _ _ hc, m _ _ hb]
  have e3 : (((a * N + b) * N + c) * N + d) / N % N = c := by rw [q _ _ hd, m _ _ hc]
  unfold digs
  rw [e1, e2, e3, m _ _ hd]
theorem four_first (N : Nat) (fin : List Int → Bool) : firstG N (fun _ _ => true) fin 4 [] = fourK N fin (N * N * N * N) := by
  unfold fourK
  rw [← range_nest N _ (N * N * N), ← range_nest N _ (N * N), ← range_nest N _ N]
  show (List.range N).findSome? _ = _
  refine findSome_congr fun a _ => ?_
  rw [if_pos rfl]
  show (List.range N).findSome? _ = _
  refine findSome_congr fun b hb => ?_
  rw [if_pos rfl]
  show (List.range N).findSome? _ = _
  refine findSome_congr fun c hc => ?_
  rw [if_pos rfl]
  show (List.range N).findSome? _ = _
  refine findSome_congr fun d hd => ?_
  rw [if_pos rfl, digs_of (List.mem_range.1 hb) (List.mem_range.1 hc) (List.mem_range.1 hd)]
  rfl
def fourX (size : Int) (rows : List Int) (fin : List Int → Bool) : Option (List Int) := if IsG size rows then fourK size.toNat fin (size.toNat * size.toNat * size.toNat * size.toNat) else none
theorem four_firstX {size : Int} {rows : List Int} {fin : List Int → Bool} (hf : ∀ L, fin L = true → apartL L) : firstX size rows (fun _ => true) fin 4 = fourX size rows fin := by
  unfold firstX fourX
  rw [firstG_all4 hf, four_first]
theorem fourK_succ (N : Nat) (fin : List Int → Bool) (k : Nat) (h : fourK N fin k = none) : fourK N fin (k + 1) = if fin (digs N k) = true then some (digs N k) else none := by
  unfold fourK at h ⊢
  rw [List.range_succ, List.findSome?_append, h]; simp
theorem fourK_hit {N k M : Nat} {fin : List Int → Bool} (h : fourK N fin k = none) (hk : k < M) (hf : fin (digs N k) = true) : fourK N fin M = some (digs N k) := by
  have h1 := fourK_succ N fin k h
  rw [if_pos hf] at h1
  unfold fourK at h1 ⊢
  have hm : List.range M = List.range (k + 1) ++ (List.range (M - (k + 1))).map (fun x => k + 1 + x) := by rw [← List.range_add]; congr 1; omega
  rw [hm]
  exact findSome_prefix _ _ _ _ h1
theorem fourX_len (size : Int) (rows : List Int) (fin : List Int → Bool) : ((fourX size rows fin).getD []).length ≤ 4 := by
  cases h : fourX size rows fin with
  | none => simp
  | some L =>
    unfold fourX at h
    split at h
    · obtain ⟨c, _, hc⟩ := List.exists_of_findSome?_eq_some h
      split at hc
      · obtain rfl := Option.some.inj hc; simp [digs]
      · cases hc
    · cases h
theorem pow_bounds {N : Nat} (h1 : 1 ≤ N) (h7 : N ≤ 7) : (1 ≤ (N : Int) * N ∧ (N : Int) * N ≤ 49) ∧ (1 ≤ (N : Int) * N * N ∧ (N : Int) * N * N ≤ 343) ∧ (1 ≤ (N : Int) * N * N * N ∧ (N : Int) * N * N * N ≤ 2401) := by
  have : N = 1 ∨ N = 2 ∨ N = 3 ∨ N = 4 ∨ N = 5 ∨ N = 6 ∨ N = 7 := by omega
  rcases this with rfl | rfl | rfl | rfl | rfl | rfl | rfl <;> decide
theorem digs_int {N c : Nat} (hc : c ≤ 2401) :
    w64 ((c : Int).tdiv ((N : Int) * N * N)) = ((c / (N * N * N) : Nat) : Int) ∧ (w64 ((c : Int).tdiv ((N : Int) * N))).tmod N = ((c / (N * N) % N : Nat) : Int) ∧ (w64 ((c : Int).tdiv N)).tmod N = ((c / N % N : Nat) : Int) ∧ (c : Int).tmod N = ((c % N : Nat) : Int) := by
  have q : ∀ m : Nat, w64 ((c : Int).tdiv (m : Int)) = ((c / m : Nat) : Int) := fun m => by
    rw [← Int.ofNat_tdiv]
    have := Nat.div_le_self c m
    generalize c / m = k at this
    exact w64_in ⟨by omega, by omega⟩
  have e3 : (N : Int) * N * N = ((N * N * N : Nat) : Int) := by simp
  have e2 : (N : Int) * N = ((N * N : Nat) : Int) := by simp
  rw [e3, e2, q, q, q]
  refine ⟨rfl, ?_, ?_, ?_⟩ <;> rw [← Int.ofNat_tmod]
/-- Holes of at least m vertices, the shortest first. -/
def holeT (size : Int) (rows : List Int) (n : Nat) : Option (List Int) := firstX size rows (fun l => decide (l.length = n) || decide (pathP size rows l)) (fun l => decide (holeP size rows l)) n
def holeK (size : Int) (rows : List Int) (k : Nat) : Option (List Int) := (List.range k).findSome? fun i => holeT size rows (4 + i)
def holeX (size : Int) (rows : List Int) : Option (List Int) := holeK size rows (size.toNat - 3)
theorem holeK_succ (size : Int) (rows : List Int) (k : Nat) (h : holeK size rows k = none) : holeK size rows (k + 1) = holeT size rows (4 + k) := by
  unfold holeK at h ⊢
  rw [List.range_succ, List.findSome?_append, h]; simp
theorem holeK_hit {size : Int} {rows : List Int} {k M : Nat} {L : List Int} (h : holeK size rows k = none) (hk : k < M) (hf : holeT size rows (4 + k) = some L) : holeK size rows M = some L := by
  have h1 := holeK_succ size rows k h
  rw [hf] at h1
  unfold holeK at h1 ⊢
  have hm : List.range M = List.range (k + 1) ++ (List.range (M - (k + 1))).map (fun x => k + 1 + x) := by rw [← List.range_add]; congr 1; omega
  rw [hm]
  exact findSome_prefix _ _ _ _ h1
theorem holeX_none {size : Int} {rows : List Int} (h : ¬ IsG size rows) : holeX size rows = none := by
  unfold holeX holeK
  rw [List.findSome?_eq_none_iff]
  intro i _
  unfold holeT firstX
  rw [if_neg h]
theorem holeX_len {size : Int} {rows : List Int} : ((holeX size rows).getD []).length ≤ 7 := by
  by_cases hg : IsG size rows
  · cases h : holeX size rows with
    | none => simp
    | some L =>
      obtain ⟨i, hi, hL⟩ := List.exists_of_findSome?_eq_some h
      have h2 := firstX_len (size := size) (rows := rows) (may := fun l => decide (l.length = 4 + i) || decide (pathP size rows l)) (fin := fun l => decide (holeP size rows l)) (n := 4 + i)
      have h3 := hg.1.2
      have h4 := List.mem_range.1 hi
      unfold holeT at hL
      rw [hL] at h2
      simp only [Option.getD_some] at h2 ⊢
      omega
  · rw [holeX_none hg]; simp
/-- The reference's search for a hole of m + 1 vertices. -/
theorem hole_firstR {size : Int} {rows : List Int} {m : Nat} (hg : IsG size rows) :
    firstG size.toNat (okR (fun x => decide (pathP size rows x)) (fun x => decide (holeP size rows x)) (m + 1) true) (finS (fun x => decide (holeP size rows x)) true) (m + 1) [] = holeT size rows (m + 1) := by
  unfold holeT firstX
  rw [if_pos hg]
  refine firstG_congr (n := m + 1) (fun l v _ h => ?_) (fun l v _ h => ?_) m [] (by simp)
  · have h1 : ¬ l.length + 1 = m + 1 := by omega
    have := path_okI (size := size) (rows := rows) l (v : Int)
    unfold okI at this ⊢
    unfold okR
    dsimp only at this ⊢
    rw [← this]
    simp [h1, show ¬ l.length = m by omega]
  · have h1 : (l ++ [(v : Int)]).length = m + 1 := by simp; omega
    unfold okR okI finS
    simp only [h1, h, decide_true, Bool.true_and, Bool.true_or, if_true, Bool.and_true]
    by_cases hh : holeP size rows (l ++ [(v : Int)])
    · have := apart_last hh.2.1.2.2
      simp [hh, this]
    · simp [hh]
def splitObsX (size : Int) (rows : List Int) : Option (List Int) := (fourX size rows fun l => decide (twoP size rows l)).or (holeX size rows)
theorem splitObs_len {size : Int} {rows : List Int} : ((splitObsX size rows).getD []).length ≤ 7 := by
  unfold splitObsX
  have h1 := fourX_len size rows fun l => decide (twoP size rows l)
  have h2 := holeX_len (size := size) (rows := rows)
  cases h : fourX size rows fun l => decide (twoP size rows l) with
  | none => simpa using h2
  | some L => rw [h] at h1; simp at h1 ⊢; omega
theorem two_apart {size : Int} {rows : List Int} (L : List Int) (h : decide (twoP size rows L) = true) : apartL L := (of_decide_eq_true h).2.1.2.2
theorem thrObs_apart {size : Int} {rows : List Int} (L : List Int) (h : decide (thrObsP size rows L) = true) : apartL L := by
  rcases (of_decide_eq_true h).2 with h | h | h
  · exact h.2.1.2.2
  · exact h.2.1.2.2
  · exact h.2.1.2.2
end Go.Pw
/- The plain mathematics of threshold orders. -/
namespace Go.Pw
open Go

/-- May a vertex be taken from those left? -/
def thrQ (rows : List Int) (left : Int) (v : Nat) : Prop := hasB left v = true ∧ (iand (rows.getD v 0) left = 0 ∨ iand (rows.getD v 0) left = left - ishl 1 v)
instance (rows : List Int) (left : Int) (v : Nat) : Decidable (thrQ rows left v) := by unfold thrQ; infer_instance
/-- The greatest one below k, -1 if there is none. -/
def bestU (rows : List Int) (left : Int) : Nat → Int
  | 0 => -1
  | k + 1 => if thrQ rows left k then k else bestU rows left k
theorem bestU_range (rows : List Int) (left : Int) : ∀ k : Nat, -1 ≤ bestU rows left k ∧ bestU rows left k < k ∧ (0 ≤ bestU rows left k → thrQ rows left (bestU rows left k).toNat)
  | 0 => ⟨by simp [bestU], by simp [bestU], fun h => by simp [bestU] at h⟩
  | k + 1 => by
    obtain ⟨h1, h2, h3⟩ := bestU_range rows left k
    unfold bestU
    split
    · next h => exact ⟨by omega, by omega, fun _ => by rw [Int.toNat_natCast]; exact h⟩
    · exact ⟨h1, by omega, h3⟩
/-- The same over a list of vertices. -/
def bestL (rows : List Int) (left : Int) (l : List Int) : Int := l.foldl (fun b x => if thrQ rows left x.toNat then x else b) (-1)
theorem bestL_snoc (rows : List Int) (left : Int) (l : List Int) (x : Int) : bestL rows left (l ++ [x]) = if thrQ rows left x.toNat then x else bestL rows left l := by simp [bestL]
theorem bestL_listU (rows : List Int) (left : Int) : ∀ k : Nat, bestL rows left (listU left k) = bestU rows left k
  | 0 => rfl
  | k + 1 => by
    rw [listU_succ]
    split
    · rw [bestL_snoc, bestL_listU rows left k]; rfl
    · next h =>
      rw [bestL_listU rows left k, show bestU rows left (k + 1) = if thrQ rows left k then (k : Int) else bestU rows left k from rfl, if_neg (fun hq => h hq.1)]
/-- The program's condition on a vertex of those left. -/
theorem thr_iff {size : Int} {rows : List Int} {left : Int} (hg : IsG size rows) (hl : 0 ≤ left ∧ left < ishl 1 size) {v : Nat} (hv : hasB left v = true) (hvr : v < rows.length) :
    (iand (rows.getD v 0) left = 0 ∨ ior (iand (rows.getD v 0) left) (ishl 1 v) = left) ↔ thrQ rows left v := by
  obtain ⟨n, hn, hrl, _, hn7⟩ := isG_size hg
  obtain ⟨S, rfl, hS, hS'⟩ := set_nat hn hn7 hl
  obtain ⟨R, h1, h2, h3⟩ := row_nat hg hn v
  have hb := hv
  rw [hasB_nat (by omega) (by omega)] at hb
  have hno := (hg.2.2.1 v hvr).2
  rw [h1, hasB_nat (by omega) (by omega)] at hno
  have h4 := add_pow_nat ⟨v, by omega⟩ ⟨R &&& S, Nat.lt_of_le_of_lt Nat.and_le_left h3⟩ (by dsimp only; rw [Nat.testBit_and, hno]; rfl)
  dsimp only at h4
  have h5 : R &&& S ≤ S := Nat.and_le_right
  have h6 : 2 ^ v < 2 ^ 7 := Nat.pow_lt_pow_right (by omega) (by omega)
  unfold thrQ
  rw [h1, iand_nat (by omega) (by omega), ishl_one_nat (by omega), ior_nat (by omega) (by omega)]
  have e1 : (((R &&& S ||| 2 ^ v : Nat) : Int) = S) ↔ (R &&& S) + 2 ^ v = S := by rw [← h4]; omega
  have e2 : (((R &&& S : Nat) : Int) = (S : Int) - ((2 ^ v : Nat) : Int)) ↔ (R &&& S) + 2 ^ v = S := by omega
  rw [e1, e2]
  exact ⟨fun h => ⟨hv, h⟩, fun h => h.2⟩
/-- The rounds: what is left, the order and the joins so far. -/
def thrR (rows : List Int) : Nat → Int → List Int → List Bool → Option (List Int × List Bool)
  | 0, _, _, _ => none
  | f + 1, left, o, j => if left = 0 then some (o, j) else
    if bestU rows left 7 < 0 then none else
    thrR rows f (left - ishl 1 (bestU rows left 7)) (o ++ [bestU rows left 7]) (j ++ [decide (¬ iand (rows.getD (bestU rows left 7).toNat 0) left = 0)])
def thrX (size : Int) (rows : List Int) : Option (List Int × List Bool) := if IsG size rows then thrR rows 129 (ishl 1 size - 1) [] [] else none
theorem bit_sub : ∀ l : Fin 128, ∀ v : Fin 7, l.val.testBit v.val = true → l.val ^^^ (l.val &&& 2 ^ v.val) = l.val - 2 ^ v.val ∧ 2 ^ v.val ≤ l.val := by decide +kernel
/-- A member taken away. -/
theorem take_bit {size : Int} {rows : List Int} {left : Int} (hg : IsG size rows) (hl : 0 ≤ left ∧ left < ishl 1 size) {v : Nat} (hv : hasB left v = true) (hv7 : v < 7) :
    iandnot left (ishl 1 v) = left - ishl 1 v ∧ 1 ≤ ishl 1 v ∧ ishl 1 v ≤ left := by
  obtain ⟨n, hn, hrl, _, hn7⟩ := isG_size hg
  obtain ⟨S, rfl, hS, hS'⟩ := set_nat hn hn7 hl
  rw [hasB_nat (by omega) (by omega)] at hv
  obtain ⟨h1, h2⟩ := bit_sub ⟨S, hS'⟩ ⟨v, hv7⟩ hv
  dsimp only at h1 h2
  have h3 : 0 < 2 ^ v := Nat.pow_pos (by omega)
  rw [ishl_one_nat (by omega), iandnot_nat (by omega), h1]
  omega
theorem thrX_none {size : Int} {rows : List Int} (h : ¬ IsG size rows) : thrX size rows = none := by unfold thrX; rw [if_neg h]
theorem thrX_some {size : Int} {rows : List Int} (h : IsG size rows) : thrX size rows = thrR rows 129 (ishl 1 size - 1) [] [] := by unfold thrX; rw [if_pos h]
theorem thrR_done (rows : List Int) (f : Nat) (o : List Int) (j : List Bool) : thrR rows (f + 1) 0 o j = some (o, j) := by unfold thrR; rw [if_pos rfl]
theorem thrR_stop {rows : List Int} {f : Nat} {left : Int} {o : List Int} {j : List Bool} (h : ¬ left = 0) (hb : bestU rows left 7 < 0) : thrR rows (f + 1) left o j = none := by unfold thrR; rw [if_neg h, if_pos hb]
theorem thrR_next {rows : List Int} {f : Nat} {left : Int} {o : List Int} {j : List Bool} (h : ¬ left = 0) (hb : ¬ bestU rows left 7 < 0) :
    thrR rows (f + 1) left o j = thrR rows f (left - ishl 1 (bestU rows left 7)) (o ++ [bestU rows left 7]) (j ++ [decide (¬ iand (rows.getD (bestU rows left 7).toNat 0) left = 0)]) := by
  rw [thrR, if_neg h, if_neg hb]
/-- The order and the joins, the last taken first. -/
def thrO (size : Int) (rows : List Int) : List Int := ((thrX size rows).map fun p => p.1.reverse).getD []
def thrJ (size : Int) (rows : List Int) : List Bool := ((thrX size rows).map fun p => p.2.reverse).getD []
theorem thrO_none {size : Int} {rows : List Int} (h : thrX size rows = none) : thrO size rows = [] := by unfold thrO; rw [h]; rfl
theorem thrJ_none {size : Int} {rows : List Int} (h : thrX size rows = none) : thrJ size rows = [] := by unfold thrJ; rw [h]; rfl
theorem thrO_some {size : Int} {rows o : List Int} {j : List Bool} (h : thrX size rows = some (o, j)) : thrO size rows = o.reverse := by unfold thrO; rw [h]; rfl
theorem thrJ_some {size : Int} {rows o : List Int} {j : List Bool} (h : thrX size rows = some (o, j)) : thrJ size rows = j.reverse := by unfold thrJ; rw [h]; rfl
theorem bestU_top {rows : List Int} {left : Int} {n : Nat} (h : ∀ v : Nat, n ≤ v → v < 7 → hasB left v = false) : ∀ m : Nat, n ≤ m → m ≤ 7 → bestU rows left m = bestU rows left n
  | 0, h1, _ => by obtain rfl : n = 0 := by omega
                   rfl
  | m + 1, h1, h2 => by
    by_cases hmn : n = m + 1
    · rw [hmn]
    · rw [← bestU_top h m (by omega) (by omega), show bestU rows left (m + 1) = if thrQ rows left m then (m : Int) else bestU rows left m from rfl, if_neg (fun hq => by have := hq.1; rw [h m (by omega) (by omega)] at this; cases this)]
def allU (rows : List Int) (left : Int) : Nat → Bool
  | 0 => false
  | k + 1 => if thrQ rows left k then decide (¬ iand (rows.getD k 0) left = 0) else allU rows left k
theorem allU_best (rows : List Int) (left : Int) : ∀ k : Nat, 0 ≤ bestU rows left k → allU rows left k = decide (¬ iand (rows.getD (bestU rows left k).toNat 0) left = 0)
  | 0, h => by simp [bestU] at h
  | k + 1, h => by
    unfold allU
    rw [show bestU rows left (k + 1) = if thrQ rows left k then (k : Int) else bestU rows left k from rfl] at h ⊢
    by_cases hq : thrQ rows left k
    · rw [if_pos hq, if_pos hq]; rfl
    · rw [if_neg hq, if_neg hq]
      rw [if_neg hq] at h
      exact allU_best rows left k h
theorem hasB_top {left : Int} {n v : Nat} (hn7 : n ≤ 7) (hl : 0 ≤ left ∧ left < ishl 1 n) (h1 : n ≤ v) (h2 : v < 7) : hasB left v = false := by
  obtain ⟨S, rfl, hS, hS'⟩ := set_nat (size := n) rfl hn7 hl
  rw [hasB_nat (by omega) (by omega)]
  cases h : S.testBit v with
  | false => rfl
  | true => have := has_lt hS h; omega
theorem thrR_length (rows : List Int) : ∀ (f : Nat) (left : Int) (o : List Int) (j : List Bool) (o' : List Int) (j' : List Bool), thrR rows f left o j = some (o', j') → o'.length ≤ o.length + f ∧ j'.length ≤ j.length + f
  | 0, _, _, _, _, _, h => by simp [thrR] at h
  | f + 1, left, o, j, o', j', h => by
    by_cases h0 : left = 0
    · subst h0
      rw [thrR_done] at h
      have h := Option.some.inj h
      have h1 := congrArg Prod.fst h
      have h2 := congrArg Prod.snd h
      dsimp only at h1 h2
      subst h1 h2
      omega
    · by_cases hb : bestU rows left 7 < 0
      · rw [thrR_stop h0 hb] at h; cases h
      · rw [thrR_next h0 hb] at h
        have := thrR_length rows f _ _ _ _ _ h
        simp at this
        omega
theorem thr_lengths (size : Int) (rows : List Int) : (thrO size rows).length ≤ 129 ∧ (thrJ size rows).length ≤ 129 := by
  cases h : thrX size rows with
  | none => rw [thrO_none h, thrJ_none h]; simp
  | some p =>
    obtain ⟨o, j⟩ := p
    rw [thrO_some h, thrJ_some h]
    by_cases hg : IsG size rows
    · rw [thrX_some hg] at h
      have := thrR_length rows _ _ _ _ _ _ h
      simp at this ⊢
      exact this
    · rw [thrX_none hg] at h; cases h
end Go.Pw
/- The plain mathematics of threshold weights. -/
namespace Go.Pw
open Go

theorem thrR_inv {size : Int} {rows : List Int} {n : Nat} (hg : IsG size rows) (hn : size = n) : ∀ (f S : Nat) (o : List Int) (j : List Bool) (o' : List Int) (j' : List Bool), S < 2 ^ n → (∀ x ∈ o, 0 ≤ x ∧ x < n ∧ S.testBit x.toNat = false) → o.Nodup → o.length = j.length →
    thrR rows f (S : Int) o j = some (o', j') → (∀ x ∈ o', 0 ≤ x ∧ x < n) ∧ o'.Nodup ∧ o'.length = j'.length
  | 0, _, _, _, _, _, _, _, _, _, h => by simp [thrR] at h
  | f + 1, S, o, j, o', j', hS, ho, hd, hl, h => by
    have hng := ng_of hg hn
    have h7 := pow_le7 hng.le
    have hn7 := hng.le
    by_cases h0 : (S : Int) = 0
    · rw [h0, thrR_done] at h
      have h := Option.some.inj h
      have h1 := congrArg Prod.fst h
      have h2 := congrArg Prod.snd h
      dsimp only at h1 h2
      subst h1 h2
      exact ⟨fun x hx => ⟨(ho x hx).1, (ho x hx).2.1⟩, hd, hl⟩
    · by_cases hb : bestU rows (S : Int) 7 < 0
      · rw [thrR_stop h0 hb] at h; cases h
      · rw [thrR_next h0 hb] at h
        obtain ⟨b1, b2, b3⟩ := bestU_range rows (S : Int) 7
        obtain ⟨v, hv⟩ := Int.eq_ofNat_of_zero_le (show 0 ≤ bestU rows (S : Int) 7 by omega)
        rw [hv] at h b2 b3
        have hq := (b3 (by omega)).1
        rw [Int.toNat_natCast, hasB_nat (by omega) (by omega)] at hq
        have hvn := has_lt hS hq
        have hps := pow_sub hq
        have hle := sub_le hps
        have e : (S : Int) - ishl 1 (v : Int) = ((S - 2 ^ v : Nat) : Int) := by rw [ishl_one_nat (by omega)]; omega
        rw [e] at h
        refine thrR_inv hg hn f (S - 2 ^ v) _ _ _ _ (Nat.lt_of_le_of_lt (Nat.sub_le _ _) hS) (fun x hx => ?_) ?_ (by simp [hl]) h
        · rcases List.mem_append.1 hx with hx | hx
          · obtain ⟨x1, x2, x3⟩ := ho x hx
            refine ⟨x1, x2, ?_⟩
            rw [sub_bit (by omega) hps, x3]; rfl
          · have := List.mem_singleton.1 hx
            subst this
            refine ⟨by omega, by omega, ?_⟩
            rw [sub_bit (by omega) hps, Int.toNat_natCast, Nat.testBit_two_pow]; simp
        · refine List.nodup_append.2 ⟨hd, by simp, fun x hx y hy => ?_⟩
          have := List.mem_singleton.1 hy
          subst this
          intro e
          have h3 := (ho x hx).2.2
          rw [e, Int.toNat_natCast, hq] at h3
          cases h3
/-- A threshold order has each vertex at most once. -/
theorem thr_order {size : Int} {rows : List Int} {n : Nat} (hg : IsG size rows) (hn : size = n) {p : List Int × List Bool} (h : thrX size rows = some p) :
    (∀ i, i < (thrO size rows).length → 0 ≤ (thrO size rows).getD i 0 ∧ (thrO size rows).getD i 0 < n) ∧ (∀ i, i < (thrO size rows).length → ∀ k, k < i → (thrO size rows).getD k 0 ≠ (thrO size rows).getD i 0) ∧ (thrO size rows).length = (thrJ size rows).length := by
  obtain ⟨o, j⟩ := p
  have hpos : 0 < 2 ^ n := Nat.pow_pos (by omega)
  have hng := ng_of hg hn
  have hX := h
  rw [thrX_some hg] at hX
  have e : ishl 1 size - 1 = ((2 ^ n - 1 : Nat) : Int) := by rw [hn, ishl_one_nat (by have := hng.le; omega)]; omega
  rw [e] at hX
  obtain ⟨h1, h2, h3⟩ := thrR_inv hg hn 129 (2 ^ n - 1) [] [] o j (by omega) (fun x hx => by cases hx) (by simp) rfl hX
  rw [thrO_some h, thrJ_some h]
  refine ⟨fun i hi => ?_, fun i hi k hk => ?_, by simp [h3]⟩
  · exact h1 _ (List.mem_reverse.1 (getD_mem hi))
  · have hd : o.reverse.Pairwise (fun a b => a ≠ b) := List.pairwise_reverse.2 (h2.imp fun h e => h e.symm)
    have hk' : k < o.reverse.length := by omega
    have := List.pairwise_iff_getElem.1 hd k i hk' hi hk
    rw [show o.reverse.getD k 0 = o.reverse[k] from by simp only [List.getD]; rw [List.getElem?_eq_getElem hk']; rfl, show o.reverse.getD i 0 = o.reverse[i] from by simp only [List.getD]; rw [List.getElem?_eq_getElem hi]; rfl]
    exact this

/-- One more for the first k of an order. -/
def incU (o w : List Int) : Nat → List Int
  | 0 => w
  | k + 1 => (incU o w k).set (o.getD k 0).toNat ((incU o w k).getD (o.getD k 0).toNat 0 + 1)
@[simp] theorem incU_length (o w : List Int) : ∀ k, (incU o w k).length = w.length
  | 0 => rfl
  | k + 1 => by rw [incU, List.length_set, incU_length o w k]
theorem getD_set_int (l : List Int) (i k : Nat) (x : Int) : (l.set i x).getD k 0 = if k = i ∧ i < l.length then x else l.getD k 0 := by
  simp only [List.getD, List.getElem?_set]
  by_cases h : i = k
  · subst h
    by_cases hl : i < l.length
    · simp [hl]
    · simp [hl]
  · rw [if_neg h, if_neg (fun e => h e.1.symm)]
theorem incU_bound (o w : List Int) (B : Int) (hw : ∀ x, 0 ≤ w.getD x 0 ∧ w.getD x 0 ≤ B) : ∀ k x, 0 ≤ (incU o w k).getD x 0 ∧ (incU o w k).getD x 0 ≤ B + k
  | 0, x => by have := hw x; show 0 ≤ w.getD x 0 ∧ w.getD x 0 ≤ B + ((0 : Nat) : Int); omega
  | k + 1, x => by
    have h1 := incU_bound o w B hw k x
    have h2 := incU_bound o w B hw k (o.getD k 0).toNat
    rw [incU, getD_set_int]
    split
    · push_cast; omega
    · push_cast; omega
theorem incU_same (o w : List Int) (x : Nat) : ∀ k, (∀ m, m < k → (o.getD m 0).toNat ≠ x) → (incU o w k).getD x 0 = w.getD x 0
  | 0, _ => rfl
  | k + 1, h => by
    rw [incU, getD_set_int, if_neg (fun e => h k (by omega) e.1.symm)]
    exact incU_same o w x k fun m hm => h m (by omega)
def wtU (n : Nat) (o : List Int) (j : List Bool) : Nat → List Int × Int
  | 0 => (List.replicate n 0, 0)
  | i + 1 => if j.getD i false = true then ((wtU n o j i).1.set (o.getD i 0).toNat ((wtU n o j i).2 + 1), (wtU n o j i).2) else (incU o (wtU n o j i).1 i, (wtU n o j i).2 + 2)
theorem wtU_spec (n : Nat) (o : List Int) (j : List Bool) : ∀ i, (wtU n o j i).1.length = n ∧ (0 ≤ (wtU n o j i).2 ∧ (wtU n o j i).2 ≤ 2 * i) ∧ (∀ x, 0 ≤ (wtU n o j i).1.getD x 0 ∧ (wtU n o j i).1.getD x 0 ≤ 1000 * i * i)
  | 0 => ⟨by simp [wtU], by simp [wtU], fun x => by simp [wtU, List.getD, List.getElem?_replicate]; split <;> simp⟩
  | i + 1 => by
    obtain ⟨h1, h2, h3⟩ := wtU_spec n o j i
    have hq : (1000 : Int) * ((i + 1 : Nat) : Int) * ((i + 1 : Nat) : Int) = 1000 * i * i + 2000 * i + 1000 := by
      push_cast
      rw [Int.mul_assoc, Int.mul_assoc, Int.mul_add, Int.add_mul]
      omega
    unfold wtU
    split
    · refine ⟨by simp [h1], ⟨h2.1, by push_cast; omega⟩, fun x => ?_⟩
      have := h3 x
      rw [getD_set_int]
      split
      · rw [hq]; have := Int.mul_nonneg (show (0 : Int) ≤ 1000 * i by omega) (show (0 : Int) ≤ i by omega); omega
      · rw [hq]; omega
    · refine ⟨by simp [h1], ⟨by omega, by push_cast; omega⟩, fun x => ?_⟩
      have := incU_bound o (wtU n o j i).1 (1000 * i * i) h3 i x
      dsimp only
      rw [hq]; omega
theorem wtU_zero (n : Nat) (o : List Int) (j : List Bool) (x : Nat) : ∀ i, (∀ m, m < i → (o.getD m 0).toNat ≠ x) → (wtU n o j i).1.getD x 0 = 0
  | 0, _ => by simp [wtU, List.getD, List.getElem?_replicate]; split <;> rfl
  | i + 1, h => by
    have ih := wtU_zero n o j x i fun m hm => h m (by omega)
    unfold wtU
    split
    · dsimp only; rw [getD_set_int, if_neg (fun e => h i (by omega) e.1.symm)]; exact ih
    · dsimp only; rw [incU_same _ _ _ _ fun m hm => h m (by omega)]; exact ih
theorem set_same (l : List Int) (i : Nat) (h : l.getD i 0 = 0) (hi : i < l.length) : l.set i 0 = l := by
  apply List.ext_getElem (by simp)
  intro k h1 h2
  rw [List.getElem_set]
  split
  · next e => subst e; simpa [List.getD, hi] using h.symm
  · rfl
def wtW (size : Int) (rows : List Int) : List Int := if (thrX size rows).isSome = true then (wtU size.toNat (thrO size rows) (thrJ size rows) (thrO size rows).length).1 else []
def wtL (size : Int) (rows : List Int) : Int := if (thrX size rows).isSome = true then (wtU size.toNat (thrO size rows) (thrJ size rows) (thrO size rows).length).2 else 0
theorem wtW_length (size : Int) (rows : List Int) : (wtW size rows).length ≤ 7 := by
  unfold wtW
  split
  · next h =>
    have hg : IsG size rows := by
      apply Classical.byContradiction
      intro hg
      rw [thrX_none hg] at h; cases h
    rw [(wtU_spec _ _ _ _).1]
    have := hg.1; omega
  · simp
end Go.Pw
/- A literal of three values. -/
namespace Go.Pw
open Go Go.RowKit
section
variable {P : Program} {E : Env} {n : Nat} {d : Option Tmp} {t ty e : TypeId} {pos : String} {af : Array Edge} {g : Option (Nat × Bool)} {ops l : List Oper} {Q : Post} {X : List Nat} {w0 : World} {objs : List Ob}
theorem px_lit3 {md : Md} {zv : Value} {bytes : Nat} {x0 x1 x2 : Operand} {v0 v1 v2 : Value} (he : ElemZ P t e zv bytes) (h0 : ev E x0 = v0) (s0 : storable v0 = true) (h1 : ev E x1 = v1) (s1 : storable v1 = true) (h2 : ev E x2 = v2) (s2 : storable v2 = true) (hmd : mdOk md (.buildSlice t 3 #[(0, x0), (1, x1), (2, x2)]) = true) (hw : wantE ops E g = true) (hd : okDst d n = true)
    (h : ∀ sv, Px P n ops md l Q (updo E d sv) (Cl X w0 (.row e sv [v0, v1, v2] :: objs))) :
    Px P n ops md (⟨d, .buildSlice t 3 #[(0, x0), (1, x1), (2, x2)], ty, pos, af, g⟩ :: l) Q E (Cl X w0 objs) :=
  px_opN hmd hw hd fun w hC => by
    obtain ⟨i, hi, z1, z2, z3⟩ := info_parts he.info
    have hsz : ∀ w, (sizeOf e).run P w = .ok 1 w := fun w => by simp [sizeOf, typeInfo, hi, z2]
    have hzero : ∀ w, (zeroValue e).run P w = .ok zv w := fun w => by simp [zeroValue, typeInfo, hi, z1]
    have hcell := he.cell
    have c0 := storable_cells s0
    have c1 := storable_cells s1
    have c2 := storable_cells s2
    refine ⟨.slice (some ⟨w.heap.size, 0, Option.none⟩) 3 3, w.alloc (.cells #[v0, v1, v2] e), _, ?_, hC.push (below_alloc w _) (.row e (.slice (some ⟨w.heap.size, 0, Option.none⟩) 3 3) [v0, v1, v2]) (row_lit w e [v0, v1, v2] (by simp)) (fun k hk => by obtain rfl := Option.some.inj hk; exact Nat.le_refl _), fun w hw => hw.sub (List.sublist_cons_self _ _), h _⟩
    simp [execOp, Instr.buildSlice, Instr.fill, run_underlying he.und, hsz, hzero, hcell, newRow, h0, c0, h1, c1, h2, c2]
    rw [show Array.range 3 = #[0, 1, 2] by decide]
    simp
end
section
variable {P : Program} {C : Cls} {n : Nat} {E : Env} {Q : Post}
/-- A mark at a region: the walk stops ahead of it. -/
theorem pwp_here (k : Nat) {ops : List Oper} {d : Bool} (h : Pwp P n (.region k ops.toArray d) Q E C) : Pwp P n (.region k ops.toArray d) Q E C := h
/-- Code that leaves the world as it was, said once. -/
theorem pwp_keep {c : Code} (S : List (Nat × Nat)) (l : List (Nat × Value)) (h1 : Pwp P n c (qjoin S (fun _ : Unit => l) (fun _ => C) (fun _ => True) E) E C)
    (h2 : ∀ J : Env, Q .normal (upds l (junk S J E)) C) : Pwp P n c Q E C := pwp_join S _ _ _ h1 fun J _ _ => h2 J
end
theorem opv_neq_self {P : Program} {C : Cls} {ρ : Operand → Value} {x y : Operand} {t t' ty : TypeId} {d : Option Nat} {pos : String} {af : Array Edge} {g : Option (Nat × Bool)} {a : Bool} (ht : P.underlying t = some .bool) (hx : ρ x = .bool a) (hy : ρ y = .bool a) :
    Opv P C ρ ⟨d, .binOp .neq t x y t', ty, pos, af, g⟩ (.bool false) := by
  have h := opv_neq_bool (P := P) (C := C) (d := d) (t' := t') (ty := ty) (pos := pos) (af := af) (g := g) ht hx hy
  rwa [show (a != a) = false by simp] at h
theorem opv_neq_of {P : Program} {C : Cls} {ρ : Operand → Value} {x y : Operand} {t t' ty : TypeId} {d : Option Nat} {pos : String} {af : Array Edge} {g : Option (Nat × Bool)} {a b : Bool} (ht : P.underlying t = some .bool) (hx : ρ x = .bool a) (hy : ρ y = .bool b) (hab : a = b) :
    Opv P C ρ ⟨d, .binOp .neq t x y t', ty, pos, af, g⟩ (.bool false) := by
  subst hab
  exact opv_neq_self ht hx hy
theorem opv_eql_self {P : Program} {C : Cls} {ρ : Operand → Value} {x y : Operand} {t t' ty : TypeId} {d : Option Nat} {pos : String} {af : Array Edge} {g : Option (Nat × Bool)} {a : Bool} (ht : P.underlying t = some .bool) (hx : ρ x = .bool a) (hy : ρ y = .bool a) :
    Opv P C ρ ⟨d, .binOp .eql t x y t', ty, pos, af, g⟩ (.bool true) := by
  have h := opv_eql_bool (P := P) (C := C) (d := d) (t' := t') (ty := ty) (pos := pos) (af := af) (g := g) ht hx hy
  rwa [show (a == a) = true by simp] at h
theorem opv_eql_of {P : Program} {C : Cls} {ρ : Operand → Value} {x y : Operand} {t t' ty : TypeId} {d : Option Nat} {pos : String} {af : Array Edge} {g : Option (Nat × Bool)} {a b : Bool} (ht : P.underlying t = some .bool) (hx : ρ x = .bool a) (hy : ρ y = .bool b) (hab : a = b) :
    Opv P C ρ ⟨d, .binOp .eql t x y t', ty, pos, af, g⟩ (.bool true) := by
  subst hab
  exact opv_eql_self ht hx hy
end Go.Pw
/- Searches through lists of four, and for holes. -/
namespace Go.Proofs.YtmmflnigejfplaaGreat
open Go Go.RowKit Go.Pw
theorem cast_arr {w : World} {sv : Value} {l m : List Int} (h : l = m) (ha : Arr w sv (ints l)) : Arr w sv (ints m) := h ▸ ha
end Go.Proofs.YtmmflnigejfplaaGreat
/- Draws: lists, orders, split graphs and threshold graphs. -/
namespace Go.Proofs.YtmmflnigejfplaaGreat
open Go Go.RowKit Go.Pw
theorem ints_app (a b : List Int) : ints (a ++ b) = ints a ++ ints b := List.map_append ..
theorem bools_app (a b : List Bool) : bools (a ++ b) = bools a ++ bools b := List.map_append ..
/-- Some list beside the cursor. -/
def LstP (cv : Value) (l : List Int) (cb lo hi : Nat) (v : Value) (new : List Ob) : Prop := ∃ L i h, (lo ≤ L.length ∧ L.length ≤ hi) ∧ (0 ≤ i ∧ i ≤ (l.length : Int)) ∧ new = [.row 3 v (ints L), .blk cb (cells3 cv i h)]
/-- Some graph, good or not, beside the cursor. -/
def AnyH (cv : Value) (l : List Int) (cb : Nat) (v : Value) (new : List Ob) : Prop := ∃ n gv rows i h, v = .agg #[.int .i64 n, gv] ∧ (0 ≤ i ∧ i ≤ (l.length : Int)) ∧ new = [.row 3 gv (ints rows), .blk cb (cells3 cv i h)]
theorem en_s_l14Permutation : Entry Tryz.prog 46 := ⟨_, Tryz.func46, by kernel_rfl, rfl⟩
set_option maxHeartbeats 3200000 in
theorem s_l14Permutation_c (cv : Value) (l : List Int) (cb : Nat) (i h : Int) (w : World) (hcp : CodeP w cv l) (hi : 0 ≤ i ∧ i ≤ (l.length : Int)) (ho : Own w [.blk cb (cells3 cv i h)]) :
    GivesU Tryz.prog 46 #[.pointer (some ⟨cb, 0, none⟩)] w [.blk cb (cells3 cv i h)] (fun v new => LstP cv l cb 1 6 v new) := by
  have hap := code_apart hcp ho
  refine givesU_enterX (X := [cb]) (args := [_]) rfl ho en_s_l14Permutation Tryz.func46 rfl Tryz.ntmps46 rfl ?_
  repeat' (first | apply pwp_seq | apply pwp_region | (apply px_run; (first | (apply opv_move; first | exact hid_ptr rfl) | (apply opv_assign; first | exact hid_int rfl | rfl) | (apply opv_add_in; rfl; rfl; omega)); rfl; rfl) | apply px_nil | apply qseq_normal | apply pwp_block | (apply px_givesV [1]; rfl; rfl; rfl; rfl; rfl; (exact fun w' hw ho' => s_l1Below_c cv l cb _ _ 6 w' (hcp.at hap hw) (by first | assumption) ho'); rintro _ _ ⟨x, hx, rfl, ⟨ci, ch, hi, rfl⟩⟩) | (apply px_lit0 ez_int; rfl; rfl; rfl; intro sv))
  refine pwp_loop (τ := Int × Value × List Int × Int × Int) [(3,5), (10,31)] (fun x => [(3, x.2.1), (4, .int .i64 x.1)]) (fun x => Cl [cb] w [.row 3 x.2.1 (ints x.2.2.1), .blk cb (cells3 cv x.2.2.2.1 x.2.2.2.2)])
    (fun x => (0 ≤ x.1 ∧ 1 ≤ x.1 + (x.2.2.1.length : Int) ∧ x.1 + (x.2.2.1.length : Int) ≤ 6) ∧ (0 ≤ x.2.2.2.1 ∧ x.2.2.2.1 ≤ (l.length : Int))) (fun x => x.1.toNat) (1 + x, sv, [], ci, ch)
    ⟨rfl, rfl, trivial⟩ ⟨⟨by dsimp only; omega, by simp; omega, by simp; omega⟩, by assumption⟩ (fun w' hw => (by have h := hw; exact Cl.ofSel (by assumption) (by repeat (first | exact sel_nil | refine sel_cons 0 rfl ?_ | refine sel_cons 1 rfl ?_ | refine sel_cons 2 rfl ?_ | refine sel_cons 3 rfl ?_ | refine sel_cons 4 rfl ?_ | refine sel_cons 5 rfl ?_ | refine sel_cons 6 rfl ?_ | refine sel_cons 7 rfl ?_ | refine sel_cons 8 rfl ?_ | refine sel_cons 9 rfl ?_ | refine sel_cons 10 rfl ?_ | refine sel_cons 11 rfl ?_ | refine sel_cons 12 rfl ?_ | refine sel_cons 13 rfl ?_)))) (fun J y hy => ?_)
  obtain ⟨k, lv, L, i2, h2⟩ := y
  obtain ⟨⟨v1, v2, v4⟩, v3⟩ := hy
  dsimp only at v1 v2 v3 v4 ⊢
  by_cases hk : 0 < k
  · repeat' (first | apply pwp_seq | apply pwp_region | (apply px_run; (first | (apply opv_move; first | exact hid_int rfl | exact hid_ptr rfl | rfl) | (apply opv_assign; first | exact hid_int rfl | rfl) | (apply opv_gtr <;> rfl) | (apply opv_add_in; rfl; rfl; omega) | (apply opv_sub_in; rfl; rfl; omega) | (apply opv_len_ints el_int; rfl; (first | exact rd_row 0 rfl)) | (apply opv_drop el_int; rfl; rfl; (first | exact rd_row 0 rfl); (first | (simp only [ints_length]; omega))) | (apply opv_take el_int; rfl; rfl; (first | exact rd_row 0 rfl); (first | (simp only [ints_length]; omega)))); rfl; rfl) | apply px_nil | apply qseq_normal | apply pwp_block | apply qblock_normal | apply pwp_skip | (apply pwp_region_any [1, 2, 3, 5, 6, 9, 10, 11] [] 6 (Cl [cb] w [.row _ lv (ints L)]); kernel_rfl; decide +kernel; exact Cl.stable _ _ _; exact fun w h => h.sub (by repeat (first | exact List.sublist_append_right _ _))) | apply qlooks_normal | (apply qstep_in; exact fun w h => h.sub (by repeat (first | exact List.sublist_append_right _ _ | apply List.Sublist.cons))) | (apply pxa_nil; decide +kernel) | (apply pxa_one 0; decide +kernel; rfl) | (apply pxa_one 4; decide +kernel; rfl) | (apply pxa_one 7; decide +kernel; rfl) | (apply pxa_one 8; decide +kernel; rfl) | (apply pxa_one 12; decide +kernel; rfl) | (apply pxa_one 13; decide +kernel; rfl) | (apply pxa_two 0 7; decide +kernel; rfl; rfl) | (apply pxa_two 4 7; decide +kernel; rfl; rfl) | (apply pwp_cond_dec; rfl; all_goals (intro hc; try (first | contradiction))) | (apply px_givesV [1]; rfl; rfl; rfl; rfl; rfl; (exact fun w' hw ho' => s_l1Below_c cv l cb _ _ _ w' (hcp.at hap hw) (by first | assumption) ho'); rintro _ _ ⟨x, hx, rfl, ⟨ci, ch, hi, rfl⟩⟩; obtain ⟨kx, rfl⟩ := Int.eq_ofNat_of_zero_le (hx.2 (by omega)).1) | (apply px_lit0 ez_int; rfl; rfl; rfl; intro sv) | (apply px_lit1 ez_int; rfl; (intro w hw; (first | rfl)); rfl; rfl; rfl; intro sv) | (apply px_append 0 ez_int; rfl; rfl; rfl; (first | exact rd_row 1 rfl | exact rd_take (rd_row 2 rfl) (by omega) | exact rd_take (rd_row 3 rfl) (by omega) | exact rd_drop_ints (rd_row 3 rfl) (by omega)); (first | exact fun _ _ => stor_ints | (intro _ _ u hu; simp at hu; subst hu; rfl)); (simp [ints]; omega); decide; rfl; rfl; intro sv) | (apply px_append 1 ez_int; rfl; rfl; rfl; (first | exact rd_row 0 rfl | exact rd_take (rd_row 3 rfl) (by omega) | exact rd_drop_ints (rd_row 3 rfl) (by omega)); (first | exact fun _ _ => stor_ints | (intro _ _ u hu; simp at hu; subst hu; rfl)); (simp [ints]; omega); decide; rfl; rfl; intro sv))
    all_goals
      refine qround_normal ?_ ⟨(k - 1, _, L.take kx ++ [(L.length : Int)] ++ L.drop kx, ci, ch), ⟨rfl, rfl, trivial⟩, ⟨⟨by dsimp only; omega, by simp; omega, by simp; omega⟩, by assumption⟩, by dsimp only; omega, fun w' hw => (by have h := hw; (try dsimp only); rw [ints_app, ints_app]; exact Cl.ofSel (by assumption) (by repeat (first | exact sel_nil | refine sel_cons 0 rfl ?_ | refine sel_cons 1 rfl ?_ | refine sel_cons 2 rfl ?_ | refine sel_cons 3 rfl ?_ | refine sel_cons 4 rfl ?_ | refine sel_cons 5 rfl ?_ | refine sel_cons 6 rfl ?_ | refine sel_cons 7 rfl ?_ | refine sel_cons 8 rfl ?_ | refine sel_cons 9 rfl ?_ | refine sel_cons 10 rfl ?_ | refine sel_cons 11 rfl ?_ | refine sel_cons 12 rfl ?_ | refine sel_cons 13 rfl ?_)))⟩
      repeat (first | exact same_refl | refine same_upd rfl ?_ | refine same_junk rfl ?_)
  · repeat' (first | apply pwp_seq | apply pwp_region | (apply px_run; (first | (apply opv_move; first | exact hid_int rfl | exact hid_ptr rfl | rfl) | (apply opv_assign; first | rfl) | (apply opv_gtr <;> rfl) | (apply opv_index_nat (vs := ints _) el_int; rfl; rfl; (first | exact rd_row 2 rfl); (first | (simp only [ints_length]; omega)))); rfl; rfl) | apply px_nil | apply qseq_normal | apply qseq_exit | (apply qblock_exit_same; rfl) | apply pwp_skip | apply pwp_exit | apply pwp_ret | apply qround_exit | (apply pwp_cond_dec; rfl; all_goals (intro hc; try (first | contradiction))) | (apply pwp_cond; rfl; all_goals (intro hc; try (first | fail))) | (apply px_givesV [1]; rfl; rfl; rfl; rfl; rfl; (exact fun w' hw ho' => s_l1Once_c cv l cb _ _ _ w' (hcp.at hap hw) (by first | assumption) ho'); rintro _ _ ⟨b, rfl, ⟨ci, ch, hi, rfl⟩⟩) | (apply px_lit3 ez_int; rfl; rfl; rfl; rfl; rfl; rfl; rfl; rfl; rfl; intro sv) | (apply px_givesV [1]; rfl; rfl; rfl; rfl; rfl; (exact fun w' hw ho' => s_l1PickInt_c cv _ l [-1, 0, 7] cb _ _ w' (hcp.at hap hw) (by first | assumption) ho' (hw.rowArr (k := 0) rfl) (hw.rowNe 0 0 rfl rfl) (by decide)); rintro _ _ ⟨y, hy, rfl, ⟨ci, ch, hi, rfl⟩⟩) | (apply px_store_int 2 co_int; rfl; rfl; rfl; (first | (simp; omega)); rfl))
    · refine qbody_ret1 rfl rfl ⟨_, ⟨L.set 0 y, _, _, by rw [List.length_set]; omega, by assumption, rfl⟩, fun w' hw => (by have h := hw; exact Cl.ofSel (by assumption) (by repeat (first | exact sel_nil | refine sel_cons 0 rfl ?_ | refine sel_cons 1 rfl ?_ | refine sel_cons 2 rfl ?_ | refine sel_cons 3 rfl ?_ | refine sel_cons 4 rfl ?_ | refine sel_cons 5 rfl ?_ | refine sel_cons 6 rfl ?_ | refine sel_cons 7 rfl ?_ | refine sel_cons 8 rfl ?_ | refine sel_cons 9 rfl ?_ | refine sel_cons 10 rfl ?_ | refine sel_cons 11 rfl ?_ | refine sel_cons 12 rfl ?_ | refine sel_cons 13 rfl ?_)))⟩
    · refine qbody_ret1 rfl rfl ⟨_, ⟨L, _, _, by omega, by assumption, rfl⟩, fun w' hw => (by have h := hw; exact Cl.ofSel (by assumption) (by repeat (first | exact sel_nil | refine sel_cons 0 rfl ?_ | refine sel_cons 1 rfl ?_ | refine sel_cons 2 rfl ?_ | refine sel_cons 3 rfl ?_ | refine sel_cons 4 rfl ?_ | refine sel_cons 5 rfl ?_ | refine sel_cons 6 rfl ?_ | refine sel_cons 7 rfl ?_ | refine sel_cons 8 rfl ?_ | refine sel_cons 9 rfl ?_ | refine sel_cons 10 rfl ?_ | refine sel_cons 11 rfl ?_ | refine sel_cons 12 rfl ?_ | refine sel_cons 13 rfl ?_)))⟩
theorem s_AddEdge_g (n : Int) (gv : Value) (rows : List Int) (v u : Nat) (w : World) (hr : Arr w gv (ints rows)) (hg : IsG n rows) (hv : (v : Int) < n) (hu : u < v) :
    Gives Tryz.prog 50 #[.agg #[.int .i64 n, gv], .int .i64 v, .int .i64 u] w (fun x objs => ∃ sv' bb rows', IsG n rows' ∧ storable sv' = true ∧ x = .tuple #[.agg #[.int .i64 n, sv'], .bool bb] ∧ objs = [.row 3 sv' (ints rows')]) := by
  obtain ⟨m, rfl, hrl, h1, h7⟩ := isG_size hg
  have hb := bits_rows hg
  rw [hrl] at hb
  have hs := bits_sym hg
  have hi := bits_irr hg
  generalize bitsP rows = P at *
  subst hb
  have := s_AddEdge3_c m gv P v u w hr h1 h7 hs hi (by omega) (by omega) (by omega)
  refine ⟨this.entry, this.out.mono fun e w' ⟨x, objs, he, ⟨sv', bb, h3, hx, ho⟩, hc⟩ => ⟨x, objs, he, ⟨sv', bb, _, gRows_isG h1 h7 (P := pairAdd P v u) (fun x y => ?_) (fun x => ?_), h3, hx, ho⟩, hc⟩⟩
  · unfold pairAdd
    rw [hs x y]
    congr 1
    rw [Bool.or_comm]
    congr 1 <;> exact decide_eq_decide.2 ⟨fun h => ⟨h.2, h.1⟩, fun h => ⟨h.2, h.1⟩⟩
  · unfold pairAdd
    rw [hi x, Bool.false_or, Bool.or_eq_false_iff]
    exact ⟨decide_eq_false fun h => by omega, decide_eq_false fun h => by omega⟩
theorem s_RemoveEdge_g (n : Int) (gv : Value) (rows : List Int) (v u : Nat) (w : World) (hr : Arr w gv (ints rows)) (hg : IsG n rows) (hv : (v : Int) < n) (hu : u < v) :
    Gives Tryz.prog 78 #[.agg #[.int .i64 n, gv], .int .i64 v, .int .i64 u] w (fun x objs => ∃ sv' bb rows', IsG n rows' ∧ storable sv' = true ∧ x = .tuple #[.agg #[.int .i64 n, sv'], .bool bb] ∧ objs = [.row 3 sv' (ints rows')]) := by
  obtain ⟨m, rfl, hrl, h1, h7⟩ := isG_size hg
  have hb := bits_rows hg
  rw [hrl] at hb
  have hs := bits_sym hg
  have hi := bits_irr hg
  generalize bitsP rows = P at *
  subst hb
  have := s_RemoveEdge_c m gv P v u w hr h1 h7 hs hi (by omega) (by omega) (by omega)
  refine ⟨this.entry, this.out.mono fun e w' ⟨x, objs, he, ⟨sv', hx, ho⟩, hc⟩ => ⟨x, objs, he, ⟨sv', P v u, _, gRows_isG h1 h7 (P := remP P v u) (fun x y => ?_) (fun x => ?_), ?_, hx, ho⟩, hc⟩⟩
  · unfold remP
    rw [hs x y]
    congr 2
    rw [Bool.or_comm]
    congr 1 <;> exact decide_eq_decide.2 ⟨fun h => ⟨h.2, h.1⟩, fun h => ⟨h.2, h.1⟩⟩
  · unfold remP
    rw [hi x, Bool.false_and]
  · subst ho
    exact stor_arr (arr_of_row (hc.holds _ (List.mem_singleton_self _)))
end Go.Proofs.YtmmflnigejfplaaGreat
/- Draws: a module or a set; a graph with holes. -/
namespace Go.Proofs.YtmmflnigejfplaaGreat
open Go Go.RowKit Go.Pw
theorem en_s_l4Holey : Entry Tryz.prog 66 := ⟨_, Tryz.func66, by kernel_rfl, rfl⟩
set_option maxHeartbeats 3200000 in
theorem s_l4Holey_c (cv : Value) (l : List Int) (cb : Nat) (i h : Int) (w : World) (hcp : CodeP w cv l) (hi : 0 ≤ i ∧ i ≤ (l.length : Int)) (ho : Own w [.blk cb (cells3 cv i h)]) :
    GivesU Tryz.prog 66 #[.pointer (some ⟨cb, 0, none⟩)] w [.blk cb (cells3 cv i h)] (fun v new => AnyG cv l cb v new) := by
  have hap := code_apart hcp ho
  refine givesU_enterX (X := [cb]) (args := [_]) rfl ho en_s_l4Holey Tryz.func66 rfl Tryz.ntmps66 rfl ?_
  have hcy : (⟨#[99, 121, 99, 108, 101]⟩ : ByteArray) ∈ names5 := by simp [names5]
  have hlenG : ∀ (n : Int) (P : Rel), 1 ≤ n ∧ n ≤ 7 → 1 ≤ (gRows n.toNat P).length ∧ (gRows n.toNat P).length ≤ 7 := fun n P hn => by rw [gRows_length]; omega
  repeat' (first | apply pwp_seq | apply pwp_region | (apply px_run; (first | (apply opv_move; first | exact hid_int rfl | exact hid_ptr rfl | rfl) | (apply opv_assign; first | exact hid_int rfl | exact hid_bool rfl) | (apply opv_add_in; rfl; rfl; omega) | (apply opv_field fld_G0; rfl) | (apply opv_load_blk 0; (first | with_reducible exact sc_int); rfl; rfl; rfl) | (apply opv_load_blk 1; (first | with_reducible exact sc_int); rfl; rfl; rfl) | (apply opv_load_str 1 st_G; rfl; rfl; rfl) | (apply opv_load_str 2 st_G; rfl; rfl; rfl) | (apply opv_extract; rfl; rfl)); rfl; rfl) | apply px_nil | apply qseq_normal | apply qseq_ret | apply pwp_skip | apply pwp_ret | (apply pwp_cond; rfl; all_goals (intro hc; try (first | fail))) | (apply px_givesV [0]; rfl; rfl; rfl; rfl; rfl; (exact fun w' hw ho' => s_l2Any_c cv l cb _ _ w' (hcp.at hap hw) (by first | assumption) ho'); rintro _ _ ⟨n, gv, rows, ci, ch, hn, hrl, hgv, rfl, hi, rfl⟩) | (apply px_givesV [0]; rfl; rfl; rfl; rfl; rfl; (exact fun w' hw ho' => s_l1Below_c cv l cb _ _ 3 w' (hcp.at hap hw) (by assumption) ho'); rintro _ _ ⟨x0, hx0, rfl, ⟨ci, ch, hi, rfl⟩⟩) | (apply px_givesV [0]; rfl; rfl; rfl; rfl; rfl; (exact fun w' hw ho' => s_l1Below_c cv l cb _ _ _ w' (hcp.at hap hw) (by assumption) ho'); rintro _ _ ⟨x, hx, rfl, ⟨ci, ch, hi, rfl⟩⟩) | (apply px_givesV [2]; rfl; rfl; rfl; rfl; rfl; (exact fun w' hw ho' => s_l1Below_c cv l cb _ _ _ w' (hcp.at hap hw) (by assumption) ho'); rintro _ _ ⟨x, hx, rfl, ⟨ci, ch, hi, rfl⟩⟩) | (apply px_givesV [0]; rfl; rfl; rfl; rfl; rfl; (exact fun w' hw ho' => s_l1Once_c cv l cb _ _ _ w' (hcp.at hap hw) (by assumption) ho'); rintro _ _ ⟨b, rfl, ⟨ci, ch, hi, rfl⟩⟩) | (apply px_givesV [1]; rfl; rfl; rfl; rfl; rfl; (exact fun w' hw ho' => s_l1Once_c cv l cb _ _ _ w' (hcp.at hap hw) (by assumption) ho'); rintro _ _ ⟨b, rfl, ⟨ci, ch, hi, rfl⟩⟩) | (apply px_alloc st_G; rfl; rfl; rfl; intro bk) | (apply px_store_str 0 st_G; rfl; rfl; rfl; rfl; rfl; (intro w hw; (first | refine all2 rfl ?_ ?_) <;> (first | rfl | assumption)); rfl) | (apply px_store_str 2 st_G; rfl; rfl; rfl; rfl; rfl; (intro w hw; (first | refine all2 rfl ?_ ?_) <;> (first | rfl | assumption)); rfl) | (apply px_store_str 3 st_G; rfl; rfl; rfl; rfl; rfl; (intro w hw; (first | refine all2 rfl ?_ ?_) <;> (first | rfl | assumption)); rfl) | (apply px_store_str 4 st_G; rfl; rfl; rfl; rfl; rfl; (intro w hw; (first | refine all2 rfl ?_ ?_) <;> (first | rfl | assumption)); rfl) | (apply px_gives; rfl; rfl; rfl; rfl; rfl; exact fun w hw => s_NamedGraph_i _ _ _ hcy (by omega); rintro _ _ ⟨ga, Pa, ba, hPa, hga, rfl, rfl⟩) | (apply px_gives; rfl; rfl; rfl; rfl; rfl; exact fun w hw => s_AddEdge_i _ _ Pa _ _ _ (by first | exact hw.rowArr (k := 2) rfl) (by omega) hPa (by omega) (by omega); rintro _ _ ⟨gb, bb, Pb, hPb, hgb, rfl, rfl⟩))
  all_goals first
    | refine qbody_cell 0 rfl st_G rfl rfl rfl ⟨_, ⟨n, gv, rows, ci, ch, hn, hrl, hgv, rfl, hi, rfl⟩, fun w' hw => (by have h := hw; exact Cl.ofSel (by assumption) (by repeat (first | exact sel_nil | refine sel_cons 0 rfl ?_ | refine sel_cons 1 rfl ?_ | refine sel_cons 2 rfl ?_ | refine sel_cons 3 rfl ?_ | refine sel_cons 4 rfl ?_ | refine sel_cons 5 rfl ?_ | refine sel_cons 6 rfl ?_ | refine sel_cons 7 rfl ?_ | refine sel_cons 8 rfl ?_ | refine sel_cons 9 rfl ?_ | refine sel_cons 10 rfl ?_ | refine sel_cons 11 rfl ?_ | refine sel_cons 12 rfl ?_ | refine sel_cons 13 rfl ?_)))⟩
    | refine qbody_cell 0 rfl st_G rfl rfl rfl ⟨_, ⟨4 + x0, gb, gRows (4 + x0).toNat Pb, ci, ch, by omega, hlenG _ _ (by omega), hgb, rfl, by assumption, rfl⟩, fun w' hw => (by have h := hw; exact Cl.ofSel (by assumption) (by repeat (first | exact sel_nil | refine sel_cons 0 rfl ?_ | refine sel_cons 1 rfl ?_ | refine sel_cons 2 rfl ?_ | refine sel_cons 3 rfl ?_ | refine sel_cons 4 rfl ?_ | refine sel_cons 5 rfl ?_ | refine sel_cons 6 rfl ?_ | refine sel_cons 7 rfl ?_ | refine sel_cons 8 rfl ?_ | refine sel_cons 9 rfl ?_ | refine sel_cons 10 rfl ?_ | refine sel_cons 11 rfl ?_ | refine sel_cons 12 rfl ?_ | refine sel_cons 13 rfl ?_)))⟩
    | refine qbody_cell 0 rfl st_G rfl rfl rfl ⟨_, ⟨4 + x0, ga, gRows (4 + x0).toNat Pa, ci, ch, by omega, hlenG _ _ (by omega), hga, rfl, by assumption, rfl⟩, fun w' hw => (by have h := hw; exact Cl.ofSel (by assumption) (by repeat (first | exact sel_nil | refine sel_cons 0 rfl ?_ | refine sel_cons 1 rfl ?_ | refine sel_cons 2 rfl ?_ | refine sel_cons 3 rfl ?_ | refine sel_cons 4 rfl ?_ | refine sel_cons 5 rfl ?_ | refine sel_cons 6 rfl ?_ | refine sel_cons 7 rfl ?_ | refine sel_cons 8 rfl ?_ | refine sel_cons 9 rfl ?_ | refine sel_cons 10 rfl ?_ | refine sel_cons 11 rfl ?_ | refine sel_cons 12 rfl ?_ | refine sel_cons 13 rfl ?_)))⟩
    | refine qbody_cell 1 rfl st_G rfl rfl rfl ⟨_, ⟨n, gv, rows, ci, ch, hn, hrl, hgv, rfl, hi, rfl⟩, fun w' hw => (by have h := hw; exact Cl.ofSel (by assumption) (by repeat (first | exact sel_nil | refine sel_cons 0 rfl ?_ | refine sel_cons 1 rfl ?_ | refine sel_cons 2 rfl ?_ | refine sel_cons 3 rfl ?_ | refine sel_cons 4 rfl ?_ | refine sel_cons 5 rfl ?_ | refine sel_cons 6 rfl ?_ | refine sel_cons 7 rfl ?_ | refine sel_cons 8 rfl ?_ | refine sel_cons 9 rfl ?_ | refine sel_cons 10 rfl ?_ | refine sel_cons 11 rfl ?_ | refine sel_cons 12 rfl ?_ | refine sel_cons 13 rfl ?_)))⟩
    | refine qbody_cell 1 rfl st_G rfl rfl rfl ⟨_, ⟨4 + x0, gb, gRows (4 + x0).toNat Pb, ci, ch, by omega, hlenG _ _ (by omega), hgb, rfl, by assumption, rfl⟩, fun w' hw => (by have h := hw; exact Cl.ofSel (by assumption) (by repeat (first | exact sel_nil | refine sel_cons 0 rfl ?_ | refine sel_cons 1 rfl ?_ | refine sel_cons 2 rfl ?_ | refine sel_cons 3 rfl ?_ | refine sel_cons 4 rfl ?_ | refine sel_cons 5 rfl ?_ | refine sel_cons 6 rfl ?_ | refine sel_cons 7 rfl ?_ | refine sel_cons 8 rfl ?_ | refine sel_cons 9 rfl ?_ | refine sel_cons 10 rfl ?_ | refine sel_cons 11 rfl ?_ | refine sel_cons 12 rfl ?_ | refine sel_cons 13 rfl ?_)))⟩
    | refine qbody_cell 1 rfl st_G rfl rfl rfl ⟨_, ⟨4 + x0, ga, gRows (4 + x0).toNat Pa, ci, ch, by omega, hlenG _ _ (by omega), hga, rfl, by assumption, rfl⟩, fun w' hw => (by have h := hw; exact Cl.ofSel (by assumption) (by repeat (first | exact sel_nil | refine sel_cons 0 rfl ?_ | refine sel_cons 1 rfl ?_ | refine sel_cons 2 rfl ?_ | refine sel_cons 3 rfl ?_ | refine sel_cons 4 rfl ?_ | refine sel_cons 5 rfl ?_ | refine sel_cons 6 rfl ?_ | refine sel_cons 7 rfl ?_ | refine sel_cons 8 rfl ?_ | refine sel_cons 9 rfl ?_ | refine sel_cons 10 rfl ?_ | refine sel_cons 11 rfl ?_ | refine sel_cons 12 rfl ?_ | refine sel_cons 13 rfl ?_)))⟩
    | refine qbody_cell 2 rfl st_G rfl rfl rfl ⟨_, ⟨n, gv, rows, ci, ch, hn, hrl, hgv, rfl, hi, rfl⟩, fun w' hw => (by have h := hw; exact Cl.ofSel (by assumption) (by repeat (first | exact sel_nil | refine sel_cons 0 rfl ?_ | refine sel_cons 1 rfl ?_ | refine sel_cons 2 rfl ?_ | refine sel_cons 3 rfl ?_ | refine sel_cons 4 rfl ?_ | refine sel_cons 5 rfl ?_ | refine sel_cons 6 rfl ?_ | refine sel_cons 7 rfl ?_ | refine sel_cons 8 rfl ?_ | refine sel_cons 9 rfl ?_ | refine sel_cons 10 rfl ?_ | refine sel_cons 11 rfl ?_ | refine sel_cons 12 rfl ?_ | refine sel_cons 13 rfl ?_)))⟩
    | refine qbody_cell 2 rfl st_G rfl rfl rfl ⟨_, ⟨4 + x0, gb, gRows (4 + x0).toNat Pb, ci, ch, by omega, hlenG _ _ (by omega), hgb, rfl, by assumption, rfl⟩, fun w' hw => (by have h := hw; exact Cl.ofSel (by assumption) (by repeat (first | exact sel_nil | refine sel_cons 0 rfl ?_ | refine sel_cons 1 rfl ?_ | refine sel_cons 2 rfl ?_ | refine sel_cons 3 rfl ?_ | refine sel_cons 4 rfl ?_ | refine sel_cons 5 rfl ?_ | refine sel_cons 6 rfl ?_ | refine sel_cons 7 rfl ?_ | refine sel_cons 8 rfl ?_ | refine sel_cons 9 rfl ?_ | refine sel_cons 10 rfl ?_ | refine sel_cons 11 rfl ?_ | refine sel_cons 12 rfl ?_ | refine sel_cons 13 rfl ?_)))⟩
    | refine qbody_cell 2 rfl st_G rfl rfl rfl ⟨_, ⟨4 + x0, ga, gRows (4 + x0).toNat Pa, ci, ch, by omega, hlenG _ _ (by omega), hga, rfl, by assumption, rfl⟩, fun w' hw => (by have h := hw; exact Cl.ofSel (by assumption) (by repeat (first | exact sel_nil | refine sel_cons 0 rfl ?_ | refine sel_cons 1 rfl ?_ | refine sel_cons 2 rfl ?_ | refine sel_cons 3 rfl ?_ | refine sel_cons 4 rfl ?_ | refine sel_cons 5 rfl ?_ | refine sel_cons 6 rfl ?_ | refine sel_cons 7 rfl ?_ | refine sel_cons 8 rfl ?_ | refine sel_cons 9 rfl ?_ | refine sel_cons 10 rfl ?_ | refine sel_cons 11 rfl ?_ | refine sel_cons 12 rfl ?_ | refine sel_cons 13 rfl ?_)))⟩
    | refine qbody_cell 3 rfl st_G rfl rfl rfl ⟨_, ⟨n, gv, rows, ci, ch, hn, hrl, hgv, rfl, hi, rfl⟩, fun w' hw => (by have h := hw; exact Cl.ofSel (by assumption) (by repeat (first | exact sel_nil | refine sel_cons 0 rfl ?_ | refine sel_cons 1 rfl ?_ | refine sel_cons 2 rfl ?_ | refine sel_cons 3 rfl ?_ | refine sel_cons 4 rfl ?_ | refine sel_cons 5 rfl ?_ | refine sel_cons 6 rfl ?_ | refine sel_cons 7 rfl ?_ | refine sel_cons 8 rfl ?_ | refine sel_cons 9 rfl ?_ | refine sel_cons 10 rfl ?_ | refine sel_cons 11 rfl ?_ | refine sel_cons 12 rfl ?_ | refine sel_cons 13 rfl ?_)))⟩
    | refine qbody_cell 3 rfl st_G rfl rfl rfl ⟨_, ⟨4 + x0, gb, gRows (4 + x0).toNat Pb, ci, ch, by omega, hlenG _ _ (by omega), hgb, rfl, by assumption, rfl⟩, fun w' hw => (by have h := hw; exact Cl.ofSel (by assumption) (by repeat (first | exact sel_nil | refine sel_cons 0 rfl ?_ | refine sel_cons 1 rfl ?_ | refine sel_cons 2 rfl ?_ | refine sel_cons 3 rfl ?_ | refine sel_cons 4 rfl ?_ | refine sel_cons 5 rfl ?_ | refine sel_cons 6 rfl ?_ | refine sel_cons 7 rfl ?_ | refine sel_cons 8 rfl ?_ | refine sel_cons 9 rfl ?_ | refine sel_cons 10 rfl ?_ | refine sel_cons 11 rfl ?_ | refine sel_cons 12 rfl ?_ | refine sel_cons 13 rfl ?_)))⟩
    | refine qbody_cell 3 rfl st_G rfl rfl rfl ⟨_, ⟨4 + x0, ga, gRows (4 + x0).toNat Pa, ci, ch, by omega, hlenG _ _ (by omega), hga, rfl, by assumption, rfl⟩, fun w' hw => (by have h := hw; exact Cl.ofSel (by assumption) (by repeat (first | exact sel_nil | refine sel_cons 0 rfl ?_ | refine sel_cons 1 rfl ?_ | refine sel_cons 2 rfl ?_ | refine sel_cons 3 rfl ?_ | refine sel_cons 4 rfl ?_ | refine sel_cons 5 rfl ?_ | refine sel_cons 6 rfl ?_ | refine sel_cons 7 rfl ?_ | refine sel_cons 8 rfl ?_ | refine sel_cons 9 rfl ?_ | refine sel_cons 10 rfl ?_ | refine sel_cons 11 rfl ?_ | refine sel_cons 12 rfl ?_ | refine sel_cons 13 rfl ?_)))⟩
    | refine qbody_cell 4 rfl st_G rfl rfl rfl ⟨_, ⟨n, gv, rows, ci, ch, hn, hrl, hgv, rfl, hi, rfl⟩, fun w' hw => (by have h := hw; exact Cl.ofSel (by assumption) (by repeat (first | exact sel_nil | refine sel_cons 0 rfl ?_ | refine sel_cons 1 rfl ?_ | refine sel_cons 2 rfl ?_ | refine sel_cons 3 rfl ?_ | refine sel_cons 4 rfl ?_ | refine sel_cons 5 rfl ?_ | refine sel_cons 6 rfl ?_ | refine sel_cons 7 rfl ?_ | refine sel_cons 8 rfl ?_ | refine sel_cons 9 rfl ?_ | refine sel_cons 10 rfl ?_ | refine sel_cons 11 rfl ?_ | refine sel_cons 12 rfl ?_ | refine sel_cons 13 rfl ?_)))⟩
    | refine qbody_cell 4 rfl st_G rfl rfl rfl ⟨_, ⟨4 + x0, gb, gRows (4 + x0).toNat Pb, ci, ch, by omega, hlenG _ _ (by omega), hgb, rfl, by assumption, rfl⟩, fun w' hw => (by have h := hw; exact Cl.ofSel (by assumption) (by repeat (first | exact sel_nil | refine sel_cons 0 rfl ?_ | refine sel_cons 1 rfl ?_ | refine sel_cons 2 rfl ?_ | refine sel_cons 3 rfl ?_ | refine sel_cons 4 rfl ?_ | refine sel_cons 5 rfl ?_ | refine sel_cons 6 rfl ?_ | refine sel_cons 7 rfl ?_ | refine sel_cons 8 rfl ?_ | refine sel_cons 9 rfl ?_ | refine sel_cons 10 rfl ?_ | refine sel_cons 11 rfl ?_ | refine sel_cons 12 rfl ?_ | refine sel_cons 13 rfl ?_)))⟩
    | refine qbody_cell 4 rfl st_G rfl rfl rfl ⟨_, ⟨4 + x0, ga, gRows (4 + x0).toNat Pa, ci, ch, by omega, hlenG _ _ (by omega), hga, rfl, by assumption, rfl⟩, fun w' hw => (by have h := hw; exact Cl.ofSel (by assumption) (by repeat (first | exact sel_nil | refine sel_cons 0 rfl ?_ | refine sel_cons 1 rfl ?_ | refine sel_cons 2 rfl ?_ | refine sel_cons 3 rfl ?_ | refine sel_cons 4 rfl ?_ | refine sel_cons 5 rfl ?_ | refine sel_cons 6 rfl ?_ | refine sel_cons 7 rfl ?_ | refine sel_cons 8 rfl ?_ | refine sel_cons 9 rfl ?_ | refine sel_cons 10 rfl ?_ | refine sel_cons 11 rfl ?_ | refine sel_cons 12 rfl ?_ | refine sel_cons 13 rfl ?_)))⟩
    | refine qbody_cell 5 rfl st_G rfl rfl rfl ⟨_, ⟨n, gv, rows, ci, ch, hn, hrl, hgv, rfl, hi, rfl⟩, fun w' hw => (by have h := hw; exact Cl.ofSel (by assumption) (by repeat (first | exact sel_nil | refine sel_cons 0 rfl ?_ | refine sel_cons 1 rfl ?_ | refine sel_cons 2 rfl ?_ | refine sel_cons 3 rfl ?_ | refine sel_cons 4 rfl ?_ | refine sel_cons 5 rfl ?_ | refine sel_cons 6 rfl ?_ | refine sel_cons 7 rfl ?_ | refine sel_cons 8 rfl ?_ | refine sel_cons 9 rfl ?_ | refine sel_cons 10 rfl ?_ | refine sel_cons 11 rfl ?_ | refine sel_cons 12 rfl ?_ | refine sel_cons 13 rfl ?_)))⟩
    | refine qbody_cell 5 rfl st_G rfl rfl rfl ⟨_, ⟨4 + x0, gb, gRows (4 + x0).toNat Pb, ci, ch, by omega, hlenG _ _ (by omega), hgb, rfl, by assumption, rfl⟩, fun w' hw => (by have h := hw; exact Cl.ofSel (by assumption) (by repeat (first | exact sel_nil | refine sel_cons 0 rfl ?_ | refine sel_cons 1 rfl ?_ | refine sel_cons 2 rfl ?_ | refine sel_cons 3 rfl ?_ | refine sel_cons 4 rfl ?_ | refine sel_cons 5 rfl ?_ | refine sel_cons 6 rfl ?_ | refine sel_cons 7 rfl ?_ | refine sel_cons 8 rfl ?_ | refine sel_cons 9 rfl ?_ | refine sel_cons 10 rfl ?_ | refine sel_cons 11 rfl ?_ | refine sel_cons 12 rfl ?_ | refine sel_cons 13 rfl ?_)))⟩
    | refine qbody_cell 5 rfl st_G rfl rfl rfl ⟨_, ⟨4 + x0, ga, gRows (4 + x0).toNat Pa, ci, ch, by omega, hlenG _ _ (by omega), hga, rfl, by assumption, rfl⟩, fun w' hw => (by have h := hw; exact Cl.ofSel (by assumption) (by repeat (first | exact sel_nil | refine sel_cons 0 rfl ?_ | refine sel_cons 1 rfl ?_ | refine sel_cons 2 rfl ?_ | refine sel_cons 3 rfl ?_ | refine sel_cons 4 rfl ?_ | refine sel_cons 5 rfl ?_ | refine sel_cons 6 rfl ?_ | refine sel_cons 7 rfl ?_ | refine sel_cons 8 rfl ?_ | refine sel_cons 9 rfl ?_ | refine sel_cons 10 rfl ?_ | refine sel_cons 11 rfl ?_ | refine sel_cons 12 rfl ?_ | refine sel_cons 13 rfl ?_)))⟩
    | refine qbody_cell 6 rfl st_G rfl rfl rfl ⟨_, ⟨n, gv, rows, ci, ch, hn, hrl, hgv, rfl, hi, rfl⟩, fun w' hw => (by have h := hw; exact Cl.ofSel (by assumption) (by repeat (first | exact sel_nil | refine sel_cons 0 rfl ?_ | refine sel_cons 1 rfl ?_ | refine sel_cons 2 rfl ?_ | refine sel_cons 3 rfl ?_ | refine sel_cons 4 rfl ?_ | refine sel_cons 5 rfl ?_ | refine sel_cons 6 rfl ?_ | refine sel_cons 7 rfl ?_ | refine sel_cons 8 rfl ?_ | refine sel_cons 9 rfl ?_ | refine sel_cons 10 rfl ?_ | refine sel_cons 11 rfl ?_ | refine sel_cons 12 rfl ?_ | refine sel_cons 13 rfl ?_)))⟩
    | refine qbody_cell 6 rfl st_G rfl rfl rfl ⟨_, ⟨4 + x0, gb, gRows (4 + x0).toNat Pb, ci, ch, by omega, hlenG _ _ (by omega), hgb, rfl, by assumption, rfl⟩, fun w' hw => (by have h := hw; exact Cl.ofSel (by assumption) (by repeat (first | exact sel_nil | refine sel_cons 0 rfl ?_ | refine sel_cons 1 rfl ?_ | refine sel_cons 2 rfl ?_ | refine sel_cons 3 rfl ?_ | refine sel_cons 4 rfl ?_ | refine sel_cons 5 rfl ?_ | refine sel_cons 6 rfl ?_ | refine sel_cons 7 rfl ?_ | refine sel_cons 8 rfl ?_ | refine sel_cons 9 rfl ?_ | refine sel_cons 10 rfl ?_ | refine sel_cons 11 rfl ?_ | refine sel_cons 12 rfl ?_ | refine sel_cons 13 rfl ?_)))⟩
    | refine qbody_cell 6 rfl st_G rfl rfl rfl ⟨_, ⟨4 + x0, ga, gRows (4 + x0).toNat Pa, ci, ch, by omega, hlenG _ _ (by omega), hga, rfl, by assumption, rfl⟩, fun w' hw => (by have h := hw; exact Cl.ofSel (by assumption) (by repeat (first | exact sel_nil | refine sel_cons 0 rfl ?_ | refine sel_cons 1 rfl ?_ | refine sel_cons 2 rfl ?_ | refine sel_cons 3 rfl ?_ | refine sel_cons 4 rfl ?_ | refine sel_cons 5 rfl ?_ | refine sel_cons 6 rfl ?_ | refine sel_cons 7 rfl ?_ | refine sel_cons 8 rfl ?_ | refine sel_cons 9 rfl ?_ | refine sel_cons 10 rfl ?_ | refine sel_cons 11 rfl ?_ | refine sel_cons 12 rfl ?_ | refine sel_cons 13 rfl ?_)))⟩
    | refine qbody_cell 7 rfl st_G rfl rfl rfl ⟨_, ⟨n, gv, rows, ci, ch, hn, hrl, hgv, rfl, hi, rfl⟩, fun w' hw => (by have h := hw; exact Cl.ofSel (by assumption) (by repeat (first | exact sel_nil | refine sel_cons 0 rfl ?_ | refine sel_cons 1 rfl ?_ | refine sel_cons 2 rfl ?_ | refine sel_cons 3 rfl ?_ | refine sel_cons 4 rfl ?_ | refine sel_cons 5 rfl ?_ | refine sel_cons 6 rfl ?_ | refine sel_cons 7 rfl ?_ | refine sel_cons 8 rfl ?_ | refine sel_cons 9 rfl ?_ | refine sel_cons 10 rfl ?_ | refine sel_cons 11 rfl ?_ | refine sel_cons 12 rfl ?_ | refine sel_cons 13 rfl ?_)))⟩
    | refine qbody_cell 7 rfl st_G rfl rfl rfl ⟨_, ⟨4 + x0, gb, gRows (4 + x0).toNat Pb, ci, ch, by omega, hlenG _ _ (by omega), hgb, rfl, by assumption, rfl⟩, fun w' hw => (by have h := hw; exact Cl.ofSel (by assumption) (by repeat (first | exact sel_nil | refine sel_cons 0 rfl ?_ | refine sel_cons 1 rfl ?_ | refine sel_cons 2 rfl ?_ | refine sel_cons 3 rfl ?_ | refine sel_cons 4 rfl ?_ | refine sel_cons 5 rfl ?_ | refine sel_cons 6 rfl ?_ | refine sel_cons 7 rfl ?_ | refine sel_cons 8 rfl ?_ | refine sel_cons 9 rfl ?_ | refine sel_cons 10 rfl ?_ | refine sel_cons 11 rfl ?_ | refine sel_cons 12 rfl ?_ | refine sel_cons 13 rfl ?_)))⟩
    | refine qbody_cell 7 rfl st_G rfl rfl rfl ⟨_, ⟨4 + x0, ga, gRows (4 + x0).toNat Pa, ci, ch, by omega, hlenG _ _ (by omega), hga, rfl, by assumption, rfl⟩, fun w' hw => (by have h := hw; exact Cl.ofSel (by assumption) (by repeat (first | exact sel_nil | refine sel_cons 0 rfl ?_ | refine sel_cons 1 rfl ?_ | refine sel_cons 2 rfl ?_ | refine sel_cons 3 rfl ?_ | refine sel_cons 4 rfl ?_ | refine sel_cons 5 rfl ?_ | refine sel_cons 6 rfl ?_ | refine sel_cons 7 rfl ?_ | refine sel_cons 8 rfl ?_ | refine sel_cons 9 rfl ?_ | refine sel_cons 10 rfl ?_ | refine sel_cons 11 rfl ?_ | refine sel_cons 12 rfl ?_ | refine sel_cons 13 rfl ?_)))⟩
end Go.Proofs.YtmmflnigejfplaaGreat
/- Graphs of permutations; degrees. -/
namespace Go.Proofs.YtmmflnigejfplaaGreat
open Go Go.RowKit Go.Pw
theorem en_i_GraphOfPermutation_1 : Entry Tryz.prog 48 := ⟨_, Tryz.func48, by kernel_rfl, rfl⟩
theorem i_GraphOfPermutation_1_c (lv : Value) (l : List Int) (b v u : Nat) (w : World) (hl : Arr w lv (ints l)) (hb : Bk w b [lv]) (hv : v < l.length) (hu : u < l.length) :
    Pure Tryz.prog 48 #[.int .i64 v, .int .i64 u, .pointer (some ⟨b, 0, none⟩)] w (.bool (gpJ l v u)) := by
  refine pure_enter (args := [_, _, _]) en_i_GraphOfPermutation_1 Tryz.func48 rfl Tryz.ntmps48 rfl ?_
  unfold gpJ
  repeat' (first | apply pwp_seq | apply pwp_region | (apply px_run; (first | (apply opv_move; first | exact hid_int rfl) | (apply opv_assign; first | exact hid_bool rfl) | (apply opv_lss <;> rfl) | (apply opv_load_ints sc_int; rfl; (first | exact rd_old (by assumption)); (first | omega)) | (apply opv_index_nat (vs := ints _) el_int; rfl; rfl; (first | exact rd_old (by assumption)); (first | (simp only [ints_length]; omega))) | (apply opv_load_old; (first | with_reducible exact sc_ints); rfl; assumption; rfl)); rfl; rfl) | apply px_nil | apply qseq_normal | apply pwp_ret | (apply pwp_region_mix; kernel_rfl; decide +kernel; exact Cl.stable _ _ _))
  refine qbody_ret1 (v := .bool _) rfl rfl ⟨rfl, fun _ h => h.below⟩
theorem en_i_GraphOfPermutation : Entry Tryz.prog 14 := ⟨_, Tryz.func14, by kernel_rfl, rfl⟩
theorem i_GraphOfPermutation_c (pv : Value) (p : List Int) (w : World) (hp : Arr w pv (ints p)) :
    Gives Tryz.prog 14 #[pv] w (fun v objs => ∃ sv', v = .tuple #[.agg #[.int .i64 (gpZ p), sv'], .bool (decide (permP p))] ∧ objs = [.row 3 sv' (ints (gpL p))]) := by
  refine gives_enter (args := [_]) en_i_GraphOfPermutation Tryz.func14 rfl Tryz.ntmps14 rfl ?_
  have hlen := hp.len
  by_cases hok : permP p
  case neg =>
    have f1 : gpZ p = 0 := if_neg hok
    have f2 : gpL p = [] := if_neg hok
    have f3 : decide (permP p) = false := decide_eq_false hok
    repeat' (first | apply pwp_seq | apply pwp_region | (apply px_run; (first | (apply opv_assign; first | exact hid_bool rfl) | (apply opv_not_dec <;> rfl) | (apply opv_load_blk 1; (first | with_reducible exact sc_ints); rfl; rfl; rfl) | (apply opv_build0 bl_G) | (apply opv_call; rfl; rfl; exact Cl.stable _ _ _; exact fun w hw => i_IsPermutation_c _ p _ (by first | exact hw.arr (by assumption)))); rfl; rfl) | apply px_nil | apply qseq_normal | apply qseq_ret | apply pwp_ret | (apply pwp_cond_ndec; rfl; all_goals (intro hc; try (first | contradiction))) | (apply px_alloc st_G; rfl; rfl; rfl; intro bk) | (apply px_store_str 0 st_G; rfl; rfl; rfl; rfl; rfl; (intro w hw; (first | refine all2 rfl ?_ ?_) <;> (first | rfl)); rfl) | (apply px_box1; rfl; (intro w hw; (first | exact stor_arr (by assumption))); rfl; rfl; rfl; intro bk))
    refine qbody_cell_tmp 0 rfl st_G rfl rfl rfl rfl ⟨_, ⟨_, by rw [f1, f3]; rfl, rfl⟩, fun w' h => ?_⟩
    rw [f2]
    exact (h.sub (List.nil_sublist _)).nilRow _
  have l1 : 1 ≤ p.length := by have := hok.1; omega
  have l7 : p.length ≤ 7 := by have := hok.1; omega
  have f1 : gpZ p = p.length := if_pos hok
  have f2 : gpL p = gRows p.length (seenP (gpJ p) p.length 0) := if_pos hok
  have f3 : decide (permP p) = true := decide_eq_true hok
  repeat' (first | apply pwp_seq | apply pwp_region | (apply px_run; (first | (apply opv_assign; first | exact hid_bool rfl) | (apply opv_not_dec <;> rfl) | (apply opv_load_blk 1; (first | with_reducible exact sc_ints); rfl; rfl; rfl) | (apply opv_len_ints el_int; rfl; (first | exact rd_old (by assumption))) | (apply opv_make_func; rfl) | (apply opv_call; rfl; rfl; exact Cl.stable _ _ _; exact fun w hw => i_IsPermutation_c _ p _ (by first | exact hw.arr (by assumption)))); rfl; rfl) | apply px_nil | apply qseq_normal | apply pwp_skip | apply pwp_ret | (apply pwp_cond_ndec; rfl; all_goals (intro hc; try (first | contradiction))) | (apply px_alloc st_G; rfl; rfl; rfl; intro bk) | (apply px_store_str 1 st_G; rfl; rfl; rfl; rfl; rfl; (intro w hw; (first | refine all2 rfl ?_ ?_) <;> (first | rfl | exact stor_row 0 hw rfl)); rfl) | (apply px_box1; rfl; (intro w hw; (first | exact stor_arr (by assumption))); rfl; rfl; rfl; intro bk) | (apply px_gives; rfl; rfl; rfl; rfl; rfl; exact fun w hw => i_graphOf_c p.length _ _ (gpJ p) _ l7 (fun v u w' hv hu hb => i_GraphOfPermutation_1_c _ p _ v u w' (Arr.below (by first | exact hw.arr (by assumption)) hb) (Bk.below (hw.bk (k := 1) rfl) hb) hv hu); rintro _ _ ⟨sq, rfl, rfl⟩))
  refine qbody_cell_tmp 1 rfl st_G rfl rfl rfl rfl ⟨_, ⟨sq, by rw [f1, f3]; rfl, rfl⟩, fun w' h => ?_⟩
  rw [f2]
  exact Cl.sub (by assumption) (by repeat (first | exact List.Sublist.slnil | exact List.Sublist.refl _ | apply List.Sublist.cons_cons | exact List.sublist_append_left _ _ | exact List.sublist_append_right _ _ | apply List.Sublist.cons))
theorem en_s_GraphOfPermutation : Entry Tryz.prog 15 := ⟨_, Tryz.func15, by kernel_rfl, rfl⟩
set_option maxHeartbeats 2400000 in
theorem s_GraphOfPermutation_c (pv : Value) (p : List Int) (w : World) (hp : Arr w pv (ints p)) :
    Gives Tryz.prog 15 #[pv] w (fun v objs => ∃ sv', v = .tuple #[.agg #[.int .i64 (gpZ p), sv'], .bool (decide (permP p))] ∧ objs = [.row 3 sv' (ints (gpL p))]) := by
  refine gives_enter (args := [_]) en_s_GraphOfPermutation Tryz.func15 rfl Tryz.ntmps15 rfl ?_
  have hlen := hp.len
  by_cases hok : permP p
  case neg =>
    have f1 : gpZ p = 0 := if_neg hok
    have f2 : gpL p = [] := if_neg hok
    have f3 : decide (permP p) = false := decide_eq_false hok
    repeat' (first | apply pwp_seq | apply pwp_region | (apply px_run; (first | (apply opv_move; first | rfl) | (apply opv_assign; first | exact hid_bool rfl) | (apply opv_not_dec <;> rfl) | (apply opv_build0 bl_G) | (apply opv_call; rfl; rfl; exact Cl.stable _ _ _; exact fun w hw => s_IsPermutation_c _ p _ (by first | exact hw.arr (by assumption)))); rfl; rfl) | apply px_nil | apply qseq_normal | apply qseq_ret | apply pwp_ret | (apply pwp_cond_ndec; rfl; all_goals (intro hc; try (first | contradiction))) | (apply px_alloc st_G; rfl; rfl; rfl; intro bk) | (apply px_store_str 0 st_G; rfl; rfl; rfl; rfl; rfl; (intro w hw; (first | refine all2 rfl ?_ ?_) <;> (first | rfl)); rfl))
    refine qbody_cell_tmp 0 rfl st_G rfl rfl rfl rfl ⟨_, ⟨_, by rw [f1, f3]; rfl, rfl⟩, fun w' h => ?_⟩
    rw [f2]
    exact (h.sub (List.nil_sublist _)).nilRow _
  have l1 : 1 ≤ p.length := by have := hok.1; omega
  have l7 : p.length ≤ 7 := by have := hok.1; omega
  have f1 : gpZ p = p.length := if_pos hok
  have f2 : gpL p = gRows p.length (seenP (gpJ p) p.length 0) := if_pos hok
  have f3 : decide (permP p) = true := decide_eq_true hok
  have h0 : gRows p.length (seenP (gpJ p) 0 0) = List.replicate p.length 0 := gRows_none fun i u _ _ => seenP_zero (gpJ p) i u
  repeat' (first | apply pwp_seq | apply pwp_region | (apply px_run; (first | (apply opv_move; first | rfl) | (apply opv_assign; first | exact hid_int rfl | exact hid_bool rfl) | (apply opv_not_dec <;> rfl) | (apply opv_len_ints el_int; rfl; (first | exact rd_old (by assumption))) | (apply opv_build2 bl_G; rfl; rfl; (first | exact rd_row 0 rfl)) | (apply opv_call; rfl; rfl; exact Cl.stable _ _ _; exact fun w hw => s_IsPermutation_c _ p _ (by first | exact hw.arr (by assumption)))); rfl; rfl) | apply px_nil | apply qseq_normal | apply pwp_block | apply pwp_skip | (apply pwp_cond_ndec; rfl; all_goals (intro hc; try (first | contradiction))) | (apply px_make ez_int; rfl; rfl; rfl; rfl; rfl; omega; (simp only [maxLen]; omega); intro sv) | (apply px_alloc st_G; rfl; rfl; rfl; intro bk) | (apply px_store_str 0 st_G; rfl; rfl; rfl; rfl; rfl; (intro w hw; (first | refine all2 rfl ?_ ?_) <;> (first | rfl | exact stor_row 1 hw rfl)); rfl))
  rename_i bk1
  rename Nat => bk0
  refine pwp_loop (τ := Nat × Value) [(5,6), (17,43)] (fun x => [(5, .int .i64 (x.1 : Int))]) (fun x => Cl [] w [.row 3 x.2 (ints (gRows p.length (seenP (gpJ p) x.1 0))), .blk bk0 [.int .i64 p.length, x.2], .blk bk1 [.int .i64 0, .slice none 0 0]]) (fun x => x.1 ≤ p.length) (fun x => p.length - x.1) (0, sv)
    ⟨rfl, trivial⟩ (Nat.zero_le _) (fun _ h => by dsimp only; rw [h0, show ints (List.replicate p.length 0) = List.replicate p.length (Value.int .i64 0) by simp [ints]]; exact h.perm (.swap _ _ _)) (fun J1 x hi => ?_)
  obtain ⟨i, si⟩ := x
  dsimp only at hi ⊢
  by_cases hlt : i < p.length
  · repeat' (first | apply pwp_seq | apply pwp_region | (apply px_run; (first | (apply opv_move; first | exact hid_int rfl | rfl) | (apply opv_assign; first | exact hid_int rfl) | (apply opv_lss <;> rfl) | (apply opv_len_ints el_int; rfl; (first | exact rd_old (by assumption)))); rfl; rfl) | apply px_nil | apply qseq_normal | apply pwp_block | apply pwp_skip | (apply pwp_cond_dec; rfl; all_goals (intro hc; try (first | (exfalso; omega)))))
    refine pwp_loop (τ := Nat × Value) [(6,6), (23,43)] (fun x => [(6, .int .i64 (x.1 : Int))]) (fun x => Cl [] w [.row 3 x.2 (ints (gRows p.length (seenP (gpJ p) i x.1))), .blk bk0 [.int .i64 p.length, x.2], .blk bk1 [.int .i64 0, .slice none 0 0]]) (fun x => x.1 ≤ i) (fun x => i - x.1) (0, si)
      ⟨rfl, trivial⟩ (Nat.zero_le _) (fun _ h => h) (fun J2 x hj => ?_)
    obtain ⟨j, sj⟩ := x
    dsimp only at hj ⊢
    by_cases hlt2 : j < i
    · obtain ⟨n1, n2⟩ := seenP_new (gpJ p) hlt2
      repeat' (first | apply pwp_seq | apply pwp_region | (apply px_run; (first | (apply opv_move; first | exact hid_int rfl | rfl) | (apply opv_assign; first | exact hid_int rfl) | (apply opv_lss <;> rfl) | (apply opv_gtr <;> rfl) | (apply opv_add_in; rfl; rfl; omega) | (apply opv_load_ints sc_int; rfl; (first | exact rd_old (by assumption)); (first | omega)) | (apply opv_index_nat (vs := ints _) el_int; rfl; rfl; (first | exact rd_old (by assumption)); (first | (simp only [ints_length]; omega))) | (apply opv_load_str 1 st_G; rfl; rfl; rfl) | (apply opv_extract; rfl; rfl)); rfl; rfl) | apply px_nil | apply qseq_normal | apply pwp_block | apply qblock_normal | apply pwp_skip | (apply pwp_region_mix; kernel_rfl; decide +kernel; exact Cl.stable _ _ _) | (apply pwp_cond_dec; rfl; all_goals (intro hc; try (first | (exfalso; omega)))) | (apply px_store_str 2 st_G; rfl; rfl; rfl; rfl; rfl; (intro w hw; (first | refine all2 rfl ?_ ?_) <;> (first | rfl | exact stor_row 0 hw rfl)); rfl) | (apply px_gives; rfl; rfl; rfl; rfl; rfl; exact fun w hw => s_AddEdge_c p.length _ (seenP (gpJ p) i j) i j _ (by first | exact hw.rowArr (k := 0) rfl) l1 l7 (seenP_sym _ _ _) (seenP_irr _ _ _) hlt (by omega) (by omega) n2; rintro _ _ ⟨sc, rfl, rfl⟩))
      · refine qround_normal ?_ ⟨(j + 1, sc), ⟨rfl, trivial⟩, by dsimp only; omega, by dsimp only; omega, fun w' h => ?_⟩
        · repeat (first | exact same_refl | refine same_upd rfl ?_ | refine same_junk rfl ?_)
        · dsimp only
          rw [← gRows_congr (P := pairAdd (seenP (gpJ p) i j) i j) (fun x u _ _ => by rw [q_sym]; exact seenP_yes (gpJ p) hlt2 (decide_eq_true hc) x u)]
          exact Cl.sub (by assumption) (by repeat (first | exact List.Sublist.slnil | exact List.Sublist.refl _ | apply List.Sublist.cons_cons | exact List.sublist_append_left _ _ | exact List.sublist_append_right _ _ | apply List.Sublist.cons))
      · refine qround_normal ?_ ⟨(j + 1, sj), ⟨rfl, trivial⟩, by dsimp only; omega, by dsimp only; omega, fun w' h => ?_⟩
        · repeat (first | exact same_refl | refine same_upd rfl ?_ | refine same_junk rfl ?_)
        · dsimp only
          rw [← gRows_congr (P := seenP (gpJ p) i j) (fun x u _ _ => seenP_no (gpJ p) hlt2 (decide_eq_false hc) x u)]
          exact Cl.sub (by assumption) (by repeat (first | exact List.Sublist.slnil | exact List.Sublist.refl _ | apply List.Sublist.cons_cons | exact List.sublist_append_left _ _ | exact List.sublist_append_right _ _ | apply List.Sublist.cons))
    · obtain rfl : j = i := by omega
      repeat' (first | apply pwp_seq | apply pwp_region | (apply px_run; (first | (apply opv_move; first | exact hid_int rfl) | (apply opv_assign; first | exact hid_int rfl) | (apply opv_lss <;> rfl) | (apply opv_add_in; rfl; rfl; omega)); rfl; rfl) | apply px_nil | apply qseq_normal | apply qseq_exit | apply qblock_normal | (apply qblock_exit_same; rfl) | apply pwp_exit | apply qround_exit | (apply pwp_cond_dec; rfl; all_goals (intro hc; try (first | (exfalso; omega)))))
      refine qround_normal ?_ ⟨(j + 1, sj), ⟨rfl, trivial⟩, by dsimp only; omega, by dsimp only; omega, fun w' h => ?_⟩
      · repeat (first | exact same_refl | refine same_upd rfl ?_ | refine same_junk rfl ?_)
      · dsimp only
        rw [← gRows_congr (P := seenP (gpJ p) j j) (fun x u _ _ => seenP_next (gpJ p) j x u)]
        exact h
  · obtain rfl : i = p.length := by omega
    repeat' (first | apply pwp_seq | apply pwp_region | (apply px_run; (first | (apply opv_move; first | exact hid_int rfl | rfl) | (apply opv_assign; first | exact hid_bool rfl) | (apply opv_lss <;> rfl) | (apply opv_len_ints el_int; rfl; (first | exact rd_old (by assumption))) | (apply opv_load_str 1 st_G; rfl; rfl; rfl)); rfl; rfl) | apply px_nil | apply qseq_normal | apply qseq_exit | (apply qblock_exit_same; rfl) | apply pwp_exit | apply pwp_ret | apply qround_exit | (apply pwp_cond_dec; rfl; all_goals (intro hc; try (first | (exfalso; omega)))) | (apply px_store_str 2 st_G; rfl; rfl; rfl; rfl; rfl; (intro w hw; (first | refine all2 rfl ?_ ?_) <;> (first | rfl | exact stor_row 0 hw rfl)); rfl))
    refine qbody_cell_tmp 2 rfl st_G rfl rfl rfl rfl ⟨_, ⟨si, by rw [f1, f3]; rfl, rfl⟩, fun w' h => ?_⟩
    rw [f2]
    exact Cl.sub (by assumption) (by repeat (first | exact List.Sublist.slnil | exact List.Sublist.refl _ | apply List.Sublist.cons_cons | exact List.sublist_append_left _ _ | exact List.sublist_append_right _ _ | apply List.Sublist.cons))
end Go.Proofs.YtmmflnigejfplaaGreat
/- Lists sorted and turned round by the reference; degrees; the criterion of degrees. -/
namespace Go.Proofs.YtmmflnigejfplaaGreat
open Go Go.RowKit Go.Pw
theorem en_s_l6Reverse : Entry Tryz.prog 62 := ⟨_, Tryz.func62, by kernel_rfl, rfl⟩
set_option maxHeartbeats 800000 in
theorem s_l6Reverse_c (lv : Value) (l : List Int) (w : World) (hr : Arr w lv (ints l)) (hl : l.length ≤ 100000) :
    Gives Tryz.prog 62 #[lv] w (fun v objs => objs = [.row 3 v (ints l.reverse)]) := by
  refine gives_enter (args := [_]) en_s_l6Reverse Tryz.func62 rfl Tryz.ntmps62 rfl ?_
  repeat' (first | apply pwp_seq | apply pwp_region | (apply px_run; (first | (apply opv_move; first | rfl) | (apply opv_assign; first | exact hid_int rfl | rfl) | (apply opv_sub_in; rfl; rfl; omega) | (apply opv_len_ints el_int; rfl; (first | exact rd_old (by assumption)))); rfl; rfl) | apply px_nil | apply qseq_normal | apply pwp_block | (apply px_lit0i ez_int; rfl; rfl; rfl; intro sv))
  refine pwp_loop (τ := Nat × Value) [(3,4), (9,19)] (fun x => [(4, .int .i64 ((x.1 : Int) - 1)), (3, x.2)]) (fun x => Cl [] w [.row 3 x.2 (ints (l.drop x.1).reverse)]) (fun x => x.1 ≤ l.length) (fun x => x.1) (l.length, sv)
    ⟨rfl, rfl, trivial⟩ (Nat.le_refl _) (fun _ h => by simpa using h) (fun J x hi => ?_)
  obtain ⟨i, so⟩ := x
  dsimp only at hi ⊢
  rcases Nat.eq_zero_or_pos i with rfl | hi0
  · repeat' (first | apply pwp_seq | apply pwp_region | (apply px_run; (first | (apply opv_move; first | exact hid_int rfl | rfl) | (apply opv_assign; first | rfl) | (apply opv_geq <;> rfl)); rfl; rfl) | apply px_nil | apply qseq_normal | apply qseq_exit | (apply qblock_exit_same; rfl) | apply pwp_exit | apply pwp_ret | apply qround_exit | (apply pwp_cond_f; rfl))
    refine qbody_ret1 rfl rfl ⟨_, rfl, fun w' h => ?_⟩
    exact h
  · obtain ⟨k, rfl⟩ : ∃ k, i = k + 1 := ⟨i - 1, by omega⟩
    have e : (((k + 1 : Nat) : Int)) - 1 = (k : Nat) := by omega
    have hdl : (l.drop (k + 1)).reverse.length ≤ 100000 := by rw [List.length_reverse, List.length_drop]; omega
    rw [e]
    repeat' (first | apply pwp_seq | apply pwp_region | (apply px_run; (first | (apply opv_move; first | exact hid_int rfl | rfl) | (apply opv_assign; first | exact hid_int rfl | rfl) | (apply opv_geq <;> rfl) | (apply opv_sub_in; rfl; rfl; omega) | (apply opv_load_ints sc_int; rfl; (first | exact rd_old (by assumption)); (first | omega)) | (apply opv_index_nat (vs := ints _) el_int; rfl; rfl; (first | exact rd_old (by assumption)); (first | (simp only [ints_length]; omega)))); rfl; rfl) | apply px_nil | apply qseq_normal | apply pwp_block | apply qblock_normal | apply pwp_skip | (apply pwp_cond_t; rfl) | (apply px_lit1 ez_int; rfl; (intro w hw; (first | rfl)); rfl; rfl; rfl; intro sv) | (apply px_append 1 ez_int; rfl; rfl; rfl; (first | exact rd_row 0 rfl); (first | (intro _ _ u hu; simp at hu; subst hu; rfl)); (simp [ints]; omega); decide; rfl; rfl; intro sv))
    refine qround_normal ?_ ⟨(k, sv), ⟨rfl, rfl, trivial⟩, by dsimp only; omega, by dsimp only; omega, fun w' h => ?_⟩
    · repeat (first | exact same_refl | refine same_upd rfl ?_ | refine same_junk rfl ?_)
    · dsimp only
      rw [drop_cons (show k < l.length by omega), List.reverse_cons, ← ints_snoc]
      exact Cl.sub (by assumption) (by repeat (first | exact List.Sublist.slnil | exact List.Sublist.refl _ | apply List.Sublist.cons_cons | exact List.sublist_append_left _ _ | exact List.sublist_append_right _ _ | apply List.Sublist.cons))
end Go.Proofs.YtmmflnigejfplaaGreat
/- Clique numbers by the reference, comparability; the draws of the law on permutations. -/
namespace Go.Proofs.YtmmflnigejfplaaGreat
open Go Go.RowKit Go.Pw
/-- Some graph of at most seven rows beside the cursor. -/
def AnyL (cv : Value) (l : List Int) (cb : Nat) (v : Value) (new : List Ob) : Prop := ∃ n gv rows i h, rows.length ≤ 7 ∧ v = .agg #[.int .i64 n, gv] ∧ (0 ≤ i ∧ i ≤ (l.length : Int)) ∧ new = [.row 3 gv (ints rows), .blk cb (cells3 cv i h)]
theorem cnt_nat {s : Nat} (h : s < 128) : cntS (s : Int) = (cntN s : Nat) := by
  unfold cntS
  rw [(listS_facts h).2.2.2]
theorem en_s_LargestClique : Entry Tryz.prog 59 := ⟨_, Tryz.func59, by kernel_rfl, rfl⟩
theorem s_LargestClique_c (n : Nat) (gv : Value) (rows : List Int) (w : World) (hr : Arr w gv (ints rows)) (hg : IsG n rows) :
    Pure Tryz.prog 59 #[.agg #[.int .i64 n, gv]] w (.int .i64 (bestN (fun s => decide (cliqueP n rows (s : Int))) (2 ^ n))) := by
  refine pure_enter (args := [_]) en_s_LargestClique Tryz.func59 rfl Tryz.ntmps59 rfl ?_
  obtain ⟨m, hm, hrl, hn1, hn7⟩ := isG_size hg
  have hnm : n = m := by omega
  subst hnm
  have h7 := pow_le7 hn7
  have hpos : 1 < 2 ^ n := Nat.one_lt_two_pow (by omega)
  have hN : ishl 1 (n : Int) = ((2 ^ n : Nat) : Int) := by rw [ishl_one_nat (by omega)]
  have kG := fun sv w' h => s_IsGraph_c n sv rows w' h
  rw [decide_eq_true hg] at kG
  have h1 : bestN (fun s => decide (cliqueP n rows (s : Int))) 1 = 0 := by simp [bestN]
  repeat' (first | apply pwp_seq | apply pwp_region | (apply px_run; (first | (apply opv_assign; first | exact hid_int rfl)); rfl; rfl) | apply px_nil | apply qseq_normal | apply pwp_block | (apply px_box; rfl; rfl; rfl; rfl; intro bk))
  refine pwp_loop (τ := Nat) [(3,26)] (fun k => [(4, .int .i64 (k : Int)), (3, .int .i64 (bestN (fun s => decide (cliqueP n rows (s : Int))) k))]) (fun _ => Cl [] w [.blk bk [.int .i64 n, gv]]) (fun k => 1 ≤ k ∧ k ≤ 2 ^ n) (fun k => 2 ^ n - k) 1
    ⟨rfl, by rw [h1]; rfl, trivial⟩ ⟨Nat.le_refl _, by omega⟩ (fun _ h => h) (fun J k hk => ?_)
  obtain ⟨k1, k2⟩ := hk
  by_cases hlt : k < 2 ^ n
  · have hb := bestN_lt (fun s => decide (cliqueP n rows (s : Int))) k
    have c1 : ∀ w', Pure Tryz.prog 26 #[.int .i64 (k : Int)] w' (.int .i64 (cntN k : Nat)) := fun w' => by rw [← cnt_nat (by omega)]; exact s_CountSet_c _ w'
    have c2 : ∀ w', Pure Tryz.prog 26 #[.int .i64 (bestN (fun s => decide (cliqueP n rows (s : Int))) k : Int)] w' (.int .i64 (cntN (bestN (fun s => decide (cliqueP n rows (s : Int))) k) : Nat)) := fun w' => by rw [← cnt_nat (by omega)]; exact s_CountSet_c _ w'
    have hs : bestN (fun s => decide (cliqueP n rows (s : Int))) (k + 1) = if cntN (bestN (fun s => decide (cliqueP n rows (s : Int))) k) < cntN k ∧ decide (cliqueP n rows (k : Int)) = true then k else bestN (fun s => decide (cliqueP n rows (s : Int))) k := rfl
    repeat' (first | apply pwp_seq | apply pwp_region | (apply px_run; (first | (apply opv_move; first | exact hid_int rfl | exact hid_bool rfl) | (apply opv_assign; first | exact hid_int rfl) | (apply opv_lss <;> rfl) | (apply opv_gtr <;> rfl) | (apply opv_pick_t <;> rfl) | (apply opv_pick_f <;> rfl) | (apply opv_add_in; rfl; rfl; omega) | (apply opv_shl; rfl; rfl; omega) | (apply opv_field fld_G0; rfl) | (apply opv_load_blk 0; (first | with_reducible exact sc_int); rfl; rfl; rfl) | (apply opv_load_str 0 st_G; rfl; rfl; rfl) | (apply opv_call; rfl; rfl; exact Cl.stable _ _ _; exact fun w hw => kG _ _ (by first | exact hw.arr (by assumption))) | (apply opv_call; rfl; rfl; exact Cl.stable _ _ _; exact fun w hw => c1 _) | (apply opv_call; rfl; rfl; exact Cl.stable _ _ _; exact fun w hw => c2 _) | (apply opv_call; rfl; rfl; exact Cl.stable _ _ _; exact fun w hw => s_IsClique_c _ _ rows _ _ (by first | exact hw.arr (by assumption)))); rfl; rfl) | apply px_nil | (apply px_skip; rfl; rfl) | apply qseq_normal | apply pwp_block | apply qblock_normal | apply pwp_skip | (apply pwp_cond_f; rfl) | (apply px_guard_dec; rfl; rfl; rfl; all_goals (intro hc; try (first | fail))) | (apply pwp_cond_dec; rfl; all_goals (intro hc; try (first | (exfalso; omega)))))
    all_goals (refine qround_normal ?_ ⟨k + 1, ⟨rfl, ?_, trivial⟩, ⟨by omega, by omega⟩, by omega, fun _ h => h⟩)
    all_goals first
      | (show Value.int .i64 _ = .int .i64 ((bestN _ (k + 1) : Nat) : Int); rw [hs]; first | (rw [if_pos ⟨by omega, decide_eq_true (by assumption)⟩]; done) | (rw [if_neg (fun hq => by have := hq.1; omega)]; done) | (rw [if_neg (fun hq => absurd (of_decide_eq_true hq.2) (by assumption))]; done))
      | skip
    all_goals (repeat (first | exact same_refl | refine same_upd rfl ?_ | refine same_junk rfl ?_))
  · obtain rfl : k = 2 ^ n := by omega
    repeat' (first | apply pwp_seq | apply pwp_region | (apply px_run; (first | (apply opv_move; first | exact hid_int rfl | exact hid_bool rfl) | (apply opv_assign; first | exact hid_int rfl) | (apply opv_lss <;> rfl) | (apply opv_pick_t <;> rfl) | (apply opv_shl; rfl; rfl; omega) | (apply opv_field fld_G0; rfl) | (apply opv_load_blk 0; (first | with_reducible exact sc_int); rfl; rfl; rfl) | (apply opv_load_str 0 st_G; rfl; rfl; rfl) | (apply opv_call; rfl; rfl; exact Cl.stable _ _ _; exact fun w hw => kG _ _ (by first | exact hw.arr (by assumption)))); rfl; rfl) | apply px_nil | apply qseq_normal | apply qseq_exit | (apply qblock_exit_same; rfl) | apply pwp_exit | apply pwp_ret | apply qround_exit | (apply pwp_cond_dec; rfl; all_goals (intro hc; try (first | (exfalso; omega)))))
    refine qbody_ret1 (v := .int _ _) rfl rfl ⟨rfl, fun _ h => h.below⟩
theorem en_s_LargestIndependent : Entry Tryz.prog 27 := ⟨_, Tryz.func27, by kernel_rfl, rfl⟩
theorem s_LargestIndependent_c (n : Nat) (gv : Value) (rows : List Int) (w : World) (hr : Arr w gv (ints rows)) (hg : IsG n rows) :
    Pure Tryz.prog 27 #[.agg #[.int .i64 n, gv]] w (.int .i64 (bestN (fun s => decide (indepP n rows (s : Int))) (2 ^ n))) := by
  refine pure_enter (args := [_]) en_s_LargestIndependent Tryz.func27 rfl Tryz.ntmps27 rfl ?_
  obtain ⟨m, hm, hrl, hn1, hn7⟩ := isG_size hg
  have hnm : n = m := by omega
  subst hnm
  have h7 := pow_le7 hn7
  have hpos : 1 < 2 ^ n := Nat.one_lt_two_pow (by omega)
  have hN : ishl 1 (n : Int) = ((2 ^ n : Nat) : Int) := by rw [ishl_one_nat (by omega)]
  have kG := fun sv w' h => s_IsGraph_c n sv rows w' h
  rw [decide_eq_true hg] at kG
  have h1 : bestN (fun s => decide (indepP n rows (s : Int))) 1 = 0 := by simp [bestN]
  repeat' (first | apply pwp_seq | apply pwp_region | (apply px_run; (first | (apply opv_assign; first | exact hid_int rfl)); rfl; rfl) | apply px_nil | apply qseq_normal | apply pwp_block | (apply px_box; rfl; rfl; rfl; rfl; intro bk))
  refine pwp_loop (τ := Nat) [(3,26)] (fun k => [(4, .int .i64 (k : Int)), (3, .int .i64 (bestN (fun s => decide (indepP n rows (s : Int))) k))]) (fun _ => Cl [] w [.blk bk [.int .i64 n, gv]]) (fun k => 1 ≤ k ∧ k ≤ 2 ^ n) (fun k => 2 ^ n - k) 1
    ⟨rfl, by rw [h1]; rfl, trivial⟩ ⟨Nat.le_refl _, by omega⟩ (fun _ h => h) (fun J k hk => ?_)
  obtain ⟨k1, k2⟩ := hk
  by_cases hlt : k < 2 ^ n
  · have hb := bestN_lt (fun s => decide (indepP n rows (s : Int))) k
    have c1 : ∀ w', Pure Tryz.prog 26 #[.int .i64 (k : Int)] w' (.int .i64 (cntN k : Nat)) := fun w' => by rw [← cnt_nat (by omega)]; exact s_CountSet_c _ w'
    have c2 : ∀ w', Pure Tryz.prog 26 #[.int .i64 (bestN (fun s => decide (indepP n rows (s : Int))) k : Int)] w' (.int .i64 (cntN (bestN (fun s => decide (indepP n rows (s : Int))) k) : Nat)) := fun w' => by rw [← cnt_nat (by omega)]; exact s_CountSet_c _ w'
    have hs : bestN (fun s => decide (indepP n rows (s : Int))) (k + 1) = if cntN (bestN (fun s => decide (indepP n rows (s : Int))) k) < cntN k ∧ decide (indepP n rows (k : Int)) = true then k else bestN (fun s => decide (indepP n rows (s : Int))) k := rfl
    repeat' (first | apply pwp_seq | apply pwp_region | (apply px_run; (first | (apply opv_move; first | exact hid_int rfl | exact hid_bool rfl) | (apply opv_assign; first | exact hid_int rfl) | (apply opv_lss <;> rfl) | (apply opv_gtr <;> rfl) | (apply opv_pick_t <;> rfl) | (apply opv_pick_f <;> rfl) | (apply opv_add_in; rfl; rfl; omega) | (apply opv_shl; rfl; rfl; omega) | (apply opv_field fld_G0; rfl) | (apply opv_load_blk 0; (first | with_reducible exact sc_int); rfl; rfl; rfl) | (apply opv_load_str 0 st_G; rfl; rfl; rfl) | (apply opv_call; rfl; rfl; exact Cl.stable _ _ _; exact fun w hw => kG _ _ (by first | exact hw.arr (by assumption))) | (apply opv_call; rfl; rfl; exact Cl.stable _ _ _; exact fun w hw => c1 _) | (apply opv_call; rfl; rfl; exact Cl.stable _ _ _; exact fun w hw => c2 _) | (apply opv_call; rfl; rfl; exact Cl.stable _ _ _; exact fun w hw => s_IsIndependent_c _ _ rows _ _ (by first | exact hw.arr (by assumption)))); rfl; rfl) | apply px_nil | (apply px_skip; rfl; rfl) | apply qseq_normal | apply pwp_block | apply qblock_normal | apply pwp_skip | (apply pwp_cond_f; rfl) | (apply px_guard_dec; rfl; rfl; rfl; all_goals (intro hc; try (first | fail))) | (apply pwp_cond_dec; rfl; all_goals (intro hc; try (first | (exfalso; omega)))))
    all_goals (refine qround_normal ?_ ⟨k + 1, ⟨rfl, ?_, trivial⟩, ⟨by omega, by omega⟩, by omega, fun _ h => h⟩)
    all_goals first
      | (show Value.int .i64 _ = .int .i64 ((bestN _ (k + 1) : Nat) : Int); rw [hs]; first | (rw [if_pos ⟨by omega, decide_eq_true (by assumption)⟩]; done) | (rw [if_neg (fun hq => by have := hq.1; omega)]; done) | (rw [if_neg (fun hq => absurd (of_decide_eq_true hq.2) (by assumption))]; done))
      | skip
    all_goals (repeat (first | exact same_refl | refine same_upd rfl ?_ | refine same_junk rfl ?_))
  · obtain rfl : k = 2 ^ n := by omega
    repeat' (first | apply pwp_seq | apply pwp_region | (apply px_run; (first | (apply opv_move; first | exact hid_int rfl | exact hid_bool rfl) | (apply opv_assign; first | exact hid_int rfl) | (apply opv_lss <;> rfl) | (apply opv_pick_t <;> rfl) | (apply opv_shl; rfl; rfl; omega) | (apply opv_field fld_G0; rfl) | (apply opv_load_blk 0; (first | with_reducible exact sc_int); rfl; rfl; rfl) | (apply opv_load_str 0 st_G; rfl; rfl; rfl) | (apply opv_call; rfl; rfl; exact Cl.stable _ _ _; exact fun w hw => kG _ _ (by first | exact hw.arr (by assumption)))); rfl; rfl) | apply px_nil | apply qseq_normal | apply qseq_exit | (apply qblock_exit_same; rfl) | apply pwp_exit | apply pwp_ret | apply qround_exit | (apply pwp_cond_dec; rfl; all_goals (intro hc; try (first | (exfalso; omega)))))
    refine qbody_ret1 (v := .int _ _) rfl rfl ⟨rfl, fun _ h => h.below⟩
theorem en_s_CliqueNumber : Entry Tryz.prog 24 := ⟨_, Tryz.func24, by kernel_rfl, rfl⟩
theorem s_CliqueNumber_c (n : Nat) (gv : Value) (rows : List Int) (w : World) (hr : Arr w gv (ints rows)) (hg : IsG n rows) :
    Pure Tryz.prog 24 #[.agg #[.int .i64 n, gv]] w (.int .i64 (cntN (bestN (fun s => decide (cliqueP n rows (s : Int))) (2 ^ n)) : Nat)) := by
  refine pure_enter (args := [_]) en_s_CliqueNumber Tryz.func24 rfl Tryz.ntmps24 rfl ?_
  obtain ⟨m, hm, hrl, hn1, hn7⟩ := isG_size hg
  have hnm : n = m := by omega
  subst hnm
  have h7 := pow_le7 hn7
  have kG := fun sv w' h => s_IsGraph_c n sv rows w' h
  rw [decide_eq_true hg] at kG
  obtain ⟨b1, _⟩ := bestN_spec (fun s => decide (cliqueP n rows (s : Int))) (2 ^ n)
  have hb : bestN (fun s => decide (cliqueP n rows (s : Int))) (2 ^ n) < 128 := by
    rcases b1 with b1 | b1
    · omega
    · omega
  have c2 : ∀ w', Pure Tryz.prog 26 #[.int .i64 (bestN (fun s => decide (cliqueP n rows (s : Int))) (2 ^ n) : Int)] w' (.int .i64 (cntN (bestN (fun s => decide (cliqueP n rows (s : Int))) (2 ^ n)) : Nat)) := fun w' => by rw [← cnt_nat hb]; exact s_CountSet_c _ w'
  repeat' (first | apply pwp_seq | apply pwp_region | (apply px_run; (first | (apply opv_assign; first | exact hid_int rfl) | (apply opv_not <;> rfl) | (apply opv_load_str 0 st_G; rfl; rfl; rfl) | (apply opv_call; rfl; rfl; exact Cl.stable _ _ _; exact fun w hw => kG _ _ (by first | exact hw.arr (by assumption))) | (apply opv_call; rfl; rfl; exact Cl.stable _ _ _; exact fun w hw => s_LargestClique_c _ _ rows _ (by first | exact hw.arr (by assumption)) hg) | (apply opv_call; rfl; rfl; exact Cl.stable _ _ _; exact fun w hw => c2 _)); rfl; rfl) | apply px_nil | apply qseq_normal | apply pwp_skip | apply pwp_ret | (apply pwp_cond_f; rfl) | (apply px_box; rfl; rfl; rfl; rfl; intro bk))
  refine qbody_ret1 (v := .int _ _) rfl rfl ⟨rfl, fun _ h => h.below⟩
theorem en_s_IsComparability : Entry Tryz.prog 11 := ⟨_, Tryz.func11, by kernel_rfl, rfl⟩
theorem s_IsComparability_c (size : Int) (gv : Value) (rows : List Int) (w : World) (hr : Arr w gv (ints rows)) :
    Pure Tryz.prog 11 #[.agg #[.int .i64 size, gv]] w (.bool (oriX size rows).isSome) := by
  refine pure_enter (args := [_]) en_s_IsComparability Tryz.func11 rfl Tryz.ntmps11 rfl ?_
  repeat' (first | apply pwp_seq | apply pwp_region | (apply px_run; (first | (apply opv_move; first | exact hid_bool rfl | rfl) | (apply opv_assign; first | exact hid_bool rfl) | (apply opv_load_str 0 st_G; rfl; rfl; rfl) | (apply opv_extract; rfl; rfl)); rfl; rfl) | apply px_nil | apply qseq_normal | apply pwp_ret | (apply px_box; rfl; rfl; rfl; rfl; intro bk) | (apply px_alloc st_O; rfl; rfl; rfl; intro bk) | (apply px_store_str 0 st_O; rfl; rfl; rfl; rfl; rfl; (intro w hw; (first | refine all1 rfl ?_) <;> (first | exact stor_row 1 hw rfl)); rfl) | (apply px_gives; rfl; rfl; rfl; rfl; rfl; exact fun w hw => s_OrientationOf_c _ _ rows _ (by first | exact hw.arr (by assumption)); rintro _ _ ⟨vo, rfl, rfl⟩))
  refine qbody_ret1 (v := .bool _) rfl rfl ⟨rfl, fun _ h => h.below⟩
theorem en_s_l14Graph : Entry Tryz.prog 33 := ⟨_, Tryz.func33, by kernel_rfl, rfl⟩
set_option maxHeartbeats 3200000 in
theorem s_l14Graph_c (cv : Value) (l : List Int) (cb : Nat) (i h : Int) (w : World) (hcp : CodeP w cv l) (hi : 0 ≤ i ∧ i ≤ (l.length : Int)) (ho : Own w [.blk cb (cells3 cv i h)]) :
    GivesU Tryz.prog 33 #[.pointer (some ⟨cb, 0, none⟩)] w [.blk cb (cells3 cv i h)] (fun v new => AnyL cv l cb v new) := by
  have hap := code_apart hcp ho
  refine givesU_enterX (X := [cb]) (args := [_]) rfl ho en_s_l14Graph Tryz.func33 rfl Tryz.ntmps33 rfl ?_
  repeat' (first | apply pwp_seq | apply pwp_region | (apply px_run; (first | (apply opv_move; first | exact hid_bool rfl | exact hid_ptr rfl | rfl) | (apply opv_assign; first | exact hid_bool rfl) | (apply opv_pick_t <;> rfl) | (apply opv_pick_f <;> rfl) | (apply opv_load_str 1 st_G; rfl; rfl; rfl) | (apply opv_extract; rfl; rfl)); rfl; rfl) | apply px_nil | (apply px_skip; rfl; rfl) | apply qseq_normal | apply qseq_ret | apply pwp_skip | apply pwp_ret | (apply pwp_cond_f; rfl) | (apply px_guard_dec; rfl; rfl; rfl; all_goals (intro hc; try (first | fail))) | (apply pwp_cond; rfl; all_goals (intro hc; try (first | fail))) | (apply px_givesV [1]; rfl; rfl; rfl; rfl; rfl; (exact fun w' hw ho' => s_l14Permutation_c cv l cb _ _ w' (hcp.at hap hw) (by first | assumption) ho'); rintro _ _ ⟨pL, ci, ch, hpl, hi, rfl⟩; rename_i pv) | (apply px_givesV [3]; rfl; rfl; rfl; rfl; rfl; (exact fun w' hw ho' => s_l1Once_c cv l cb _ _ _ w' (hcp.at hap hw) (by first | assumption) ho'); rintro _ _ ⟨b, rfl, ⟨ci, ch, hi, rfl⟩⟩) | (apply px_givesV [0]; rfl; rfl; rfl; rfl; rfl; (exact fun w' hw ho' => s_l4Holey_c cv l cb _ _ w' (hcp.at hap hw) (by first | assumption) ho'); rintro _ _ ⟨n, gv, rows, ci, ch, hn, hrl, hgv, rfl, hi, rfl⟩) | (apply px_givesV [3]; rfl; rfl; rfl; rfl; rfl; (exact fun w' hw ho' => s_l4Holey_c cv l cb _ _ w' (hcp.at hap hw) (by first | assumption) ho'); rintro _ _ ⟨n, gv, rows, ci, ch, hn, hrl, hgv, rfl, hi, rfl⟩) | (apply px_alloc st_G; rfl; rfl; rfl; intro bk) | (apply px_store_str 0 st_G; rfl; rfl; rfl; rfl; rfl; (intro w hw; (first | refine all2 rfl ?_ ?_) <;> (first | rfl | exact stor_row 1 hw rfl)); rfl) | (apply px_store_str 4 st_G; rfl; rfl; rfl; rfl; rfl; (intro w hw; (first | refine all2 rfl ?_ ?_) <;> (first | rfl | exact stor_row 2 hw rfl)); rfl) | (apply px_store_str 5 st_G; rfl; rfl; rfl; rfl; rfl; (intro w hw; (first | refine all2 rfl ?_ ?_) <;> (first | rfl | assumption)); rfl) | (apply px_gives; rfl; rfl; rfl; rfl; rfl; exact fun w hw => s_GraphOfPermutation_c _ pL _ (by first | exact hw.rowArr (k := 0) rfl); rintro _ _ ⟨sg, rfl, rfl⟩))
  all_goals first
    | refine qbody_cell 0 rfl st_G rfl rfl rfl ⟨_, ⟨_, _, rows, ci, ch, hrl.2, rfl, hi, rfl⟩, fun w' hw => (by have h := hw; exact Cl.ofSel (by assumption) (by repeat (first | exact sel_nil | refine sel_cons 0 rfl ?_ | refine sel_cons 1 rfl ?_ | refine sel_cons 2 rfl ?_ | refine sel_cons 3 rfl ?_ | refine sel_cons 4 rfl ?_ | refine sel_cons 5 rfl ?_ | refine sel_cons 6 rfl ?_ | refine sel_cons 7 rfl ?_ | refine sel_cons 8 rfl ?_ | refine sel_cons 9 rfl ?_ | refine sel_cons 10 rfl ?_ | refine sel_cons 11 rfl ?_ | refine sel_cons 12 rfl ?_ | refine sel_cons 13 rfl ?_)))⟩
    | refine qbody_cell 1 rfl st_G rfl rfl rfl ⟨_, ⟨_, _, rows, ci, ch, hrl.2, rfl, hi, rfl⟩, fun w' hw => (by have h := hw; exact Cl.ofSel (by assumption) (by repeat (first | exact sel_nil | refine sel_cons 0 rfl ?_ | refine sel_cons 1 rfl ?_ | refine sel_cons 2 rfl ?_ | refine sel_cons 3 rfl ?_ | refine sel_cons 4 rfl ?_ | refine sel_cons 5 rfl ?_ | refine sel_cons 6 rfl ?_ | refine sel_cons 7 rfl ?_ | refine sel_cons 8 rfl ?_ | refine sel_cons 9 rfl ?_ | refine sel_cons 10 rfl ?_ | refine sel_cons 11 rfl ?_ | refine sel_cons 12 rfl ?_ | refine sel_cons 13 rfl ?_)))⟩
    | refine qbody_cell 2 rfl st_G rfl rfl rfl ⟨_, ⟨_, _, rows, ci, ch, hrl.2, rfl, hi, rfl⟩, fun w' hw => (by have h := hw; exact Cl.ofSel (by assumption) (by repeat (first | exact sel_nil | refine sel_cons 0 rfl ?_ | refine sel_cons 1 rfl ?_ | refine sel_cons 2 rfl ?_ | refine sel_cons 3 rfl ?_ | refine sel_cons 4 rfl ?_ | refine sel_cons 5 rfl ?_ | refine sel_cons 6 rfl ?_ | refine sel_cons 7 rfl ?_ | refine sel_cons 8 rfl ?_ | refine sel_cons 9 rfl ?_ | refine sel_cons 10 rfl ?_ | refine sel_cons 11 rfl ?_ | refine sel_cons 12 rfl ?_ | refine sel_cons 13 rfl ?_)))⟩
    | refine qbody_cell 3 rfl st_G rfl rfl rfl ⟨_, ⟨_, _, rows, ci, ch, hrl.2, rfl, hi, rfl⟩, fun w' hw => (by have h := hw; exact Cl.ofSel (by assumption) (by repeat (first | exact sel_nil | refine sel_cons 0 rfl ?_ | refine sel_cons 1 rfl ?_ | refine sel_cons 2 rfl ?_ | refine sel_cons 3 rfl ?_ | refine sel_cons 4 rfl ?_ | refine sel_cons 5 rfl ?_ | refine sel_cons 6 rfl ?_ | refine sel_cons 7 rfl ?_ | refine sel_cons 8 rfl ?_ | refine sel_cons 9 rfl ?_ | refine sel_cons 10 rfl ?_ | refine sel_cons 11 rfl ?_ | refine sel_cons 12 rfl ?_ | refine sel_cons 13 rfl ?_)))⟩
    | refine qbody_cell 4 rfl st_G rfl rfl rfl ⟨_, ⟨_, _, rows, ci, ch, hrl.2, rfl, hi, rfl⟩, fun w' hw => (by have h := hw; exact Cl.ofSel (by assumption) (by repeat (first | exact sel_nil | refine sel_cons 0 rfl ?_ | refine sel_cons 1 rfl ?_ | refine sel_cons 2 rfl ?_ | refine sel_cons 3 rfl ?_ | refine sel_cons 4 rfl ?_ | refine sel_cons 5 rfl ?_ | refine sel_cons 6 rfl ?_ | refine sel_cons 7 rfl ?_ | refine sel_cons 8 rfl ?_ | refine sel_cons 9 rfl ?_ | refine sel_cons 10 rfl ?_ | refine sel_cons 11 rfl ?_ | refine sel_cons 12 rfl ?_ | refine sel_cons 13 rfl ?_)))⟩
    | refine qbody_cell 5 rfl st_G rfl rfl rfl ⟨_, ⟨_, _, rows, ci, ch, hrl.2, rfl, hi, rfl⟩, fun w' hw => (by have h := hw; exact Cl.ofSel (by assumption) (by repeat (first | exact sel_nil | refine sel_cons 0 rfl ?_ | refine sel_cons 1 rfl ?_ | refine sel_cons 2 rfl ?_ | refine sel_cons 3 rfl ?_ | refine sel_cons 4 rfl ?_ | refine sel_cons 5 rfl ?_ | refine sel_cons 6 rfl ?_ | refine sel_cons 7 rfl ?_ | refine sel_cons 8 rfl ?_ | refine sel_cons 9 rfl ?_ | refine sel_cons 10 rfl ?_ | refine sel_cons 11 rfl ?_ | refine sel_cons 12 rfl ?_ | refine sel_cons 13 rfl ?_)))⟩
    | refine qbody_cell 6 rfl st_G rfl rfl rfl ⟨_, ⟨_, _, rows, ci, ch, hrl.2, rfl, hi, rfl⟩, fun w' hw => (by have h := hw; exact Cl.ofSel (by assumption) (by repeat (first | exact sel_nil | refine sel_cons 0 rfl ?_ | refine sel_cons 1 rfl ?_ | refine sel_cons 2 rfl ?_ | refine sel_cons 3 rfl ?_ | refine sel_cons 4 rfl ?_ | refine sel_cons 5 rfl ?_ | refine sel_cons 6 rfl ?_ | refine sel_cons 7 rfl ?_ | refine sel_cons 8 rfl ?_ | refine sel_cons 9 rfl ?_ | refine sel_cons 10 rfl ?_ | refine sel_cons 11 rfl ?_ | refine sel_cons 12 rfl ?_ | refine sel_cons 13 rfl ?_)))⟩
    | refine qbody_cell 7 rfl st_G rfl rfl rfl ⟨_, ⟨_, _, rows, ci, ch, hrl.2, rfl, hi, rfl⟩, fun w' hw => (by have h := hw; exact Cl.ofSel (by assumption) (by repeat (first | exact sel_nil | refine sel_cons 0 rfl ?_ | refine sel_cons 1 rfl ?_ | refine sel_cons 2 rfl ?_ | refine sel_cons 3 rfl ?_ | refine sel_cons 4 rfl ?_ | refine sel_cons 5 rfl ?_ | refine sel_cons 6 rfl ?_ | refine sel_cons 7 rfl ?_ | refine sel_cons 8 rfl ?_ | refine sel_cons 9 rfl ?_ | refine sel_cons 10 rfl ?_ | refine sel_cons 11 rfl ?_ | refine sel_cons 12 rfl ?_ | refine sel_cons 13 rfl ?_)))⟩
    | refine qbody_cell 0 rfl st_G rfl rfl rfl ⟨_, ⟨_, _, gpL pL, ci, ch, gpL_length pL, rfl, hi, rfl⟩, fun w' hw => (by have h := hw; exact Cl.ofSel (by assumption) (by repeat (first | exact sel_nil | refine sel_cons 0 rfl ?_ | refine sel_cons 1 rfl ?_ | refine sel_cons 2 rfl ?_ | refine sel_cons 3 rfl ?_ | refine sel_cons 4 rfl ?_ | refine sel_cons 5 rfl ?_ | refine sel_cons 6 rfl ?_ | refine sel_cons 7 rfl ?_ | refine sel_cons 8 rfl ?_ | refine sel_cons 9 rfl ?_ | refine sel_cons 10 rfl ?_ | refine sel_cons 11 rfl ?_ | refine sel_cons 12 rfl ?_ | refine sel_cons 13 rfl ?_)))⟩
    | refine qbody_cell 1 rfl st_G rfl rfl rfl ⟨_, ⟨_, _, gpL pL, ci, ch, gpL_length pL, rfl, hi, rfl⟩, fun w' hw => (by have h := hw; exact Cl.ofSel (by assumption) (by repeat (first | exact sel_nil | refine sel_cons 0 rfl ?_ | refine sel_cons 1 rfl ?_ | refine sel_cons 2 rfl ?_ | refine sel_cons 3 rfl ?_ | refine sel_cons 4 rfl ?_ | refine sel_cons 5 rfl ?_ | refine sel_cons 6 rfl ?_ | refine sel_cons 7 rfl ?_ | refine sel_cons 8 rfl ?_ | refine sel_cons 9 rfl ?_ | refine sel_cons 10 rfl ?_ | refine sel_cons 11 rfl ?_ | refine sel_cons 12 rfl ?_ | refine sel_cons 13 rfl ?_)))⟩
    | refine qbody_cell 2 rfl st_G rfl rfl rfl ⟨_, ⟨_, _, gpL pL, ci, ch, gpL_length pL, rfl, hi, rfl⟩, fun w' hw => (by have h := hw; exact Cl.ofSel (by assumption) (by repeat (first | exact sel_nil | refine sel_cons 0 rfl ?_ | refine sel_cons 1 rfl ?_ | refine sel_cons 2 rfl ?_ | refine sel_cons 3 rfl ?_ | refine sel_cons 4 rfl ?_ | refine sel_cons 5 rfl ?_ | refine sel_cons 6 rfl ?_ | refine sel_cons 7 rfl ?_ | refine sel_cons 8 rfl ?_ | refine sel_cons 9 rfl ?_ | refine sel_cons 10 rfl ?_ | refine sel_cons 11 rfl ?_ | refine sel_cons 12 rfl ?_ | refine sel_cons 13 rfl ?_)))⟩
    | refine qbody_cell 3 rfl st_G rfl rfl rfl ⟨_, ⟨_, _, gpL pL, ci, ch, gpL_length pL, rfl, hi, rfl⟩, fun w' hw => (by have h := hw; exact Cl.ofSel (by assumption) (by repeat (first | exact sel_nil | refine sel_cons 0 rfl ?_ | refine sel_cons 1 rfl ?_ | refine sel_cons 2 rfl ?_ | refine sel_cons 3 rfl ?_ | refine sel_cons 4 rfl ?_ | refine sel_cons 5 rfl ?_ | refine sel_cons 6 rfl ?_ | refine sel_cons 7 rfl ?_ | refine sel_cons 8 rfl ?_ | refine sel_cons 9 rfl ?_ | refine sel_cons 10 rfl ?_ | refine sel_cons 11 rfl ?_ | refine sel_cons 12 rfl ?_ | refine sel_cons 13 rfl ?_)))⟩
    | refine qbody_cell 4 rfl st_G rfl rfl rfl ⟨_, ⟨_, _, gpL pL, ci, ch, gpL_length pL, rfl, hi, rfl⟩, fun w' hw => (by have h := hw; exact Cl.ofSel (by assumption) (by repeat (first | exact sel_nil | refine sel_cons 0 rfl ?_ | refine sel_cons 1 rfl ?_ | refine sel_cons 2 rfl ?_ | refine sel_cons 3 rfl ?_ | refine sel_cons 4 rfl ?_ | refine sel_cons 5 rfl ?_ | refine sel_cons 6 rfl ?_ | refine sel_cons 7 rfl ?_ | refine sel_cons 8 rfl ?_ | refine sel_cons 9 rfl ?_ | refine sel_cons 10 rfl ?_ | refine sel_cons 11 rfl ?_ | refine sel_cons 12 rfl ?_ | refine sel_cons 13 rfl ?_)))⟩
    | refine qbody_cell 5 rfl st_G rfl rfl rfl ⟨_, ⟨_, _, gpL pL, ci, ch, gpL_length pL, rfl, hi, rfl⟩, fun w' hw => (by have h := hw; exact Cl.ofSel (by assumption) (by repeat (first | exact sel_nil | refine sel_cons 0 rfl ?_ | refine sel_cons 1 rfl ?_ | refine sel_cons 2 rfl ?_ | refine sel_cons 3 rfl ?_ | refine sel_cons 4 rfl ?_ | refine sel_cons 5 rfl ?_ | refine sel_cons 6 rfl ?_ | refine sel_cons 7 rfl ?_ | refine sel_cons 8 rfl ?_ | refine sel_cons 9 rfl ?_ | refine sel_cons 10 rfl ?_ | refine sel_cons 11 rfl ?_ | refine sel_cons 12 rfl ?_ | refine sel_cons 13 rfl ?_)))⟩
    | refine qbody_cell 6 rfl st_G rfl rfl rfl ⟨_, ⟨_, _, gpL pL, ci, ch, gpL_length pL, rfl, hi, rfl⟩, fun w' hw => (by have h := hw; exact Cl.ofSel (by assumption) (by repeat (first | exact sel_nil | refine sel_cons 0 rfl ?_ | refine sel_cons 1 rfl ?_ | refine sel_cons 2 rfl ?_ | refine sel_cons 3 rfl ?_ | refine sel_cons 4 rfl ?_ | refine sel_cons 5 rfl ?_ | refine sel_cons 6 rfl ?_ | refine sel_cons 7 rfl ?_ | refine sel_cons 8 rfl ?_ | refine sel_cons 9 rfl ?_ | refine sel_cons 10 rfl ?_ | refine sel_cons 11 rfl ?_ | refine sel_cons 12 rfl ?_ | refine sel_cons 13 rfl ?_)))⟩
    | refine qbody_cell 7 rfl st_G rfl rfl rfl ⟨_, ⟨_, _, gpL pL, ci, ch, gpL_length pL, rfl, hi, rfl⟩, fun w' hw => (by have h := hw; exact Cl.ofSel (by assumption) (by repeat (first | exact sel_nil | refine sel_cons 0 rfl ?_ | refine sel_cons 1 rfl ?_ | refine sel_cons 2 rfl ?_ | refine sel_cons 3 rfl ?_ | refine sel_cons 4 rfl ?_ | refine sel_cons 5 rfl ?_ | refine sel_cons 6 rfl ?_ | refine sel_cons 7 rfl ?_ | refine sel_cons 8 rfl ?_ | refine sel_cons 9 rfl ?_ | refine sel_cons 10 rfl ?_ | refine sel_cons 11 rfl ?_ | refine sel_cons 12 rfl ?_ | refine sel_cons 13 rfl ?_)))⟩
theorem en_s_DrawPermutationModelOf : Entry Tryz.prog 5 := ⟨_, Tryz.func5, by kernel_rfl, rfl⟩
theorem s_DrawPermutationModelOf_c (cv : Value) (l : List Int) (w : World) (hcp : CodeP w cv l) :
    Gives Tryz.prog 5 #[cv] w (fun v objs => ∃ n gv rows, rows.length ≤ 7 ∧ v = .agg #[.int .i64 n, gv] ∧ objs = [.row 3 gv (ints rows)]) := by
  refine gives_enter (args := [_]) en_s_DrawPermutationModelOf Tryz.func5 rfl Tryz.ntmps5 rfl ?_
  have hap := nox (cv := cv) (l := l)
  repeat' (first | apply pwp_seq | apply pwp_region | (apply px_run; (first | (apply opv_move; first | rfl)); rfl; rfl) | apply px_nil | apply qseq_normal | apply pwp_ret | (apply px_givesV [0]; rfl; rfl; rfl; rfl; rfl; (exact fun w' hw ho' => s_l14Graph_c cv l cb _ _ w' (hcp.at hap hw) (by first | exact ⟨by omega, by omega⟩) ho'); rintro _ _ ⟨n, gv, rows, ci, ch, hrl, rfl, hi, rfl⟩) | (apply px_alloc st_G; rfl; rfl; rfl; intro bk) | (apply px_store_str 2 st_G; rfl; rfl; rfl; rfl; rfl; (intro w hw; (first | refine all2 rfl ?_ ?_) <;> (first | rfl | exact stor_row 0 hw rfl)); rfl) | (apply px_gives; rfl; rfl; rfl; rfl; rfl; exact fun w hw => s_l1New_c cv l _ (hcp.at hap hw); rintro _ _ ⟨cb, h, rfl, rfl⟩))
  first
    | refine qbody_cell 0 rfl st_G rfl rfl rfl ⟨_, ⟨n, gv, rows, hrl, rfl, rfl⟩, fun w' hw => (by have h := hw; exact Cl.ofSel (by assumption) (by repeat (first | exact sel_nil | refine sel_cons 0 rfl ?_ | refine sel_cons 1 rfl ?_ | refine sel_cons 2 rfl ?_ | refine sel_cons 3 rfl ?_ | refine sel_cons 4 rfl ?_ | refine sel_cons 5 rfl ?_ | refine sel_cons 6 rfl ?_ | refine sel_cons 7 rfl ?_ | refine sel_cons 8 rfl ?_ | refine sel_cons 9 rfl ?_ | refine sel_cons 10 rfl ?_ | refine sel_cons 11 rfl ?_ | refine sel_cons 12 rfl ?_ | refine sel_cons 13 rfl ?_)))⟩
    | refine qbody_cell 1 rfl st_G rfl rfl rfl ⟨_, ⟨n, gv, rows, hrl, rfl, rfl⟩, fun w' hw => (by have h := hw; exact Cl.ofSel (by assumption) (by repeat (first | exact sel_nil | refine sel_cons 0 rfl ?_ | refine sel_cons 1 rfl ?_ | refine sel_cons 2 rfl ?_ | refine sel_cons 3 rfl ?_ | refine sel_cons 4 rfl ?_ | refine sel_cons 5 rfl ?_ | refine sel_cons 6 rfl ?_ | refine sel_cons 7 rfl ?_ | refine sel_cons 8 rfl ?_ | refine sel_cons 9 rfl ?_ | refine sel_cons 10 rfl ?_ | refine sel_cons 11 rfl ?_ | refine sel_cons 12 rfl ?_ | refine sel_cons 13 rfl ?_)))⟩
    | refine qbody_cell 2 rfl st_G rfl rfl rfl ⟨_, ⟨n, gv, rows, hrl, rfl, rfl⟩, fun w' hw => (by have h := hw; exact Cl.ofSel (by assumption) (by repeat (first | exact sel_nil | refine sel_cons 0 rfl ?_ | refine sel_cons 1 rfl ?_ | refine sel_cons 2 rfl ?_ | refine sel_cons 3 rfl ?_ | refine sel_cons 4 rfl ?_ | refine sel_cons 5 rfl ?_ | refine sel_cons 6 rfl ?_ | refine sel_cons 7 rfl ?_ | refine sel_cons 8 rfl ?_ | refine sel_cons 9 rfl ?_ | refine sel_cons 10 rfl ?_ | refine sel_cons 11 rfl ?_ | refine sel_cons 12 rfl ?_ | refine sel_cons 13 rfl ?_)))⟩
    | refine qbody_cell 3 rfl st_G rfl rfl rfl ⟨_, ⟨n, gv, rows, hrl, rfl, rfl⟩, fun w' hw => (by have h := hw; exact Cl.ofSel (by assumption) (by repeat (first | exact sel_nil | refine sel_cons 0 rfl ?_ | refine sel_cons 1 rfl ?_ | refine sel_cons 2 rfl ?_ | refine sel_cons 3 rfl ?_ | refine sel_cons 4 rfl ?_ | refine sel_cons 5 rfl ?_ | refine sel_cons 6 rfl ?_ | refine sel_cons 7 rfl ?_ | refine sel_cons 8 rfl ?_ | refine sel_cons 9 rfl ?_ | refine sel_cons 10 rfl ?_ | refine sel_cons 11 rfl ?_ | refine sel_cons 12 rfl ?_ | refine sel_cons 13 rfl ?_)))⟩
    | refine qbody_cell 4 rfl st_G rfl rfl rfl ⟨_, ⟨n, gv, rows, hrl, rfl, rfl⟩, fun w' hw => (by have h := hw; exact Cl.ofSel (by assumption) (by repeat (first | exact sel_nil | refine sel_cons 0 rfl ?_ | refine sel_cons 1 rfl ?_ | refine sel_cons 2 rfl ?_ | refine sel_cons 3 rfl ?_ | refine sel_cons 4 rfl ?_ | refine sel_cons 5 rfl ?_ | refine sel_cons 6 rfl ?_ | refine sel_cons 7 rfl ?_ | refine sel_cons 8 rfl ?_ | refine sel_cons 9 rfl ?_ | refine sel_cons 10 rfl ?_ | refine sel_cons 11 rfl ?_ | refine sel_cons 12 rfl ?_ | refine sel_cons 13 rfl ?_)))⟩
    | refine qbody_cell 5 rfl st_G rfl rfl rfl ⟨_, ⟨n, gv, rows, hrl, rfl, rfl⟩, fun w' hw => (by have h := hw; exact Cl.ofSel (by assumption) (by repeat (first | exact sel_nil | refine sel_cons 0 rfl ?_ | refine sel_cons 1 rfl ?_ | refine sel_cons 2 rfl ?_ | refine sel_cons 3 rfl ?_ | refine sel_cons 4 rfl ?_ | refine sel_cons 5 rfl ?_ | refine sel_cons 6 rfl ?_ | refine sel_cons 7 rfl ?_ | refine sel_cons 8 rfl ?_ | refine sel_cons 9 rfl ?_ | refine sel_cons 10 rfl ?_ | refine sel_cons 11 rfl ?_ | refine sel_cons 12 rfl ?_ | refine sel_cons 13 rfl ?_)))⟩
    | refine qbody_cell 6 rfl st_G rfl rfl rfl ⟨_, ⟨n, gv, rows, hrl, rfl, rfl⟩, fun w' hw => (by have h := hw; exact Cl.ofSel (by assumption) (by repeat (first | exact sel_nil | refine sel_cons 0 rfl ?_ | refine sel_cons 1 rfl ?_ | refine sel_cons 2 rfl ?_ | refine sel_cons 3 rfl ?_ | refine sel_cons 4 rfl ?_ | refine sel_cons 5 rfl ?_ | refine sel_cons 6 rfl ?_ | refine sel_cons 7 rfl ?_ | refine sel_cons 8 rfl ?_ | refine sel_cons 9 rfl ?_ | refine sel_cons 10 rfl ?_ | refine sel_cons 11 rfl ?_ | refine sel_cons 12 rfl ?_ | refine sel_cons 13 rfl ?_)))⟩
theorem en_s_DrawGraphOfPermutation : Entry Tryz.prog 13 := ⟨_, Tryz.func13, by kernel_rfl, rfl⟩
theorem s_DrawGraphOfPermutation_c (cv : Value) (l : List Int) (w : World) (hcp : CodeP w cv l) :
    Gives Tryz.prog 13 #[cv] w (fun v objs => ∃ pL, v = v ∧ objs = [.row 3 v (ints pL)]) := by
  refine gives_enter (args := [_]) en_s_DrawGraphOfPermutation Tryz.func13 rfl Tryz.ntmps13 rfl ?_
  have hap := nox (cv := cv) (l := l)
  repeat' (first | apply pwp_seq | apply pwp_region | (apply px_run; (first | (apply opv_move; first | rfl) | (apply opv_assign; first | rfl)); rfl; rfl) | apply px_nil | apply qseq_normal | apply pwp_ret | (apply px_givesV [0]; rfl; rfl; rfl; rfl; rfl; (exact fun w' hw ho' => s_l14Permutation_c cv l cb _ _ w' (hcp.at hap hw) (by first | exact ⟨by omega, by omega⟩) ho'); rintro _ _ ⟨pL, ci, ch, hpl, hi, rfl⟩; rename_i pv) | (apply px_gives; rfl; rfl; rfl; rfl; rfl; exact fun w hw => s_l1New_c cv l _ (hcp.at hap hw); rintro _ _ ⟨cb, h, rfl, rfl⟩))
  refine qbody_ret1 rfl rfl ⟨_, ⟨pL, rfl, rfl⟩, fun w' hw => (by have h := hw; exact Cl.ofSel (by assumption) (by repeat (first | exact sel_nil | refine sel_cons 0 rfl ?_ | refine sel_cons 1 rfl ?_ | refine sel_cons 2 rfl ?_ | refine sel_cons 3 rfl ?_ | refine sel_cons 4 rfl ?_ | refine sel_cons 5 rfl ?_ | refine sel_cons 6 rfl ?_ | refine sel_cons 7 rfl ?_ | refine sel_cons 8 rfl ?_ | refine sel_cons 9 rfl ?_ | refine sel_cons 10 rfl ?_ | refine sel_cons 11 rfl ?_ | refine sel_cons 12 rfl ?_ | refine sel_cons 13 rfl ?_)))⟩
theorem en_s_DrawIsPermutationModel : Entry Tryz.prog 28 := ⟨_, Tryz.func28, by kernel_rfl, rfl⟩
set_option maxHeartbeats 3200000 in
theorem s_DrawIsPermutationModel_c (cv : Value) (l : List Int) (w : World) (hcp : CodeP w cv l) :
    Gives Tryz.prog 28 #[cv] w (fun v objs => ∃ n gv rows av A bv B, v = .tuple #[.agg #[.int .i64 n, gv], av, bv] ∧ objs = [.row 3 gv (ints rows), .row 3 av (ints A), .row 3 bv (ints B)]) := by
  refine gives_enter (args := [_]) en_s_DrawIsPermutationModel Tryz.func28 rfl Tryz.ntmps28 rfl ?_
  have hap := nox (cv := cv) (l := l)
  repeat' (first | apply pwp_seq | apply pwp_region | (apply px_run; (first | (apply opv_move; first | exact hid_bool rfl | exact hid_ptr rfl | rfl) | (apply opv_assign; first | exact hid_bool rfl | exact hid_ptr rfl | rfl) | (apply opv_pick_t <;> rfl) | (apply opv_pick_f <;> rfl) | (apply opv_not <;> rfl) | (apply opv_load_str 0 st_G; rfl; rfl; rfl) | (apply opv_load_str 3 st_G; rfl; rfl; rfl) | (apply opv_extract; rfl; rfl)); rfl; rfl) | apply px_nil | (apply px_skip; rfl; rfl) | apply qseq_normal | apply qseq_ret | apply pwp_skip | apply pwp_ret | (apply pwp_cond_f; rfl) | (apply pwp_region_any [0, 1, 3] [5] 5 (Cl [] w [.blk _ [.int .i64 n, gv]]); kernel_rfl; decide +kernel; exact Cl.stable _ _ _; exact fun w h => h.sub (by repeat (first | apply List.Sublist.cons_cons | exact List.sublist_append_left _ _ | apply List.Sublist.cons))) | apply qlooks_normal | (apply qstep_out; decide +kernel) | (apply qstep_in; exact fun w h => h.sub (by repeat (first | apply List.Sublist.cons_cons | exact List.sublist_append_left _ _ | apply List.Sublist.cons))) | (apply pxa_nil; decide +kernel) | (apply pxa_one 2; decide +kernel; rfl) | (apply pxa_one 4; decide +kernel; rfl) | (apply pxa_one 5; decide +kernel; rfl) | (apply pxa_one 6; decide +kernel; rfl) | (apply pxa_one 7; decide +kernel; rfl) | (apply px_guard; rfl; rfl; rfl; all_goals (intro hc; (first | (fail_if_success (cases hc); try (first | fail))))) | (apply pwp_cond_not; rfl; all_goals (intro hc; try (first | fail))) | (apply px_givesV [0]; rfl; rfl; rfl; rfl; rfl; (exact fun w' hw ho' => s_l14Graph_c cv l cb _ _ w' (hcp.at hap hw) (by first | exact ⟨by omega, by omega⟩) ho'); rintro _ _ ⟨n, gv, rows, ci, ch, hrl, rfl, hi, rfl⟩) | (apply px_givesV [4]; rfl; rfl; rfl; rfl; rfl; (exact fun w' hw ho' => s_l1Once_c cv l cb _ _ _ w' (hcp.at hap hw) (by first | assumption) ho'); rintro _ _ ⟨b, rfl, ⟨ci, ch, hi, rfl⟩⟩) | (apply px_givesV [0]; rfl; rfl; rfl; rfl; rfl; (exact fun w' hw ho' => s_l14Permutation_c cv l cb _ _ w' (hcp.at hap hw) (by first | assumption) ho'); rintro _ _ ⟨pL, ci, ch, hpl, hi, rfl⟩; rename_i pv) | (apply px_givesV [1]; rfl; rfl; rfl; rfl; rfl; (exact fun w' hw ho' => s_l14Permutation_c cv l cb _ _ w' (hcp.at hap hw) (by first | assumption) ho'); rintro _ _ ⟨pL, ci, ch, hpl, hi, rfl⟩; rename_i pv) | (apply px_givesV [4]; rfl; rfl; rfl; rfl; rfl; (exact fun w' hw ho' => s_l14Permutation_c cv l cb _ _ w' (hcp.at hap hw) (by first | assumption) ho'); rintro _ _ ⟨pL, ci, ch, hpl, hi, rfl⟩; rename_i pv) | (apply px_alloc st_G; rfl; rfl; rfl; intro bk) | (apply px_store_str 0 st_G; rfl; rfl; rfl; rfl; rfl; (intro w hw; (first | refine all2 rfl ?_ ?_) <;> (first | rfl | exact stor_row 1 hw rfl)); rfl) | (apply px_store_str 5 st_G; rfl; rfl; rfl; rfl; rfl; (intro w hw; (first | refine all2 rfl ?_ ?_) <;> (first | rfl | exact stor_row 4 hw rfl)); rfl) | (apply px_store_str 7 st_G; rfl; rfl; rfl; rfl; rfl; (intro w hw; (first | refine all2 rfl ?_ ?_) <;> (first | rfl | exact stor_row 6 hw rfl)); rfl) | (apply px_gives; rfl; rfl; rfl; rfl; rfl; exact fun w hw => s_l1New_c cv l _ (hcp.at hap hw); rintro _ _ ⟨cb, h, rfl, rfl⟩) | (apply px_gives; rfl; rfl; rfl; rfl; rfl; exact fun w hw => s_PermutationModelOf_c _ _ rows _ (by first | exact hw.rowArr (k := 1) rfl); rintro _ _ ⟨sa, sb, rfl, rfl⟩))
  all_goals first
    | exact qbody_cell_tmps 0 rfl st_G rfl rfl rfl rfl rfl ⟨_, ⟨n, gv, rows, _, _, _, _, rfl, rfl⟩, fun w' hw => (by have h := hw; exact Cl.ofSel (by assumption) (by repeat (first | exact sel_nil | refine sel_cons 0 rfl ?_ | refine sel_cons 1 rfl ?_ | refine sel_cons 2 rfl ?_ | refine sel_cons 3 rfl ?_ | refine sel_cons 4 rfl ?_ | refine sel_cons 5 rfl ?_ | refine sel_cons 6 rfl ?_ | refine sel_cons 7 rfl ?_ | refine sel_cons 8 rfl ?_ | refine sel_cons 9 rfl ?_ | refine sel_cons 10 rfl ?_ | refine sel_cons 11 rfl ?_ | refine sel_cons 12 rfl ?_ | refine sel_cons 13 rfl ?_)))⟩
    | exact qbody_cell_tmps 1 rfl st_G rfl rfl rfl rfl rfl ⟨_, ⟨n, gv, rows, _, _, _, _, rfl, rfl⟩, fun w' hw => (by have h := hw; exact Cl.ofSel (by assumption) (by repeat (first | exact sel_nil | refine sel_cons 0 rfl ?_ | refine sel_cons 1 rfl ?_ | refine sel_cons 2 rfl ?_ | refine sel_cons 3 rfl ?_ | refine sel_cons 4 rfl ?_ | refine sel_cons 5 rfl ?_ | refine sel_cons 6 rfl ?_ | refine sel_cons 7 rfl ?_ | refine sel_cons 8 rfl ?_ | refine sel_cons 9 rfl ?_ | refine sel_cons 10 rfl ?_ | refine sel_cons 11 rfl ?_ | refine sel_cons 12 rfl ?_ | refine sel_cons 13 rfl ?_)))⟩
    | exact qbody_cell_tmps 2 rfl st_G rfl rfl rfl rfl rfl ⟨_, ⟨n, gv, rows, _, _, _, _, rfl, rfl⟩, fun w' hw => (by have h := hw; exact Cl.ofSel (by assumption) (by repeat (first | exact sel_nil | refine sel_cons 0 rfl ?_ | refine sel_cons 1 rfl ?_ | refine sel_cons 2 rfl ?_ | refine sel_cons 3 rfl ?_ | refine sel_cons 4 rfl ?_ | refine sel_cons 5 rfl ?_ | refine sel_cons 6 rfl ?_ | refine sel_cons 7 rfl ?_ | refine sel_cons 8 rfl ?_ | refine sel_cons 9 rfl ?_ | refine sel_cons 10 rfl ?_ | refine sel_cons 11 rfl ?_ | refine sel_cons 12 rfl ?_ | refine sel_cons 13 rfl ?_)))⟩
    | exact qbody_cell_tmps 3 rfl st_G rfl rfl rfl rfl rfl ⟨_, ⟨n, gv, rows, _, _, _, _, rfl, rfl⟩, fun w' hw => (by have h := hw; exact Cl.ofSel (by assumption) (by repeat (first | exact sel_nil | refine sel_cons 0 rfl ?_ | refine sel_cons 1 rfl ?_ | refine sel_cons 2 rfl ?_ | refine sel_cons 3 rfl ?_ | refine sel_cons 4 rfl ?_ | refine sel_cons 5 rfl ?_ | refine sel_cons 6 rfl ?_ | refine sel_cons 7 rfl ?_ | refine sel_cons 8 rfl ?_ | refine sel_cons 9 rfl ?_ | refine sel_cons 10 rfl ?_ | refine sel_cons 11 rfl ?_ | refine sel_cons 12 rfl ?_ | refine sel_cons 13 rfl ?_)))⟩
    | exact qbody_cell_tmps 4 rfl st_G rfl rfl rfl rfl rfl ⟨_, ⟨n, gv, rows, _, _, _, _, rfl, rfl⟩, fun w' hw => (by have h := hw; exact Cl.ofSel (by assumption) (by repeat (first | exact sel_nil | refine sel_cons 0 rfl ?_ | refine sel_cons 1 rfl ?_ | refine sel_cons 2 rfl ?_ | refine sel_cons 3 rfl ?_ | refine sel_cons 4 rfl ?_ | refine sel_cons 5 rfl ?_ | refine sel_cons 6 rfl ?_ | refine sel_cons 7 rfl ?_ | refine sel_cons 8 rfl ?_ | refine sel_cons 9 rfl ?_ | refine sel_cons 10 rfl ?_ | refine sel_cons 11 rfl ?_ | refine sel_cons 12 rfl ?_ | refine sel_cons 13 rfl ?_)))⟩
    | exact qbody_cell_tmps 5 rfl st_G rfl rfl rfl rfl rfl ⟨_, ⟨n, gv, rows, _, _, _, _, rfl, rfl⟩, fun w' hw => (by have h := hw; exact Cl.ofSel (by assumption) (by repeat (first | exact sel_nil | refine sel_cons 0 rfl ?_ | refine sel_cons 1 rfl ?_ | refine sel_cons 2 rfl ?_ | refine sel_cons 3 rfl ?_ | refine sel_cons 4 rfl ?_ | refine sel_cons 5 rfl ?_ | refine sel_cons 6 rfl ?_ | refine sel_cons 7 rfl ?_ | refine sel_cons 8 rfl ?_ | refine sel_cons 9 rfl ?_ | refine sel_cons 10 rfl ?_ | refine sel_cons 11 rfl ?_ | refine sel_cons 12 rfl ?_ | refine sel_cons 13 rfl ?_)))⟩
    | exact qbody_cell_tmps 6 rfl st_G rfl rfl rfl rfl rfl ⟨_, ⟨n, gv, rows, _, _, _, _, rfl, rfl⟩, fun w' hw => (by have h := hw; exact Cl.ofSel (by assumption) (by repeat (first | exact sel_nil | refine sel_cons 0 rfl ?_ | refine sel_cons 1 rfl ?_ | refine sel_cons 2 rfl ?_ | refine sel_cons 3 rfl ?_ | refine sel_cons 4 rfl ?_ | refine sel_cons 5 rfl ?_ | refine sel_cons 6 rfl ?_ | refine sel_cons 7 rfl ?_ | refine sel_cons 8 rfl ?_ | refine sel_cons 9 rfl ?_ | refine sel_cons 10 rfl ?_ | refine sel_cons 11 rfl ?_ | refine sel_cons 12 rfl ?_ | refine sel_cons 13 rfl ?_)))⟩
    | exact qbody_cell_tmps 7 rfl st_G rfl rfl rfl rfl rfl ⟨_, ⟨n, gv, rows, _, _, _, _, rfl, rfl⟩, fun w' hw => (by have h := hw; exact Cl.ofSel (by assumption) (by repeat (first | exact sel_nil | refine sel_cons 0 rfl ?_ | refine sel_cons 1 rfl ?_ | refine sel_cons 2 rfl ?_ | refine sel_cons 3 rfl ?_ | refine sel_cons 4 rfl ?_ | refine sel_cons 5 rfl ?_ | refine sel_cons 6 rfl ?_ | refine sel_cons 7 rfl ?_ | refine sel_cons 8 rfl ?_ | refine sel_cons 9 rfl ?_ | refine sel_cons 10 rfl ?_ | refine sel_cons 11 rfl ?_ | refine sel_cons 12 rfl ?_ | refine sel_cons 13 rfl ?_)))⟩
theorem en_s_DrawPermutationOfModel : Entry Tryz.prog 29 := ⟨_, Tryz.func29, by kernel_rfl, rfl⟩
set_option maxHeartbeats 3200000 in
theorem s_DrawPermutationOfModel_c (cv : Value) (l : List Int) (w : World) (hcp : CodeP w cv l) :
    Gives Tryz.prog 29 #[cv] w (fun v objs => ∃ av A bv B, v = .tuple #[av, bv] ∧ objs = [.row 3 av (ints A), .row 3 bv (ints B)]) := by
  refine gives_enter (args := [_]) en_s_DrawPermutationOfModel Tryz.func29 rfl Tryz.ntmps29 rfl ?_
  have hap := nox (cv := cv) (l := l)
  repeat' (first | apply pwp_seq | apply pwp_region | (apply px_run; (first | (apply opv_move; first | exact hid_ptr rfl | rfl) | (apply opv_assign; first | exact hid_ptr rfl | rfl)); rfl; rfl) | apply px_nil | apply qseq_normal | apply qseq_ret | apply pwp_skip | apply pwp_ret | (apply pwp_cond; rfl; all_goals (intro hc; try (first | fail))) | (apply px_givesV [1]; rfl; rfl; rfl; rfl; rfl; (exact fun w' hw ho' => s_l1Once_c cv l cb _ _ _ w' (hcp.at hap hw) (by first | assumption) ho'); rintro _ _ ⟨b, rfl, ⟨ci, ch, hi, rfl⟩⟩) | (apply px_givesV [0]; rfl; rfl; rfl; rfl; rfl; (exact fun w' hw ho' => s_l14Permutation_c cv l cb _ _ w' (hcp.at hap hw) (by first | assumption | exact ⟨by omega, by omega⟩) ho'); rintro _ _ ⟨pL, ci, ch, hpl, hi, rfl⟩; rename_i pv) | (apply px_gives; rfl; rfl; rfl; rfl; rfl; exact fun w hw => s_l1New_c cv l _ (hcp.at hap hw); rintro _ _ ⟨cb, h, rfl, rfl⟩) | (apply px_gives; rfl; rfl; rfl; rfl; rfl; exact fun w hw => s_l6Reverse_c _ pL _ (by first | exact hw.rowArr (k := 1) rfl) (by omega); rintro rv _ rfl))
  all_goals refine qbody_ret2 rfl rfl rfl ⟨_, ⟨_, _, _, _, rfl, rfl⟩, fun w' hw => (by have h := hw; exact Cl.ofSel (by assumption) (by repeat (first | exact sel_nil | refine sel_cons 0 rfl ?_ | refine sel_cons 1 rfl ?_ | refine sel_cons 2 rfl ?_ | refine sel_cons 3 rfl ?_ | refine sel_cons 4 rfl ?_ | refine sel_cons 5 rfl ?_ | refine sel_cons 6 rfl ?_ | refine sel_cons 7 rfl ?_ | refine sel_cons 8 rfl ?_ | refine sel_cons 9 rfl ?_ | refine sel_cons 10 rfl ?_ | refine sel_cons 11 rfl ?_ | refine sel_cons 12 rfl ?_ | refine sel_cons 13 rfl ?_)))⟩
end Go.Proofs.YtmmflnigejfplaaGreat
