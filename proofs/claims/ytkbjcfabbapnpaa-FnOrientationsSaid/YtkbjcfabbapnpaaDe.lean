import Derived.Test.YtkbjcfabbapnpaaPwPcx
import Derived.WideShapes
import Derived.Laws.Strings
import Derived.Test.YtkbjcfabbapnpaaPwPqg
import Derived.Test.YtkbjcfabbapnpaaQt
import Derived.Test.YtkbjcfabbapnpaaPwRdr
import Derived.Test.YtkbjcfabbapnpaaDr
import Derived.Test.YtkbjcfabbapnpaaPwOri
/- Texts: digits, a cograph's tree as text. -/
namespace Go.Pw
open Go Go.RowKit
def digI (x : Int) : ByteArray := ⟨#[UInt8.ofNat (48 + x).toNat]⟩
def digsB (l : List Int) : ByteArray := l.foldl (fun a x => a ++ digI x) ByteArray.empty
theorem digI_size (x : Int) : (digI x).size = 1 := rfl
theorem digsB_snoc (l : List Int) (x : Int) : digsB (l ++ [x]) = digsB l ++ digI x := by simp [digsB]
theorem size_cat (a b : ByteArray) : (a ++ b).size = a.size + b.size := ByteArray.size_append
theorem digsB_size (l : List Int) : (digsB l).size = l.length := by
  unfold digsB
  suffices h : ∀ (l : List Int) (a : ByteArray), (l.foldl (fun a x => a ++ digI x) a).size = a.size + l.length by
    have := h l ByteArray.empty
    simpa using this
  intro l
  induction l with
  | nil => intro a; rfl
  | cons x l ih => intro a; rw [List.foldl_cons, ih, size_cat, digI_size, List.length_cons]; omega
theorem digsB_take {l : List Int} {i : Nat} (h : i < l.length) : digsB (l.take (i + 1)) = digsB (l.take i) ++ digI (l.getD i 0) := by
  rw [← digsB_snoc]; congr 1
  rw [List.take_add_one, List.getElem?_eq_getElem h]; simp [List.getD, h]
theorem toList_len (a : ByteArray) : a.toList.length = a.size := by rw [ByteArray.toList_eq]; rfl
def fmtS (set : Int) : ByteArray := if set = 0 then ⟨#[45]⟩ else digsB (listS set)
theorem listS_b6 (s : Int) : ∀ x ∈ listS s, 0 ≤ x ∧ x ≤ 6 := fun x hx => by
  obtain ⟨_, v, rfl, hv, _⟩ := mem_listS.1 hx
  omega
theorem listS_nil (s : Int) : listS s = [] ↔ s = 0 ∨ ¬ (0 ≤ s ∧ s ≤ 127) := by
  by_cases h : 0 ≤ s ∧ s ≤ 127
  · obtain ⟨k, rfl⟩ : ∃ k : Nat, s = (k : Int) := ⟨s.toNat, by omega⟩
    have key : ∀ k : Nat, k < 128 → (listS (k : Int) = [] ↔ k = 0) := by decide +kernel
    have := key k (by omega)
    rw [this]; omega
  · have : listS s = [] := if_neg h
    simp [this, h]
def lparB : ByteArray := ⟨#[40, 43]⟩
def lmulB : ByteArray := ⟨#[40, 42]⟩
def rparB : ByteArray := ⟨#[41]⟩
def spB : ByteArray := ⟨#[32]⟩
def foldT (f : Nat → ByteArray) (L : List Nat) (a : ByteArray) : ByteArray := L.foldl (fun acc p => (acc ++ spB) ++ f p) a
theorem foldT_take {f : Nat → ByteArray} {L : List Nat} {i : Nat} (h : i < L.length) (a : ByteArray) : foldT f (L.take (i + 1)) a = (foldT f (L.take i) a ++ spB) ++ f (L.getD i 0) := by
  unfold foldT
  rw [List.take_add_one, List.getElem?_eq_getElem h, List.foldl_append]
  simp [List.getD, h]
theorem foldT_size {f : Nat → ByteArray} {B : Nat} (h : ∀ p, (f p).size ≤ B) : ∀ (L : List Nat) (a : ByteArray), (foldT f L a).size ≤ a.size + L.length * (1 + B) := by
  intro L
  induction L with
  | nil => intro a; unfold foldT; simp
  | cons p L ih =>
    intro a
    have h1 := ih ((a ++ spB) ++ f p)
    have h2 := h p
    rw [size_cat, size_cat] at h1
    have h3 : spB.size = 1 := rfl
    have h4 : (p :: L).length * (1 + B) = L.length * (1 + B) + (1 + B) := by rw [List.length_cons, Nat.succ_mul]
    have h5 : foldT f (p :: L) a = foldT f L ((a ++ spB) ++ f p) := rfl
    rw [h5, h4]; omega
def cotT (r s : Nat → Nat) (n : Nat) : Nat → Nat → ByteArray
  | 0, _ => ByteArray.empty
  | c + 1, set => if cntN set = 1 then digsB (listS (set : Int)) else
      if (partsN r n set 128 set).length = 1 then foldT (cotT r s n c) (partsN s n set 128 set) lmulB ++ rparB
      else foldT (cotT r s n c) (partsN r n set 128 set) lparB ++ rparB
theorem cotT_size (r s : Nat → Nat) (n : Nat) : ∀ c set, (cotT r s n c set).size ≤ 259 ^ c := by
  intro c
  induction c with
  | zero => intro set; show ByteArray.empty.size ≤ 259 ^ 0; decide
  | succ c ih =>
    intro set
    have hp : 1 ≤ 259 ^ c := Nat.pow_pos (by omega)
    have hs : 259 ^ (c + 1) = 259 ^ c * 259 := Nat.pow_succ _ _
    unfold cotT
    split
    · have := digsB_size (listS (set : Int)); have := listS_length (set : Int); omega
    · split
      · have h1 := foldT_size ih (partsN s n set 128 set) lmulB
        have h2 := partsN_length s n set 128 set
        have h3 : (partsN s n set 128 set).length * (1 + 259 ^ c) ≤ 128 * (1 + 259 ^ c) := Nat.mul_le_mul_right _ h2
        have h4 : lmulB.size = 2 := rfl
        have h5 : rparB.size = 1 := rfl
        rw [size_cat]; omega
      · have h1 := foldT_size ih (partsN r n set 128 set) lparB
        have h2 := partsN_length r n set 128 set
        have h3 : (partsN r n set 128 set).length * (1 + 259 ^ c) ≤ 128 * (1 + 259 ^ c) := Nat.mul_le_mul_right _ h2
        have h4 : lparB.size = 2 := rfl
        have h5 : rparB.size = 1 := rfl
        rw [size_cat]; omega
theorem pow259 {c : Nat} (h : c ≤ 6) : 259 ^ c ≤ 400000000000000 := Nat.le_trans (Nat.pow_le_pow_right (by omega) h) (by decide)
theorem one_bit : ∀ S, S < 128 → S ≠ 0 → (S &&& (S - 1) = 0 ↔ cntN S = 1) := by decide +kernel
def cotX (size : Int) (rows : List Int) : ByteArray := if IsG size rows ∧ pathX size rows 4 = none then cotT (rowN rows) (rowN (barL size rows)) size.toNat 7 (2 ^ size.toNat - 1) else ByteArray.empty
end Go.Pw
/- The readers of a cograph's tree, as functions: the program's. -/
namespace Go.Pw
open Go Go.RowKit
def byteAt (s : ByteArray) (i : Nat) : Nat := (s.data.toList.getD i 0).toNat
theorem byteAt_lt (s : ByteArray) (i : Nat) : byteAt s i < 256 := UInt8.toNat_lt _
theorem byteAt_get {s : ByteArray} {i : Nat} (h : i < s.size) : s[i]? = some (s.data.toList.getD i 0) := by
  have h1 : i < s.data.toList.length := h
  have h2 : s[i]? = some (s[i]'h) := by simp [h]
  rw [h2]
  congr 1
  have h3 : i < s.data.size := h
  simp only [List.getD, ByteArray.getElem_eq_getElem_data, Array.getElem?_toList]
  rw [Array.getElem?_eq_getElem h3]; rfl
abbrev RSt := Nat × (Nat → Nat) × Bool
def cellsR (s : ByteArray) (st : RSt) : List Value := [.string s, .int .i64 (st.1 : Int), .int .i64 (st.2.1 0 : Nat), .int .i64 (st.2.1 1 : Nat), .int .i64 (st.2.1 2 : Nat), .int .i64 (st.2.1 3 : Nat), .int .i64 (st.2.1 4 : Nat), .int .i64 (st.2.1 5 : Nat), .int .i64 (st.2.1 6 : Nat), .bool st.2.2]
theorem cellsR_row {s : ByteArray} {st : RSt} {v : Nat} (h : v < 7) : (cellsR s st)[2 + v]? = some (.int .i64 (st.2.1 v : Nat)) := by
  have : v = 0 ∨ v = 1 ∨ v = 2 ∨ v = 3 ∨ v = 4 ∨ v = 5 ∨ v = 6 := by omega
  rcases this with rfl | rfl | rfl | rfl | rfl | rfl | rfl <;> rfl
def updR (r : Nat → Nat) (v x : Nat) : Nat → Nat := fun j => if j = v then x else r j
theorem cellsR_set {s : ByteArray} {a : Nat} {r : Nat → Nat} {b : Bool} {v x : Nat} (h : v < 7) : (cellsR s (a, r, b)).set (2 + v) (.int .i64 (x : Nat)) = cellsR s (a, updR r v x, b) := by
  have : v = 0 ∨ v = 1 ∨ v = 2 ∨ v = 3 ∨ v = 4 ∨ v = 5 ∨ v = 6 := by omega
  rcases this with rfl | rfl | rfl | rfl | rfl | rfl | rfl <;> rfl
theorem cellsR_or1 {s : ByteArray} {a : Nat} {r : Nat → Nat} {b : Bool} {v x : Nat} (h : v < 7) (hr : ∀ v, r v < 128) (hx : x < 128) : (cellsR s (a, r, b)).set (2 + v) (.int .i64 (ior (r v : Nat) (x : Nat))) = cellsR s (a, updR r v (r v ||| x), b) := by
  have := hr v
  rw [ior_nat (by omega) (by omega)]; exact cellsR_set h
theorem or_lt128 {a b : Nat} (ha : a < 128) (hb : b < 128) : a ||| b < 128 := Nat.or_lt_two_pow (n := 7) ha hb
theorem cellsR_or2 {s : ByteArray} {a : Nat} {r : Nat → Nat} {b : Bool} {v x y : Nat} (h : v < 7) (hr : ∀ v, r v < 128) (hx : x < 128) (hy : y < 128) : ((cellsR s (a, r, b)).set (2 + v) (.int .i64 (ior (r v : Nat) (x : Nat)))).set (2 + v) (.int .i64 (ior (ior (r v : Nat) (x : Nat)) (y : Nat))) = cellsR s (a, updR r v (r v ||| x ||| y), b) := by
  have h1 := hr v
  have h2 := or_lt128 h1 hx
  rw [ior_nat (by omega) (by omega), ior_nat (by omega) (by omega), List.set_set]; exact cellsR_set h
def nextI (s : ByteArray) (st : RSt) : Nat × RSt := if st.1 = s.size then (0, (st.1, st.2.1, true)) else (byteAt s st.1, (st.1 + 1, st.2.1, st.2.2))
theorem nextI_end {s : ByteArray} {st : RSt} (h : st.1 = s.size) : nextI s st = (0, (st.1, st.2.1, true)) := if_pos h
theorem nextI_in {s : ByteArray} {st : RSt} (h : st.1 ≠ s.size) : nextI s st = (byteAt s st.1, (st.1 + 1, st.2.1, st.2.2)) := if_neg h
theorem nextI_pos (s : ByteArray) (st : RSt) (h : (nextI s st).1 ≠ 0) : st.1 ≠ s.size ∧ (nextI s st).2.1 = st.1 + 1 := by
  by_cases he : st.1 = s.size
  · rw [nextI_end he] at h; exact absurd rfl h
  · rw [nextI_in he]; exact ⟨he, rfl⟩
def joinK (sign out part : Nat) (r : Nat → Nat) (k : Nat) : Nat → Nat := fun v => if v < k ∧ sign = 42 then r v ||| (if part.testBit v then out else 0) ||| (if out.testBit v then part else 0) else r v
theorem joinK_zero (sign out part : Nat) (r : Nat → Nat) : joinK sign out part r 0 = r := by
  funext v; unfold joinK; rw [if_neg (by omega)]
theorem joinK_no {sign : Nat} (h : sign ≠ 42) (out part : Nat) (r : Nat → Nat) (k : Nat) : joinK sign out part r k = r := by
  funext v; unfold joinK; rw [if_neg (fun hh => h hh.2)]
theorem joinK_succ (out part : Nat) (r : Nat → Nat) (k : Nat) : joinK 42 out part r (k + 1) = updR (joinK 42 out part r k) k (r k ||| (if part.testBit k then out else 0) ||| (if out.testBit k then part else 0)) := by
  funext v
  unfold updR joinK
  by_cases h : v = k
  · subst h
    have c1 : v < v + 1 ∧ 42 = 42 := ⟨by omega, rfl⟩
    rw [if_pos c1, if_pos rfl]
  · have c3 : ¬ v = k := h
    rw [if_neg c3]
    by_cases h2 : v < k
    · have c1 : v < k + 1 ∧ 42 = 42 := ⟨by omega, rfl⟩
      have c2 : v < k ∧ 42 = 42 := ⟨h2, rfl⟩
      rw [if_pos c1, if_pos c2]
    · have c1 : ¬ (v < k + 1 ∧ 42 = 42) := fun hh => by omega
      have c2 : ¬ (v < k ∧ 42 = 42) := fun hh => h2 hh.1
      rw [if_neg c1, if_neg c2]
theorem joinK_at (sign out part : Nat) (r : Nat → Nat) (k : Nat) : joinK sign out part r k k = r k := by
  unfold joinK; rw [if_neg (by omega)]
theorem updR_self (r : Nat → Nat) (k : Nat) : updR r k (r k) = r := by
  funext v; unfold updR; split
  · rename_i h; rw [h]
  · rfl
def loopI (s : ByteArray) (g : RSt → Nat × RSt) (sign : Nat) : Nat → RSt → Nat → Nat × RSt
  | 0, st, out => (out, st)
  | k + 1, st, out => if st.2.2 = true then (out, st) else
      if (nextI s st).1 = 32 then loopI s g sign k ((g (nextI s st).2).2.1, joinK sign out (g (nextI s st).2).1 (g (nextI s st).2).2.2.1 7, (g (nextI s st).2).2.2.2) (out ||| (g (nextI s st).2).1)
      else (out, (nextI s st).2)
def setI (s : ByteArray) : Nat → RSt → Nat × RSt
  | 0, st => (0, st)
  | f + 1, st => if (nextI s st).1 = 40 then loopI s (setI s f) (nextI s (nextI s st).2).1 (s.size + 1) (nextI s (nextI s st).2).2 0
      else if (nextI s st).2.2.2 = true ∨ ¬ (48 ≤ (nextI s st).1 ∧ (nextI s st).1 ≤ 54) then (0, ((nextI s st).2.1, (nextI s st).2.2.1, true)) else (2 ^ ((nextI s st).1 - 48), (nextI s st).2)
def BdR (st : RSt) : Prop := ∀ v, st.2.1 v < 128
theorem nextI_ok {s : ByteArray} {st : RSt} (h : st.1 ≤ s.size) (hb : BdR st) : st.1 ≤ (nextI s st).2.1 ∧ (nextI s st).2.1 ≤ s.size ∧ BdR (nextI s st).2 ∧ (nextI s st).1 < 256 := by
  by_cases he : st.1 = s.size
  · rw [nextI_end he]; exact ⟨Nat.le_refl _, h, hb, by show 0 < 256; omega⟩
  · rw [nextI_in he]; exact ⟨by dsimp only; omega, by dsimp only; omega, hb, byteAt_lt _ _⟩
theorem joinK_lt {sign out part : Nat} {r : Nat → Nat} {k : Nat} (ho : out < 128) (hp : part < 128) (hr : ∀ v, r v < 128) : ∀ v, joinK sign out part r k v < 128 := fun v => by
  unfold joinK
  split
  · refine or_lt128 (or_lt128 (hr v) ?_) ?_
    · split <;> omega
    · split <;> omega
  · exact hr v
def OkG (s : ByteArray) (g : RSt → Nat × RSt) : Prop := ∀ st, st.1 ≤ s.size → BdR st → st.1 ≤ (g st).2.1 ∧ (g st).2.1 ≤ s.size ∧ BdR (g st).2 ∧ (g st).1 < 128
theorem loopI_ok {s : ByteArray} {g : RSt → Nat × RSt} (hg : OkG s g) (sign : Nat) : ∀ k st out, st.1 ≤ s.size → BdR st → out < 128 → st.1 ≤ (loopI s g sign k st out).2.1 ∧ (loopI s g sign k st out).2.1 ≤ s.size ∧ BdR (loopI s g sign k st out).2 ∧ (loopI s g sign k st out).1 < 128 := by
  intro k
  induction k with
  | zero => intro st out h1 h2 h3; exact ⟨Nat.le_refl _, h1, h2, h3⟩
  | succ k ih =>
    intro st out h1 h2 h3
    unfold loopI
    split
    · exact ⟨Nat.le_refl _, h1, h2, h3⟩
    · obtain ⟨n1, n2, n3, n4⟩ := nextI_ok h1 h2
      split
      · obtain ⟨g1, g2, g3, g4⟩ := hg _ n2 n3
        obtain ⟨i1, i2, i3, i4⟩ := ih ((g (nextI s st).2).2.1, joinK sign out (g (nextI s st).2).1 (g (nextI s st).2).2.2.1 7, (g (nextI s st).2).2.2.2) (out ||| (g (nextI s st).2).1) g2 (joinK_lt h3 g4 g3) (or_lt128 h3 g4)
        exact ⟨by dsimp only at i1; omega, i2, i3, i4⟩
      · exact ⟨n1, n2, n3, h3⟩
theorem setI_ok (s : ByteArray) : ∀ f, OkG s (setI s f) := by
  intro f
  induction f with
  | zero => intro st h1 h2; exact ⟨Nat.le_refl _, h1, h2, by show 0 < 128; omega⟩
  | succ f ih =>
    intro st h1 h2
    obtain ⟨n1, n2, n3, n4⟩ := nextI_ok h1 h2
    unfold setI
    split
    · obtain ⟨m1, m2, m3, m4⟩ := nextI_ok n2 n3
      obtain ⟨i1, i2, i3, i4⟩ := loopI_ok ih (nextI s (nextI s st).2).1 (s.size + 1) (nextI s (nextI s st).2).2 0 m2 m3 (by omega)
      exact ⟨by omega, i2, i3, i4⟩
    · split
      · exact ⟨n1, n2, n3, by show 0 < 128; omega⟩
      · rename_i hh
        refine ⟨n1, n2, n3, ?_⟩
        have : (nextI s st).1 - 48 ≤ 6 := by omega
        exact Nat.lt_of_le_of_lt (Nat.pow_le_pow_right (by omega) this) (by decide)
def rowsI (n : Nat) (r : Nat → Nat) : List Int := (List.range n).map fun v => (r v : Int)
theorem rowsI_length (n : Nat) (r : Nat → Nat) : (rowsI n r).length = n := by simp [rowsI]
theorem toList_beq (a b : ByteArray) : (a.toList == b.toList) = decide (a = b) := by
  rw [ByteArray.toList_eq, ByteArray.toList_eq]
  by_cases h : a = b
  · subst h; simp
  · rw [decide_eq_false h, beq_eq_false_iff_ne]
    exact fun hh => h (Go.WideShapes.bytes_inj hh)
def cogb (size : Int) (rows : List Int) : Bool := decide (IsG size rows ∧ pathX size rows 4 = none)
def gocA (s : ByteArray) : Nat × RSt := setI s 101 (0, fun _ => 0, false)
def gocN (s : ByteArray) : Nat := cntN (gocA s).1
def gocR (s : ByteArray) : List Int := rowsI (gocN s) (gocA s).2.2.1
def gocB (s : ByteArray) : Bool := decide (s.size ≤ 100) && (!(gocA s).2.2.2 && (cogb (gocN s) (gocR s) && decide (cotX (gocN s) (gocR s) = s)))
def gocZ (s : ByteArray) : Int := if gocB s = true then gocN s else 0
def gocL (s : ByteArray) : List Int := if gocB s = true then gocR s else []
theorem gocA_ok (s : ByteArray) : (gocA s).2.1 ≤ s.size ∧ BdR (gocA s).2 ∧ (gocA s).1 < 128 := by
  obtain ⟨_, h1, h2, h3⟩ := setI_ok s 101 (0, fun _ => 0, false) (Nat.zero_le _) (fun v => by show 0 < 128; omega)
  exact ⟨h1, h2, h3⟩
end Go.Pw
/- The readers of a cograph's tree, as functions: the reference's. -/
namespace Go.Pw
open Go Go.RowKit
abbrev Rel := Nat → Nat → Bool
def SymP (P : Rel) : Prop := ∀ x y, P x y = P y x
def IrrP (P : Rel) : Prop := ∀ x, P x x = false
def crS (set part x y : Nat) : Bool := set.testBit x && part.testBit y
def joinW (sign set part : Nat) (P : Rel) : Rel := fun x y => P x y || (decide (sign = 42) && (crS set part x y || crS set part y x))
theorem joinW_no {sign : Nat} (h : sign ≠ 42) (set part : Nat) (P : Rel) : joinW sign set part P = P := by
  funext x y; unfold joinW; rw [decide_eq_false h]; simp
def loopS (s : ByteArray) (g : Nat → Rel → Option (Rel × Nat × Nat)) (sign : Nat) : Nat → Nat → Rel → Nat → Option (Rel × Nat × Nat)
  | 0, _, _, _ => none
  | k + 1, i, P, set => if i < s.size ∧ byteAt s i = 32 then
      match g (i + 1) P with
      | none => none
      | some (P', part, next) => if part &&& set = 0 then loopS s g sign k next (joinW sign set part P') (set ||| part) else none
      else if i < s.size ∧ byteAt s i = 41 then some (P, set, i + 1) else none
def rdS (s : ByteArray) : Nat → Nat → Rel → Option (Rel × Nat × Nat)
  | 0, _, _ => none
  | f + 1, i, P => if s.size ≤ i then none
      else if 48 ≤ byteAt s i ∧ byteAt s i ≤ 54 then some (P, 2 ^ (byteAt s i - 48), i + 1)
      else if byteAt s i = 40 ∧ i + 1 < s.size ∧ (byteAt s (i + 1) = 43 ∨ byteAt s (i + 1) = 42) then loopS s (rdS s f) (byteAt s (i + 1)) (s.size + 1) (i + 2) P 0
      else none
theorem and_bit {a b : Nat} (h : a &&& b = 0) (x : Nat) : (a.testBit x && b.testBit x) = false := by
  have := congrArg (fun z => z.testBit x) h
  simpa [Nat.testBit_and] using this
theorem joinW_sym {sign set part : Nat} {P : Rel} (h : SymP P) : SymP (joinW sign set part P) := fun x y => by
  unfold joinW; rw [h x y, Bool.or_comm (crS set part x y)]
theorem joinW_irr {sign set part : Nat} {P : Rel} (h : IrrP P) (hd : part &&& set = 0) : IrrP (joinW sign set part P) := fun x => by
  have := and_bit hd x
  unfold joinW crS
  rw [h x, Bool.and_comm (set.testBit x), this]; simp
def OkR (s : ByteArray) (g : Nat → Rel → Option (Rel × Nat × Nat)) : Prop := ∀ i P r, SymP P → IrrP P → g i P = some r → SymP r.1 ∧ IrrP r.1 ∧ r.2.1 < 128 ∧ i < r.2.2 ∧ r.2.2 ≤ s.size
theorem loopS_ok {s : ByteArray} {g : Nat → Rel → Option (Rel × Nat × Nat)} (hg : OkR s g) (sign : Nat) : ∀ k i P set r, SymP P → IrrP P → set < 128 → loopS s g sign k i P set = some r → SymP r.1 ∧ IrrP r.1 ∧ r.2.1 < 128 ∧ i < r.2.2 ∧ r.2.2 ≤ s.size := by
  intro k
  induction k with
  | zero => intro i P set r _ _ _ h; cases h
  | succ k ih =>
    intro i P set r h1 h2 h3 h
    unfold loopS at h
    split at h
    · split at h
      · cases h
      · rename_i P' part next he
        obtain ⟨g1, g2, g3, g4, g5⟩ := hg _ _ _ h1 h2 he
        dsimp only at g1 g2 g3 g4 g5
        split at h
        · rename_i hd
          obtain ⟨a1, a2, a3, a4, a5⟩ := ih next _ _ r (joinW_sym g1) (joinW_irr g2 hd) (or_lt128 h3 g3) h
          exact ⟨a1, a2, a3, by omega, a5⟩
        · cases h
    · split at h
      · rename_i hc
        obtain rfl := Option.some.inj h
        exact ⟨h1, h2, h3, by dsimp only; omega, by dsimp only; omega⟩
      · cases h
theorem rdS_ok (s : ByteArray) : ∀ f, OkR s (rdS s f) := by
  intro f
  induction f with
  | zero => intro i P r _ _ h; cases h
  | succ f ih =>
    intro i P r h1 h2 h
    unfold rdS at h
    split at h
    · cases h
    · split at h
      · rename_i hl hd
        obtain rfl := Option.some.inj h
        refine ⟨h1, h2, ?_, by dsimp only; omega, by dsimp only; omega⟩
        exact Nat.lt_of_le_of_lt (Nat.pow_le_pow_right (by omega) (show byteAt s i - 48 ≤ 6 by omega)) (by decide)
      · split at h
        · obtain ⟨a1, a2, a3, a4, a5⟩ := loopS_ok ih _ _ _ _ _ r h1 h2 (by omega) h
          exact ⟨a1, a2, a3, by omega, a5⟩
        · cases h
def befP (v w x y : Nat) : Bool := decide (x < v ∨ x = v ∧ y < w)
def prP (set part : Nat) (P : Rel) (v w : Nat) : Rel := fun x y => P x y || ((crS set part x y && befP v w x y) || (crS set part y x && befP v w y x))
theorem prP_sym {set part : Nat} {P : Rel} (h : SymP P) (v w : Nat) : SymP (prP set part P v w) := fun x y => by
  unfold prP; rw [h x y, Bool.or_comm (crS set part x y && befP v w x y)]
theorem prP_irr {set part : Nat} {P : Rel} (h : IrrP P) (hd : part &&& set = 0) (v w : Nat) : IrrP (prP set part P v w) := fun x => by
  have := and_bit hd x
  unfold prP crS
  rw [h x, Bool.and_comm (set.testBit x), this]; simp
theorem prP_zero (set part : Nat) (P : Rel) : prP set part P 0 0 = P := by
  funext x y; simp [prP, befP]
theorem befP_succ (v u x y : Nat) : befP v (u + 1) x y = (befP v u x y || decide (x = v ∧ y = u)) := by
  unfold befP
  rw [← Bool.decide_or]
  apply decide_eq_decide.2
  omega
theorem prP_add {set part : Nat} {P : Rel} {v u : Nat} (h : crS set part v u = true) : pairAdd (prP set part P v u) v u = prP set part P v (u + 1) := by
  funext x y
  unfold pairAdd prP
  rw [befP_succ, befP_succ]
  by_cases h1 : x = v ∧ y = u
  · obtain ⟨rfl, rfl⟩ := h1
    rw [h]; simp
  · by_cases h2 : x = u ∧ y = v
    · obtain ⟨rfl, rfl⟩ := h2
      rw [h]; simp
    · have h3 : ¬ (y = v ∧ x = u) := fun hh => h2 ⟨hh.2, hh.1⟩
      simp [h1, h2, h3]
theorem prP_skip {set part : Nat} {P : Rel} {v u : Nat} (h : crS set part v u = false) : prP set part P v (u + 1) = prP set part P v u := by
  funext x y
  unfold prP
  rw [befP_succ, befP_succ]
  by_cases h1 : x = v ∧ y = u
  · obtain ⟨rfl, rfl⟩ := h1
    rw [h]
    by_cases h2 : y = x
    · subst h2; rw [h]; simp
    · simp [h2]
  · by_cases h2 : y = v ∧ x = u
    · obtain ⟨rfl, rfl⟩ := h2
      rw [h]; simp [h1]
    · simp [h1, h2]
theorem prP_row {set part : Nat} {P : Rel} {v n : Nat} {x y : Nat} (hx : x < n) (hy : y < n) : prP set part P v n x y = prP set part P (v + 1) 0 x y := by
  have b : ∀ a b, b < n → befP v n a b = befP (v + 1) 0 a b := fun a b hb => by
    unfold befP; apply decide_eq_decide.2; omega
  unfold prP
  rw [b x y hy, b y x hx]
theorem prP_all {set part : Nat} {P : Rel} {n : Nat} {x y : Nat} (hx : x < n) (hy : y < n) : prP set part P n 0 x y = joinW 42 set part P x y := by
  have b : ∀ a b, a < n → befP n 0 a b = true := fun a b ha => by unfold befP; exact decide_eq_true (.inl ha)
  unfold prP joinW
  rw [b x y hx, b y x hy]; simp
end Go.Pw
/- AddEdge, whether the edge is there or not. -/
namespace Go.Proofs.Ytkbjcfabbapnpaa
open Go Go.RowKit Go.Pw
set_option maxHeartbeats 1000000 in
theorem s_AddEdge2_c (n : Nat) (gv : Value) (P : Nat → Nat → Bool) (v u : Nat) (w : World) (hr : Arr w gv (ints (gRows n P))) (h1 : 1 ≤ n) (hn : n ≤ 7) (hs : SymP P) (hi : IrrP P)
    (hv : v < n) (hu : u < n) (hvu : v ≠ u) :
    Gives Try.prog 61 #[.agg #[.int .i64 n, gv], .int .i64 v, .int .i64 u] w (fun x objs => ∃ sv' bb, x = .tuple #[.agg #[.int .i64 n, sv'], .bool bb] ∧ objs = [.row 3 sv' (ints (gRows n (pairAdd P v u)))]) := by
  by_cases hP : P v u = false
  · have := s_AddEdge_c n gv P v u w hr h1 hn hs hi hv hu hvu hP
    exact ⟨this.entry, this.out.mono fun e w' ⟨x, objs, he, ⟨sv', hx, ho⟩, hc⟩ => ⟨x, objs, he, ⟨sv', true, hx, ho⟩, hc⟩⟩
  have hP' : P v u = true := by simpa using hP
  have hg := gRows_isG h1 hn hs hi
  have hlen : (gRows n P).length = n := gRows_length n P
  have hhas := gRows_has hn P hv hu
  have hvu' : (v : Int) ≠ u := by omega
  have he : gRows n (pairAdd P v u) = gRows n P := gRows_congr fun i j _ _ => by
    unfold pairAdd
    by_cases h3 : i = v ∧ j = u
    · obtain ⟨rfl, rfl⟩ := h3; rw [hP']; rfl
    · by_cases h4 : i = u ∧ j = v
      · obtain ⟨rfl, rfl⟩ := h4; rw [hs, hP']; rfl
      · simp [h3, h4]
  rw [he]
  have kE : ∀ sv w', Arr w' sv (ints (gRows n P)) → Pure Try.prog 52 #[.agg #[.int .i64 n, sv], .int .i64 v, .int .i64 u] w' (.bool true) := fun sv w' h => by
    have := s_l2Edge_c n sv (gRows n P) v u w' h (by omega) (by omega)
    rw [show hasB ((gRows n P).getD (Int.toNat (v : Int)) 0) (u : Int) = P v u from hhas, hP'] at this; exact this
  refine gives_enter (args := [_, _, _]) en_s_AddEdge Try.func61 rfl Try.ntmps61 rfl ?_
  repeat' (first | apply pwp_seq | apply pwp_region | (apply px_run; (first | (apply opv_move; first | exact hid_int rfl | exact hid_bool rfl) | (apply opv_assign; first | exact hid_bool rfl) | (apply opv_pick_f <;> rfl) | (apply opv_not <;> rfl) | (apply opv_load_str 0 st_G; rfl; rfl; rfl) | (apply opv_load_str 1 st_G; rfl; rfl; rfl) | (apply opv_load_str 3 st_G; rfl; rfl; rfl) | (apply opv_call; rfl; rfl; exact Cl.stable _ _ _; exact fun w hw => s_l2Pair_c _ _ _ _ _ _ (by first | exact hw.arr (by assumption)) hg (by omega) (by omega) hvu') | (apply opv_call; rfl; rfl; exact Cl.stable _ _ _; exact fun w hw => kE _ _ (by first | exact hw.arr (by assumption)))); rfl; rfl) | apply px_nil | apply qseq_normal | apply qseq_ret | apply pwp_ret | (apply pwp_cond_t; rfl) | (apply px_box; rfl; rfl; rfl; rfl; intro bk) | (apply px_alloc st_G; rfl; rfl; rfl; intro bk) | (apply px_store_str 0 st_G; rfl; rfl; rfl; rfl; rfl; (intro w hw; (first | refine all2 rfl ?_ ?_) <;> (first | rfl | exact stor_row 1 hw rfl)); rfl) | (apply px_store_str 2 st_G; rfl; rfl; rfl; rfl; rfl; (intro w hw; (first | refine all2 rfl ?_ ?_) <;> (first | rfl | exact stor_row 1 hw rfl)); rfl) | (apply px_gives; rfl; rfl; rfl; rfl; rfl; exact fun w hw => s_l2Copy_c _ _ (gRows n P) _ (by first | exact hw.arr (by assumption)) (by omega); rintro _ _ ⟨sc, rfl, rfl⟩))
  refine qbody_cell_tmp 2 rfl st_G rfl rfl rfl rfl ⟨_, ⟨sc, false, rfl, rfl⟩, fun w' h => ?_⟩
  exact Cl.sub (by assumption) (by repeat (first | exact List.Sublist.slnil | exact List.Sublist.refl _ | apply List.Sublist.cons_cons | exact List.sublist_append_left _ _ | exact List.sublist_append_right _ _ | apply List.Sublist.cons))
theorem s_AddEdge3_c (n : Nat) (gv : Value) (P : Nat → Nat → Bool) (v u : Nat) (w : World) (hr : Arr w gv (ints (gRows n P))) (h1 : 1 ≤ n) (hn : n ≤ 7) (hs : SymP P) (hi : IrrP P)
    (hv : v < n) (hu : u < n) (hvu : v ≠ u) :
    Gives Try.prog 61 #[.agg #[.int .i64 n, gv], .int .i64 v, .int .i64 u] w (fun x objs => ∃ sv' bb, storable sv' = true ∧ x = .tuple #[.agg #[.int .i64 n, sv'], .bool bb] ∧ objs = [.row 3 sv' (ints (gRows n (pairAdd P v u)))]) := by
  have := s_AddEdge2_c n gv P v u w hr h1 hn hs hi hv hu hvu
  refine ⟨this.entry, this.out.mono fun e w' ⟨x, objs, he, ⟨sv', bb, hx, ho⟩, hc⟩ => ⟨x, objs, he, ⟨sv', bb, ?_, hx, ho⟩, hc⟩⟩
  subst ho
  exact stor_arr (arr_of_row (hc.holds _ (List.mem_singleton_self _)))
theorem s_l2PairNo_c (size : Int) (sv : Value) (rows : List Int) (v : Int) (w : World) (hr : Arr w sv (ints rows)) :
    Pure Try.prog 65 #[.agg #[.int .i64 size, sv], .int .i64 v, .int .i64 v] w (.bool false) := by
  refine pure_enter (args := [_, _, _]) en_s_l2Pair Try.func65 rfl Try.ntmps65 rfl ?_
  repeat' (first | apply pwp_seq | apply pwp_region | (apply px_run; (first | (apply opv_move; first | exact hid_int rfl | exact hid_bool rfl) | (apply opv_assign; first | exact hid_bool rfl) | (apply opv_lss <;> rfl) | (apply opv_geq <;> rfl) | (apply opv_neq <;> rfl) | (apply opv_pick_t <;> rfl) | (apply opv_pick_f <;> rfl) | (apply opv_field fld_G0; rfl) | (apply opv_load_blk 0; (first | with_reducible exact sc_int); rfl; rfl; rfl) | (apply opv_load_str 0 st_G; rfl; rfl; rfl) | (apply opv_call; rfl; rfl; exact Cl.stable _ _ _; exact fun w hw => s_IsGraph_c _ _ rows _ (by first | exact hw.arr (by assumption)))); rfl; rfl) | apply px_nil | (apply px_skip; rfl; rfl) | apply qseq_normal | apply pwp_ret | (apply px_guard_dec; rfl; rfl; rfl; all_goals (intro hc; try (first | contradiction))) | (apply px_box; rfl; rfl; rfl; rfl; intro bk))
  all_goals refine qbody_ret1 (v := .bool _) rfl rfl ⟨by first | rfl | (congr 1; simp_all), fun _ h => h.below⟩
theorem s_AddEdge4_c (n : Nat) (gv : Value) (P : Nat → Nat → Bool) (v u : Int) (w : World) (hr : Arr w gv (ints (gRows n P))) (h1 : 1 ≤ n) (hn : n ≤ 7) (hs : SymP P) (hi : IrrP P)
    (hv : 0 ≤ v ∧ v < n) (hu : 0 ≤ u ∧ u < n) :
    Gives Try.prog 61 #[.agg #[.int .i64 n, gv], .int .i64 v, .int .i64 u] w (fun x objs => ∃ sv' bb P', (SymP P' ∧ IrrP P') ∧ storable sv' = true ∧ x = .tuple #[.agg #[.int .i64 n, sv'], .bool bb] ∧ objs = [.row 3 sv' (ints (gRows n P'))]) := by
  obtain ⟨a, rfl⟩ : ∃ a : Nat, v = (a : Int) := ⟨v.toNat, by omega⟩
  obtain ⟨b, rfl⟩ : ∃ b : Nat, u = (b : Int) := ⟨u.toNat, by omega⟩
  by_cases hab : a = b
  case neg =>
    have := s_AddEdge3_c n gv P a b w hr h1 hn hs hi (by omega) (by omega) hab
    refine ⟨this.entry, this.out.mono fun e w' ⟨x, objs, he, ⟨sv', bb, h3, hx, ho⟩, hc⟩ => ⟨x, objs, he, ⟨sv', bb, pairAdd P a b, ⟨fun x y => ?_, fun x => ?_⟩, h3, hx, ho⟩, hc⟩⟩
    · unfold pairAdd
      rw [hs x y]
      congr 1
      rw [Bool.or_comm]
      congr 1
      · exact decide_eq_decide.2 ⟨fun h => ⟨h.2, h.1⟩, fun h => ⟨h.2, h.1⟩⟩
      · exact decide_eq_decide.2 ⟨fun h => ⟨h.2, h.1⟩, fun h => ⟨h.2, h.1⟩⟩
    · unfold pairAdd
      rw [hi x, decide_eq_false (fun h => hab (by omega)), decide_eq_false (fun h => hab (by omega))]; rfl
  subst hab
  have hlen : (gRows n P).length = n := gRows_length n P
  have key : Gives Try.prog 61 #[.agg #[.int .i64 n, gv], .int .i64 a, .int .i64 a] w (fun x objs => ∃ sv', x = .tuple #[.agg #[.int .i64 n, sv'], .bool false] ∧ objs = [.row 3 sv' (ints (gRows n P))]) := by
    refine gives_enter (args := [_, _, _]) en_s_AddEdge Try.func61 rfl Try.ntmps61 rfl ?_
    repeat' (first | apply pwp_seq | apply pwp_region | (apply px_run; (first | (apply opv_move; first | exact hid_int rfl | exact hid_bool rfl) | (apply opv_assign; first | exact hid_bool rfl) | (apply opv_pick_t <;> rfl) | (apply opv_not <;> rfl) | (apply opv_load_str 0 st_G; rfl; rfl; rfl) | (apply opv_load_str 1 st_G; rfl; rfl; rfl) | (apply opv_load_str 3 st_G; rfl; rfl; rfl) | (apply opv_call; rfl; rfl; exact Cl.stable _ _ _; exact fun w hw => s_l2PairNo_c _ _ (gRows n P) _ _ (by first | exact hw.arr (by assumption)))); rfl; rfl) | apply px_nil | (apply px_skip; rfl; rfl) | apply qseq_normal | apply qseq_ret | apply pwp_ret | (apply pwp_cond_t; rfl) | (apply px_box; rfl; rfl; rfl; rfl; intro bk) | (apply px_alloc st_G; rfl; rfl; rfl; intro bk) | (apply px_store_str 0 st_G; rfl; rfl; rfl; rfl; rfl; (intro w hw; (first | refine all2 rfl ?_ ?_) <;> (first | rfl | exact stor_row 1 hw rfl)); rfl) | (apply px_store_str 2 st_G; rfl; rfl; rfl; rfl; rfl; (intro w hw; (first | refine all2 rfl ?_ ?_) <;> (first | rfl | exact stor_row 1 hw rfl)); rfl) | (apply px_gives; rfl; rfl; rfl; rfl; rfl; exact fun w hw => s_l2Copy_c _ _ (gRows n P) _ (by first | exact hw.arr (by assumption)) (by omega); rintro _ _ ⟨sc, rfl, rfl⟩))
    refine qbody_cell_tmp 2 rfl st_G rfl rfl rfl rfl ⟨_, ⟨sc, rfl, rfl⟩, fun w' h => ?_⟩
    exact Cl.sub (by assumption) (by repeat (first | exact List.Sublist.slnil | exact List.Sublist.refl _ | apply List.Sublist.cons_cons | exact List.sublist_append_left _ _ | exact List.sublist_append_right _ _ | apply List.Sublist.cons))
  refine ⟨key.entry, key.out.mono fun e w' ⟨x, objs, he, ⟨sv', hx, ho⟩, hc⟩ => ⟨x, objs, he, ⟨sv', false, P, ⟨hs, hi⟩, ?_, hx, ho⟩, hc⟩⟩
  subst ho
  exact stor_arr (arr_of_row (hc.holds _ (List.mem_singleton_self _)))
end Go.Proofs.Ytkbjcfabbapnpaa
/- Draws: graphs. -/
namespace Go.Proofs.Ytkbjcfabbapnpaa
open Go Go.RowKit Go.Pw
/-- A graph of n vertices beside the cursor. -/
def GrP (cv : Value) (l : List Int) (cb : Nat) (n : Nat) (v : Value) (new : List Ob) : Prop := ∃ gv P i h, (SymP P ∧ IrrP P) ∧ storable gv = true ∧ v = .agg #[.int .i64 n, gv] ∧ (0 ≤ i ∧ i ≤ (l.length : Int)) ∧ new = [.row 3 gv (ints (gRows n P)), .blk cb (cells3 cv i h)]
theorem en_s_l2Random : Entry Try.prog 75 := ⟨_, Try.func75, by kernel_rfl, rfl⟩
set_option maxRecDepth 100000 in
set_option maxHeartbeats 1600000 in
theorem s_l2Random_c (cv : Value) (l : List Int) (cb : Nat) (i h odd : Int) (n : Nat) (w : World) (hcp : CodeP w cv l) (hi : 0 ≤ i ∧ i ≤ (l.length : Int)) (ho : Own w [.blk cb (cells3 cv i h)]) (h1 : 1 ≤ n) (hn : n ≤ 7) :
    GivesU Try.prog 75 #[.pointer (some ⟨cb, 0, none⟩), .int .i64 n, .int .i64 odd] w [.blk cb (cells3 cv i h)] (fun v new => GrP cv l cb n v new) := by
  have hap := code_apart hcp ho
  refine givesU_enterX (X := [cb]) (args := [_, _, _]) rfl ho en_s_l2Random Try.func75 rfl Try.ntmps75 rfl ?_
  have hg0 : gRows n (fun _ _ => false) = List.replicate n 0 := gRows_none (fun _ _ _ _ => rfl)
  have hrep : ints (List.replicate n 0) = List.replicate n (Value.int .i64 0) := by simp [ints]
  repeat' (first | apply pwp_seq | apply pwp_region | (apply px_run; (first | (apply opv_move; first | exact hid_int rfl) | (apply opv_assign; first | exact hid_int rfl) | (apply opv_build2 bl_G; rfl; rfl; (first | exact rd_row 0 rfl))); rfl; rfl) | apply px_nil | apply qseq_normal | apply pwp_block | (apply px_alloc st_G; rfl; rfl; rfl; intro bk) | (apply px_store_str 0 st_G; rfl; rfl; rfl; rfl; rfl; (intro w hw; (first | refine all2 rfl ?_ ?_) <;> (first | rfl | exact stor_row 1 hw rfl)); rfl) | (apply px_make ez_int; rfl; rfl; rfl; rfl; rfl; omega; (simp only [maxLen]; omega); intro sv))
  rename_i b6
  refine pwp_fact (φ := storable sv = true) (fun w' hw => by first | exact stor_row 0 hw rfl | exact stor_row 1 hw rfl | exact stor_row 2 hw rfl | exact stor_row 3 hw rfl) (fun hsv => ?_)
  refine pwp_loop (τ := Nat × Value × Rel × Int × Int) [(8,9), (14,36)] (fun x => [(8, .int .i64 (x.1 : Nat))]) (fun x => Cl [cb] w [.blk bk [.int .i64 n, x.2.1], .row 3 x.2.1 (ints (gRows n x.2.2.1)), .blk b6 [.int .i64 0, .slice none 0 0], .blk cb (cells3 cv x.2.2.2.1 x.2.2.2.2)])
    (fun x => x.1 ≤ n ∧ (SymP x.2.2.1 ∧ IrrP x.2.2.1) ∧ storable x.2.1 = true ∧ (0 ≤ x.2.2.2.1 ∧ x.2.2.2.1 ≤ (l.length : Int))) (fun x => n - x.1) (0, sv, (fun _ _ => false), i, h)
    ⟨rfl, trivial⟩ ⟨Nat.zero_le _, ⟨fun _ _ => rfl, fun _ => rfl⟩, hsv, hi⟩ (fun w' hw => by dsimp only; rw [hg0, hrep]; (have h := hw); exact Cl.ofSel (by assumption) (by repeat (first | exact sel_nil | refine sel_cons 0 rfl ?_ | refine sel_cons 1 rfl ?_ | refine sel_cons 2 rfl ?_ | refine sel_cons 3 rfl ?_ | refine sel_cons 4 rfl ?_ | refine sel_cons 5 rfl ?_ | refine sel_cons 6 rfl ?_ | refine sel_cons 7 rfl ?_ | refine sel_cons 8 rfl ?_ | refine sel_cons 9 rfl ?_ | refine sel_cons 10 rfl ?_ | refine sel_cons 11 rfl ?_ | refine sel_cons 12 rfl ?_ | refine sel_cons 13 rfl ?_))) (fun J x hx => ?_)
  obtain ⟨v, gv, P, i2, h2⟩ := x
  obtain ⟨v1, v2, v3, v4⟩ := hx
  dsimp only at v1 v2 v3 v4 ⊢
  by_cases hvn : v < n
  · repeat' (first | apply pwp_seq | apply pwp_region | (apply px_run; (first | (apply opv_move; first | exact hid_int rfl) | (apply opv_assign; first | exact hid_int rfl) | (apply opv_lss <;> rfl) | (apply opv_add_in; rfl; rfl; omega)); rfl; rfl) | apply px_nil | apply qseq_normal | apply pwp_block | apply pwp_skip | (apply pwp_cond_dec; rfl; all_goals (intro hc; try (first | (exfalso; omega)))))
    refine pwp_loop (τ := Nat × Value × Rel × Int × Int) [(9,9), (21,36)] (fun x => [(9, .int .i64 (x.1 : Nat))]) (fun x => Cl [cb] w [.blk bk [.int .i64 n, x.2.1], .row 3 x.2.1 (ints (gRows n x.2.2.1)), .blk b6 [.int .i64 0, .slice none 0 0], .blk cb (cells3 cv x.2.2.2.1 x.2.2.2.2)])
      (fun x => v < x.1 ∧ x.1 ≤ n ∧ (SymP x.2.2.1 ∧ IrrP x.2.2.1) ∧ storable x.2.1 = true ∧ (0 ≤ x.2.2.2.1 ∧ x.2.2.2.1 ≤ (l.length : Int))) (fun x => n - x.1) (v + 1, gv, P, i2, h2)
      ⟨rfl, trivial⟩ ⟨Nat.lt_succ_self _, hvn, v2, v3, v4⟩ (fun w' hw => (by have h := hw; exact Cl.ofSel (by assumption) (by repeat (first | exact sel_nil | refine sel_cons 0 rfl ?_ | refine sel_cons 1 rfl ?_ | refine sel_cons 2 rfl ?_ | refine sel_cons 3 rfl ?_ | refine sel_cons 4 rfl ?_ | refine sel_cons 5 rfl ?_ | refine sel_cons 6 rfl ?_ | refine sel_cons 7 rfl ?_ | refine sel_cons 8 rfl ?_ | refine sel_cons 9 rfl ?_ | refine sel_cons 10 rfl ?_ | refine sel_cons 11 rfl ?_ | refine sel_cons 12 rfl ?_ | refine sel_cons 13 rfl ?_)))) (fun J2 x hx => ?_)
    obtain ⟨u, gu, P2, i3, h3⟩ := x
    obtain ⟨u0, u1, u2, u3, u4⟩ := hx
    dsimp only at u0 u1 u2 u3 u4 ⊢
    by_cases hun : u < n
    · have kA := fun w' ha => s_AddEdge4_c n gu P2 v u w' ha h1 hn u2.1 u2.2 (by omega) (by omega)
      repeat' (first | apply pwp_seq | apply pwp_region | (apply px_run; (first | (apply opv_move; first | exact hid_int rfl | exact hid_ptr rfl | rfl) | (apply opv_assign; first | exact hid_int rfl) | (apply opv_lss <;> rfl) | (apply opv_add_in; rfl; rfl; omega) | (apply opv_load_str 1 st_G; rfl; rfl; rfl) | (apply opv_extract; rfl; rfl)); rfl; rfl) | apply px_nil | apply qseq_normal | apply pwp_block | apply qblock_normal | apply pwp_skip | (apply pwp_cond_dec; rfl; all_goals (intro hc; try (first | (exfalso; omega)))) | (apply px_givesV [3]; rfl; rfl; rfl; rfl; rfl; (exact fun w' hw ho' => s_l1Below_c cv l cb _ _ _ w' (hcp.at hap hw) (by assumption) ho'); rintro _ _ ⟨x, hx, rfl, ⟨ci, ch, hi, rfl⟩⟩) | (apply px_store_str 2 st_G; rfl; rfl; rfl; rfl; rfl; (intro w hw; (first | refine all2 rfl ?_ ?_) <;> (first | rfl | assumption)); rfl) | (apply px_gives; rfl; rfl; rfl; rfl; rfl; exact fun w hw => kA _ (by first | exact hw.rowArr (k := 2) rfl); rintro _ _ ⟨sc, bb, P3, hP3, hsc, rfl, rfl⟩))
      · refine qround_normal ?_ ⟨(u + 1, sc, P3, _, _), ⟨rfl, trivial⟩, ⟨by dsimp only; omega, by dsimp only; omega, hP3, hsc, by assumption⟩, by dsimp only; omega, fun w' hw => (by have h := hw; exact Cl.ofSel (by assumption) (by repeat (first | exact sel_nil | refine sel_cons 0 rfl ?_ | refine sel_cons 1 rfl ?_ | refine sel_cons 2 rfl ?_ | refine sel_cons 3 rfl ?_ | refine sel_cons 4 rfl ?_ | refine sel_cons 5 rfl ?_ | refine sel_cons 6 rfl ?_ | refine sel_cons 7 rfl ?_ | refine sel_cons 8 rfl ?_ | refine sel_cons 9 rfl ?_ | refine sel_cons 10 rfl ?_ | refine sel_cons 11 rfl ?_ | refine sel_cons 12 rfl ?_ | refine sel_cons 13 rfl ?_)))⟩
        repeat (first | exact same_refl | refine same_upd rfl ?_ | refine same_junk rfl ?_)
      · refine qround_normal ?_ ⟨(u + 1, gu, P2, _, _), ⟨rfl, trivial⟩, ⟨by dsimp only; omega, by dsimp only; omega, u2, u3, by assumption⟩, by dsimp only; omega, fun w' hw => (by have h := hw; exact Cl.ofSel (by assumption) (by repeat (first | exact sel_nil | refine sel_cons 0 rfl ?_ | refine sel_cons 1 rfl ?_ | refine sel_cons 2 rfl ?_ | refine sel_cons 3 rfl ?_ | refine sel_cons 4 rfl ?_ | refine sel_cons 5 rfl ?_ | refine sel_cons 6 rfl ?_ | refine sel_cons 7 rfl ?_ | refine sel_cons 8 rfl ?_ | refine sel_cons 9 rfl ?_ | refine sel_cons 10 rfl ?_ | refine sel_cons 11 rfl ?_ | refine sel_cons 12 rfl ?_ | refine sel_cons 13 rfl ?_)))⟩
        repeat (first | exact same_refl | refine same_upd rfl ?_ | refine same_junk rfl ?_)
    · obtain rfl : u = n := by omega
      repeat' (first | apply pwp_seq | apply pwp_region | (apply px_run; (first | (apply opv_move; first | exact hid_int rfl) | (apply opv_assign; first | exact hid_int rfl) | (apply opv_lss <;> rfl) | (apply opv_add_in; rfl; rfl; omega)); rfl; rfl) | apply px_nil | apply qseq_normal | apply qseq_exit | apply qblock_normal | (apply qblock_exit_same; rfl) | apply pwp_exit | apply qround_exit | (apply pwp_cond_dec; rfl; all_goals (intro hc; try (first | (exfalso; omega)))))
      refine qround_normal ?_ ⟨(v + 1, gu, P2, i3, h3), ⟨rfl, trivial⟩, ⟨by dsimp only; omega, u2, u3, u4⟩, by dsimp only; omega, fun w' hw => (by have h := hw; exact Cl.ofSel (by assumption) (by repeat (first | exact sel_nil | refine sel_cons 0 rfl ?_ | refine sel_cons 1 rfl ?_ | refine sel_cons 2 rfl ?_ | refine sel_cons 3 rfl ?_ | refine sel_cons 4 rfl ?_ | refine sel_cons 5 rfl ?_ | refine sel_cons 6 rfl ?_ | refine sel_cons 7 rfl ?_ | refine sel_cons 8 rfl ?_ | refine sel_cons 9 rfl ?_ | refine sel_cons 10 rfl ?_ | refine sel_cons 11 rfl ?_ | refine sel_cons 12 rfl ?_ | refine sel_cons 13 rfl ?_)))⟩
      repeat (first | exact same_refl | refine same_upd rfl ?_ | refine same_junk rfl ?_)
  · repeat' (first | apply pwp_seq | apply pwp_region | (apply px_run; (first | (apply opv_move; first | exact hid_int rfl) | (apply opv_lss <;> rfl) | (apply opv_load_str 0 st_G; rfl; rfl; rfl)); rfl; rfl) | apply px_nil | apply qseq_normal | apply qseq_exit | (apply qblock_exit_same; rfl) | apply pwp_exit | apply pwp_ret | apply qround_exit | (apply pwp_cond_dec; rfl; all_goals (intro hc; try (first | (exfalso; omega)))) | (apply px_store_str 2 st_G; rfl; rfl; rfl; rfl; rfl; (intro w hw; (first | refine all2 rfl ?_ ?_) <;> (first | rfl | assumption)); rfl))
    first
      | refine qbody_cell 0 rfl st_G rfl rfl rfl ⟨_, ⟨gv, P, i2, h2, v2, v3, rfl, v4, rfl⟩, fun w' hw => (by have h := hw; exact Cl.ofSel (by assumption) (by repeat (first | exact sel_nil | refine sel_cons 0 rfl ?_ | refine sel_cons 1 rfl ?_ | refine sel_cons 2 rfl ?_ | refine sel_cons 3 rfl ?_ | refine sel_cons 4 rfl ?_ | refine sel_cons 5 rfl ?_ | refine sel_cons 6 rfl ?_ | refine sel_cons 7 rfl ?_ | refine sel_cons 8 rfl ?_ | refine sel_cons 9 rfl ?_ | refine sel_cons 10 rfl ?_ | refine sel_cons 11 rfl ?_ | refine sel_cons 12 rfl ?_ | refine sel_cons 13 rfl ?_)))⟩
      | refine qbody_cell 1 rfl st_G rfl rfl rfl ⟨_, ⟨gv, P, i2, h2, v2, v3, rfl, v4, rfl⟩, fun w' hw => (by have h := hw; exact Cl.ofSel (by assumption) (by repeat (first | exact sel_nil | refine sel_cons 0 rfl ?_ | refine sel_cons 1 rfl ?_ | refine sel_cons 2 rfl ?_ | refine sel_cons 3 rfl ?_ | refine sel_cons 4 rfl ?_ | refine sel_cons 5 rfl ?_ | refine sel_cons 6 rfl ?_ | refine sel_cons 7 rfl ?_ | refine sel_cons 8 rfl ?_ | refine sel_cons 9 rfl ?_ | refine sel_cons 10 rfl ?_ | refine sel_cons 11 rfl ?_ | refine sel_cons 12 rfl ?_ | refine sel_cons 13 rfl ?_)))⟩
      | refine qbody_cell 2 rfl st_G rfl rfl rfl ⟨_, ⟨gv, P, i2, h2, v2, v3, rfl, v4, rfl⟩, fun w' hw => (by have h := hw; exact Cl.ofSel (by assumption) (by repeat (first | exact sel_nil | refine sel_cons 0 rfl ?_ | refine sel_cons 1 rfl ?_ | refine sel_cons 2 rfl ?_ | refine sel_cons 3 rfl ?_ | refine sel_cons 4 rfl ?_ | refine sel_cons 5 rfl ?_ | refine sel_cons 6 rfl ?_ | refine sel_cons 7 rfl ?_ | refine sel_cons 8 rfl ?_ | refine sel_cons 9 rfl ?_ | refine sel_cons 10 rfl ?_ | refine sel_cons 11 rfl ?_ | refine sel_cons 12 rfl ?_ | refine sel_cons 13 rfl ?_)))⟩
      | refine qbody_cell 3 rfl st_G rfl rfl rfl ⟨_, ⟨gv, P, i2, h2, v2, v3, rfl, v4, rfl⟩, fun w' hw => (by have h := hw; exact Cl.ofSel (by assumption) (by repeat (first | exact sel_nil | refine sel_cons 0 rfl ?_ | refine sel_cons 1 rfl ?_ | refine sel_cons 2 rfl ?_ | refine sel_cons 3 rfl ?_ | refine sel_cons 4 rfl ?_ | refine sel_cons 5 rfl ?_ | refine sel_cons 6 rfl ?_ | refine sel_cons 7 rfl ?_ | refine sel_cons 8 rfl ?_ | refine sel_cons 9 rfl ?_ | refine sel_cons 10 rfl ?_ | refine sel_cons 11 rfl ?_ | refine sel_cons 12 rfl ?_ | refine sel_cons 13 rfl ?_)))⟩
def names5 : List ByteArray := [⟨#[112, 97, 116, 104]⟩, ⟨#[99, 121, 99, 108, 101]⟩, ⟨#[99, 111, 109, 112, 108, 101, 116, 101]⟩, ⟨#[115, 116, 97, 114]⟩, ⟨#[119, 104, 101, 101, 108]⟩]
theorem en_s_NamedGraph : Entry Try.prog 59 := ⟨_, Try.func59, by kernel_rfl, rfl⟩
set_option maxRecDepth 100000 in
set_option maxHeartbeats 6400000 in
theorem s_NamedGraph_c (nm : ByteArray) (n : Nat) (w : World) (hnm : nm ∈ names5) (h1 : 1 ≤ n) (hn : n ≤ 7) :
    Gives Try.prog 59 #[.string nm, .int .i64 n] w (fun v objs => ∃ gv P bb, (SymP P ∧ IrrP P) ∧ storable gv = true ∧ v = .tuple #[.agg #[.int .i64 n, gv], .bool bb] ∧ objs = [.row 3 gv (ints (gRows n P))]) := by
  refine gives_enter (args := [_, _]) en_s_NamedGraph Try.func59 rfl Try.ntmps59 rfl ?_
  have hg0 : gRows n (fun _ _ => false) = List.replicate n 0 := gRows_none (fun _ _ _ _ => rfl)
  have hrep : ints (List.replicate n 0) = List.replicate n (Value.int .i64 0) := by simp [ints]
  have h5 : nm = ⟨#[112, 97, 116, 104]⟩ ∨ nm = ⟨#[99, 121, 99, 108, 101]⟩ ∨ nm = ⟨#[99, 111, 109, 112, 108, 101, 116, 101]⟩ ∨ nm = ⟨#[115, 116, 97, 114]⟩ ∨ nm = ⟨#[119, 104, 101, 101, 108]⟩ := by simpa [names5] using hnm
  have kin : ∀ w', Pure Try.prog 45 #[.int .i64 n, .int .i64 1, .int .i64 7] w' (.bool true) := fun w' => by
    have := s_l1In_c n 1 7 w'
    rw [decide_eq_true (by omega)] at this; exact this
  repeat' (first | apply pwp_seq | apply pwp_region | (apply px_run; (first | (apply opv_move; first | exact hid_int rfl) | (apply opv_assign; first | exact hid_int rfl | exact hid_bool rfl) | (apply opv_not <;> rfl) | (apply opv_build2 bl_G; rfl; rfl; (first | exact rd_row 0 rfl)) | (apply opv_call; rfl; rfl; exact Cl.stable _ _ _; exact fun w hw => kin _)); rfl; rfl) | apply px_nil | apply qseq_normal | apply pwp_block | apply pwp_skip | (apply pwp_cond_f; rfl) | (apply px_alloc st_G; rfl; rfl; rfl; intro bk) | (apply px_store_str 0 st_G; rfl; rfl; rfl; rfl; rfl; (intro w hw; (first | refine all2 rfl ?_ ?_) <;> (first | rfl | exact stor_row 1 hw rfl)); rfl) | (apply px_make ez_int; rfl; rfl; rfl; rfl; rfl; omega; (simp only [maxLen]; omega); intro sv))
  rename_i b6
  refine pwp_fact (φ := storable sv = true) (fun w' hw => by first | exact stor_row 0 hw rfl | exact stor_row 1 hw rfl | exact stor_row 2 hw rfl | exact stor_row 3 hw rfl) (fun hsv => ?_)
  refine pwp_loop (τ := Nat × Value × Rel) [(5,5), (7,9), (18,89)] (fun x => [(7, .int .i64 (x.1 : Nat))]) (fun x => Cl [] w [.blk bk [.int .i64 n, x.2.1], .row 3 x.2.1 (ints (gRows n x.2.2)), .blk b6 [.int .i64 0, .slice none 0 0]])
    (fun x => x.1 ≤ n ∧ (SymP x.2.2 ∧ IrrP x.2.2) ∧ storable x.2.1 = true) (fun x => n - x.1) (0, sv, (fun _ _ => false))
    ⟨rfl, trivial⟩ ⟨Nat.zero_le _, ⟨fun _ _ => rfl, fun _ => rfl⟩, hsv⟩ (fun w' hw => by dsimp only; rw [hg0, hrep]; (have h := hw); exact Cl.ofSel (by assumption) (by repeat (first | exact sel_nil | refine sel_cons 0 rfl ?_ | refine sel_cons 1 rfl ?_ | refine sel_cons 2 rfl ?_ | refine sel_cons 3 rfl ?_ | refine sel_cons 4 rfl ?_ | refine sel_cons 5 rfl ?_ | refine sel_cons 6 rfl ?_ | refine sel_cons 7 rfl ?_ | refine sel_cons 8 rfl ?_ | refine sel_cons 9 rfl ?_ | refine sel_cons 10 rfl ?_ | refine sel_cons 11 rfl ?_ | refine sel_cons 12 rfl ?_ | refine sel_cons 13 rfl ?_))) (fun J x hx => ?_)
  obtain ⟨v, gv, P⟩ := x
  obtain ⟨v1, v2, v3⟩ := hx
  dsimp only at v1 v2 v3 ⊢
  by_cases hvn : v < n
  · repeat' (first | apply pwp_seq | apply pwp_region | (apply px_run; (first | (apply opv_move; first | exact hid_int rfl) | (apply opv_assign; first | exact hid_int rfl) | (apply opv_lss <;> rfl) | (apply opv_add_in; rfl; rfl; omega)); rfl; rfl) | apply px_nil | apply qseq_normal | apply pwp_block | apply pwp_skip | (apply pwp_cond_dec; rfl; all_goals (intro hc; try (first | (exfalso; omega)))))
    refine pwp_loop (τ := Nat × Value × Rel) [(5,5), (8,9), (25,89)] (fun x => [(8, .int .i64 (x.1 : Nat))]) (fun x => Cl [] w [.blk bk [.int .i64 n, x.2.1], .row 3 x.2.1 (ints (gRows n x.2.2)), .blk b6 [.int .i64 0, .slice none 0 0]])
      (fun x => v < x.1 ∧ x.1 ≤ n ∧ (SymP x.2.2 ∧ IrrP x.2.2) ∧ storable x.2.1 = true) (fun x => n - x.1) (v + 1, gv, P)
      ⟨rfl, trivial⟩ ⟨Nat.lt_succ_self _, hvn, v2, v3⟩ (fun w' hw => (by have h := hw; exact Cl.ofSel (by assumption) (by repeat (first | exact sel_nil | refine sel_cons 0 rfl ?_ | refine sel_cons 1 rfl ?_ | refine sel_cons 2 rfl ?_ | refine sel_cons 3 rfl ?_ | refine sel_cons 4 rfl ?_ | refine sel_cons 5 rfl ?_ | refine sel_cons 6 rfl ?_ | refine sel_cons 7 rfl ?_ | refine sel_cons 8 rfl ?_ | refine sel_cons 9 rfl ?_ | refine sel_cons 10 rfl ?_ | refine sel_cons 11 rfl ?_ | refine sel_cons 12 rfl ?_ | refine sel_cons 13 rfl ?_)))) (fun J2 x hx => ?_)
    obtain ⟨u, gu, P2⟩ := x
    obtain ⟨u0, u1, u2, u3⟩ := hx
    dsimp only at u0 u1 u2 u3 ⊢
    by_cases hun : u < n
    · have kA := fun w' ha => s_AddEdge4_c n gu P2 v u w' ha h1 hn u2.1 u2.2 (by omega) (by omega)
      rcases h5 with rfl | rfl | rfl | rfl | rfl
      all_goals
        repeat' (first | apply pwp_seq | apply pwp_region | (apply px_run; (first | (apply opv_eql_s_r (r := true); rfl; rfl; (rw [toList_beq]; decide)) | (apply opv_eql_s_r (r := false); rfl; rfl; (rw [toList_beq]; decide)) | (apply opv_move; first | exact hid_int rfl | exact hid_bool rfl | rfl) | (apply opv_assign; first | exact hid_int rfl | exact hid_bool rfl) | (apply opv_lss <;> rfl) | (apply opv_eql <;> rfl) | (apply opv_pick_t <;> rfl) | (apply opv_pick_f <;> rfl) | (apply opv_add_in; rfl; rfl; omega) | (apply opv_sub_in; rfl; rfl; omega) | (apply opv_load_str 0 st_G; rfl; rfl; rfl) | (apply opv_extract; rfl; rfl)); rfl; rfl) | apply px_nil | (apply px_skip; rfl; rfl) | apply qseq_normal | apply pwp_block | apply qblock_normal | apply pwp_skip | (apply pwp_cond_t; rfl) | (apply pwp_cond_f; rfl) | (apply px_guard_dec; rfl; rfl; rfl; all_goals (intro hc; try (first | fail))) | (apply pwp_cond_dec; rfl; all_goals (intro hc; try (first | (exfalso; omega)))) | (apply px_store_str 1 st_G; rfl; rfl; rfl; rfl; rfl; (intro w hw; (first | refine all2 rfl ?_ ?_) <;> (first | rfl | assumption)); rfl) | (apply px_gives; rfl; rfl; rfl; rfl; rfl; exact fun w hw => kA _ (by first | exact hw.rowArr (k := 1) rfl); rintro _ _ ⟨sc, bb, P3, hP3, hsc, rfl, rfl⟩))
        all_goals first
          | (refine qround_normal ?_ ⟨(u + 1, sc, P3), ⟨rfl, trivial⟩, ⟨by dsimp only; omega, by dsimp only; omega, hP3, hsc⟩, by dsimp only; omega, fun w' hw => (by have h := hw; exact Cl.ofSel (by assumption) (by repeat (first | exact sel_nil | refine sel_cons 0 rfl ?_ | refine sel_cons 1 rfl ?_ | refine sel_cons 2 rfl ?_ | refine sel_cons 3 rfl ?_ | refine sel_cons 4 rfl ?_ | refine sel_cons 5 rfl ?_ | refine sel_cons 6 rfl ?_ | refine sel_cons 7 rfl ?_ | refine sel_cons 8 rfl ?_ | refine sel_cons 9 rfl ?_ | refine sel_cons 10 rfl ?_ | refine sel_cons 11 rfl ?_ | refine sel_cons 12 rfl ?_ | refine sel_cons 13 rfl ?_)))⟩
             repeat (first | exact same_refl | refine same_upd rfl ?_ | refine same_junk rfl ?_))
          | (refine qround_normal ?_ ⟨(u + 1, gu, P2), ⟨rfl, trivial⟩, ⟨by dsimp only; omega, by dsimp only; omega, u2, u3⟩, by dsimp only; omega, fun w' hw => (by have h := hw; exact Cl.ofSel (by assumption) (by repeat (first | exact sel_nil | refine sel_cons 0 rfl ?_ | refine sel_cons 1 rfl ?_ | refine sel_cons 2 rfl ?_ | refine sel_cons 3 rfl ?_ | refine sel_cons 4 rfl ?_ | refine sel_cons 5 rfl ?_ | refine sel_cons 6 rfl ?_ | refine sel_cons 7 rfl ?_ | refine sel_cons 8 rfl ?_ | refine sel_cons 9 rfl ?_ | refine sel_cons 10 rfl ?_ | refine sel_cons 11 rfl ?_ | refine sel_cons 12 rfl ?_ | refine sel_cons 13 rfl ?_)))⟩
             repeat (first | exact same_refl | refine same_upd rfl ?_ | refine same_junk rfl ?_))
    · obtain rfl : u = n := by omega
      repeat' (first | apply pwp_seq | apply pwp_region | (apply px_run; (first | (apply opv_move; first | exact hid_int rfl) | (apply opv_assign; first | exact hid_int rfl) | (apply opv_lss <;> rfl) | (apply opv_add_in; rfl; rfl; omega)); rfl; rfl) | apply px_nil | apply qseq_normal | apply qseq_exit | apply qblock_normal | (apply qblock_exit_same; rfl) | apply pwp_exit | apply qround_exit | (apply pwp_cond_dec; rfl; all_goals (intro hc; try (first | (exfalso; omega)))))
      refine qround_normal ?_ ⟨(v + 1, gu, P2), ⟨rfl, trivial⟩, ⟨by dsimp only; omega, u2, u3⟩, by dsimp only; omega, fun w' hw => (by have h := hw; exact Cl.ofSel (by assumption) (by repeat (first | exact sel_nil | refine sel_cons 0 rfl ?_ | refine sel_cons 1 rfl ?_ | refine sel_cons 2 rfl ?_ | refine sel_cons 3 rfl ?_ | refine sel_cons 4 rfl ?_ | refine sel_cons 5 rfl ?_ | refine sel_cons 6 rfl ?_ | refine sel_cons 7 rfl ?_ | refine sel_cons 8 rfl ?_ | refine sel_cons 9 rfl ?_ | refine sel_cons 10 rfl ?_ | refine sel_cons 11 rfl ?_ | refine sel_cons 12 rfl ?_ | refine sel_cons 13 rfl ?_)))⟩
      repeat (first | exact same_refl | refine same_upd rfl ?_ | refine same_junk rfl ?_)
  · rcases h5 with rfl | rfl | rfl | rfl | rfl
    all_goals
      repeat' (first | apply pwp_seq | apply pwp_region | (apply px_run; (first | (apply opv_neq_s_r (r := true); rfl; rfl; (rw [toList_beq]; decide)) | (apply opv_neq_s_r (r := false); rfl; rfl; (rw [toList_beq]; decide)) | (apply opv_move; first | exact hid_int rfl | exact hid_bool rfl | rfl) | (apply opv_assign; first | exact hid_bool rfl) | (apply opv_lss <;> rfl) | (apply opv_eql <;> rfl) | (apply opv_pick_t <;> rfl) | (apply opv_pick_f <;> rfl) | (apply opv_load_str 0 st_G; rfl; rfl; rfl)); rfl; rfl) | apply px_nil | (apply px_skip; rfl; rfl) | apply qseq_normal | apply qseq_exit | (apply qblock_exit_same; rfl) | apply pwp_skip | apply pwp_exit | apply pwp_ret | apply qround_exit | (apply pwp_cond_f; rfl) | (apply px_guard_dec; rfl; rfl; rfl; all_goals (intro hc; try (first | fail))) | (apply pwp_cond_dec; rfl; all_goals (intro hc; try (first | (exfalso; omega)))) | (apply px_store_str 2 st_G; rfl; rfl; rfl; rfl; rfl; (intro w hw; (first | refine all2 rfl ?_ ?_) <;> (first | rfl | assumption)); rfl))
      all_goals first
        | refine qbody_cell_tmp 0 rfl st_G rfl rfl rfl rfl ⟨_, ⟨gv, P, true, v2, v3, rfl, rfl⟩, fun w' hw => (by have h := hw; exact Cl.ofSel (by assumption) (by repeat (first | exact sel_nil | refine sel_cons 0 rfl ?_ | refine sel_cons 1 rfl ?_ | refine sel_cons 2 rfl ?_ | refine sel_cons 3 rfl ?_ | refine sel_cons 4 rfl ?_ | refine sel_cons 5 rfl ?_ | refine sel_cons 6 rfl ?_ | refine sel_cons 7 rfl ?_ | refine sel_cons 8 rfl ?_ | refine sel_cons 9 rfl ?_ | refine sel_cons 10 rfl ?_ | refine sel_cons 11 rfl ?_ | refine sel_cons 12 rfl ?_ | refine sel_cons 13 rfl ?_)))⟩
        | refine qbody_cell_tmp 1 rfl st_G rfl rfl rfl rfl ⟨_, ⟨gv, P, true, v2, v3, rfl, rfl⟩, fun w' hw => (by have h := hw; exact Cl.ofSel (by assumption) (by repeat (first | exact sel_nil | refine sel_cons 0 rfl ?_ | refine sel_cons 1 rfl ?_ | refine sel_cons 2 rfl ?_ | refine sel_cons 3 rfl ?_ | refine sel_cons 4 rfl ?_ | refine sel_cons 5 rfl ?_ | refine sel_cons 6 rfl ?_ | refine sel_cons 7 rfl ?_ | refine sel_cons 8 rfl ?_ | refine sel_cons 9 rfl ?_ | refine sel_cons 10 rfl ?_ | refine sel_cons 11 rfl ?_ | refine sel_cons 12 rfl ?_ | refine sel_cons 13 rfl ?_)))⟩
        | refine qbody_cell_tmp 2 rfl st_G rfl rfl rfl rfl ⟨_, ⟨gv, P, true, v2, v3, rfl, rfl⟩, fun w' hw => (by have h := hw; exact Cl.ofSel (by assumption) (by repeat (first | exact sel_nil | refine sel_cons 0 rfl ?_ | refine sel_cons 1 rfl ?_ | refine sel_cons 2 rfl ?_ | refine sel_cons 3 rfl ?_ | refine sel_cons 4 rfl ?_ | refine sel_cons 5 rfl ?_ | refine sel_cons 6 rfl ?_ | refine sel_cons 7 rfl ?_ | refine sel_cons 8 rfl ?_ | refine sel_cons 9 rfl ?_ | refine sel_cons 10 rfl ?_ | refine sel_cons 11 rfl ?_ | refine sel_cons 12 rfl ?_ | refine sel_cons 13 rfl ?_)))⟩
        | refine qbody_cell_tmp 3 rfl st_G rfl rfl rfl rfl ⟨_, ⟨gv, P, true, v2, v3, rfl, rfl⟩, fun w' hw => (by have h := hw; exact Cl.ofSel (by assumption) (by repeat (first | exact sel_nil | refine sel_cons 0 rfl ?_ | refine sel_cons 1 rfl ?_ | refine sel_cons 2 rfl ?_ | refine sel_cons 3 rfl ?_ | refine sel_cons 4 rfl ?_ | refine sel_cons 5 rfl ?_ | refine sel_cons 6 rfl ?_ | refine sel_cons 7 rfl ?_ | refine sel_cons 8 rfl ?_ | refine sel_cons 9 rfl ?_ | refine sel_cons 10 rfl ?_ | refine sel_cons 11 rfl ?_ | refine sel_cons 12 rfl ?_ | refine sel_cons 13 rfl ?_)))⟩
def GrQ (cv : Value) (l : List Int) (cb : Nat) (n : Int) (v : Value) (new : List Ob) : Prop := ∃ gv P i h, (SymP P ∧ IrrP P) ∧ storable gv = true ∧ v = .agg #[.int .i64 n, gv] ∧ (0 ≤ i ∧ i ≤ (l.length : Int)) ∧ new = [.row 3 gv (ints (gRows n.toNat P)), .blk cb (cells3 cv i h)]
theorem s_l2Random_i (cv : Value) (l : List Int) (cb : Nat) (i h odd : Int) (n : Int) (w : World) (hcp : CodeP w cv l) (hi : 0 ≤ i ∧ i ≤ (l.length : Int)) (ho : Own w [.blk cb (cells3 cv i h)]) (hn : 1 ≤ n ∧ n ≤ 7) :
    GivesU Try.prog 75 #[.pointer (some ⟨cb, 0, none⟩), .int .i64 n, .int .i64 odd] w [.blk cb (cells3 cv i h)] (fun v new => GrQ cv l cb n v new) := by
  obtain ⟨m, rfl⟩ : ∃ m : Nat, n = (m : Int) := ⟨n.toNat, by omega⟩
  exact s_l2Random_c cv l cb i h odd m w hcp hi ho (by omega) (by omega)
theorem s_NamedGraph_i (nm : ByteArray) (n : Int) (w : World) (hnm : nm ∈ names5) (hn : 1 ≤ n ∧ n ≤ 7) :
    Gives Try.prog 59 #[.string nm, .int .i64 n] w (fun v objs => ∃ gv P bb, (SymP P ∧ IrrP P) ∧ storable gv = true ∧ v = .tuple #[.agg #[.int .i64 n, gv], .bool bb] ∧ objs = [.row 3 gv (ints (gRows n.toNat P))]) := by
  obtain ⟨m, rfl⟩ : ∃ m : Nat, n = (m : Int) := ⟨n.toNat, by omega⟩
  exact s_NamedGraph_c nm m w hnm (by omega) (by omega)
theorem s_AddEdge_i (n : Int) (gv : Value) (P : Nat → Nat → Bool) (v u : Int) (w : World) (hr : Arr w gv (ints (gRows n.toNat P))) (hn : 1 ≤ n ∧ n ≤ 7) (hs : SymP P ∧ IrrP P) (hv : 0 ≤ v ∧ v < n) (hu : 0 ≤ u ∧ u < n) :
    Gives Try.prog 61 #[.agg #[.int .i64 n, gv], .int .i64 v, .int .i64 u] w (fun x objs => ∃ sv' bb P', (SymP P' ∧ IrrP P') ∧ storable sv' = true ∧ x = .tuple #[.agg #[.int .i64 n, sv'], .bool bb] ∧ objs = [.row 3 sv' (ints (gRows n.toNat P'))]) := by
  obtain ⟨m, rfl⟩ : ∃ m : Nat, n = (m : Int) := ⟨n.toNat, by omega⟩
  exact s_AddEdge4_c m gv P v u w hr (by omega) (by omega) hs.1 hs.2 hv hu
theorem en_s_l2Draw : Entry Try.prog 71 := ⟨_, Try.func71, by kernel_rfl, rfl⟩
set_option maxRecDepth 100000 in
set_option maxHeartbeats 3200000 in
theorem s_l2Draw_c (cv : Value) (l : List Int) (cb : Nat) (i h : Int) (w : World) (hcp : CodeP w cv l) (hi : 0 ≤ i ∧ i ≤ (l.length : Int)) (ho : Own w [.blk cb (cells3 cv i h)]) :
    GivesU Try.prog 71 #[.pointer (some ⟨cb, 0, none⟩)] w [.blk cb (cells3 cv i h)] (fun v new => ∃ n : Int, (1 ≤ n ∧ n ≤ 6) ∧ GrQ cv l cb n v new) := by
  have hap := code_apart hcp ho
  refine givesU_enterX (X := [cb]) (args := [_]) rfl ho en_s_l2Draw Try.func71 rfl Try.ntmps71 rfl ?_
  repeat' (first | apply pwp_seq | apply pwp_region | (apply px_run; (first | (apply opv_move; first | exact hid_int rfl | exact hid_ptr rfl | rfl) | (apply opv_assign; first | exact hid_int rfl | exact hid_bool rfl) | (apply opv_eql <;> rfl) | (apply opv_add_in; rfl; rfl; omega) | (apply opv_load_str 1 st_G; rfl; rfl; rfl) | (apply opv_load_str 2 st_G; rfl; rfl; rfl) | (apply opv_extract; rfl; rfl)); rfl; rfl) | apply px_nil | apply qseq_normal | apply qseq_ret | apply pwp_block | apply qblock_normal | apply qblock_ret | apply pwp_skip | apply pwp_ret | (apply pwp_cond_dec; rfl; all_goals (intro hc; try (first | fail))) | (apply pwp_cond; rfl; all_goals (intro hc; try (first | fail))) | (apply px_givesV [1]; rfl; rfl; rfl; rfl; rfl; (exact fun w' hw ho' => s_l1Below_c cv l cb _ _ 6 w' (hcp.at hap hw) (by assumption) ho'); rintro _ _ ⟨x0, hx0, rfl, ⟨ci, ch, hi, rfl⟩⟩) | (apply px_givesV [0]; rfl; rfl; rfl; rfl; rfl; (exact fun w' hw ho' => s_l1Below_c cv l cb _ _ _ w' (hcp.at hap hw) (by assumption) ho'); rintro _ _ ⟨x, hx, rfl, ⟨ci, ch, hi, rfl⟩⟩) | (apply px_givesV [2]; rfl; rfl; rfl; rfl; rfl; (exact fun w' hw ho' => s_l1Below_c cv l cb _ _ _ w' (hcp.at hap hw) (by assumption) ho'); rintro _ _ ⟨x, hx, rfl, ⟨ci, ch, hi, rfl⟩⟩) | (apply px_givesV [0]; rfl; rfl; rfl; rfl; rfl; (exact fun w' hw ho' => s_l1Once_c cv l cb _ _ _ w' (hcp.at hap hw) (by assumption) ho'); rintro _ _ ⟨b, rfl, ⟨ci, ch, hi, rfl⟩⟩) | (apply px_givesV [1]; rfl; rfl; rfl; rfl; rfl; (exact fun w' hw ho' => s_l1Pick_c cv _ l names5 cb _ _ w' (hcp.at hap hw) (by assumption) ho' (hw.rowArr (k := 0) rfl) (hw.rowNe 0 0 rfl rfl) (by decide)); rintro _ _ ⟨nm, hnm, rfl, ⟨ci, ch, hi, rfl⟩⟩) | (apply px_givesV [0]; rfl; rfl; rfl; rfl; rfl; (exact fun w' hw ho' => s_l2Random_i cv l cb _ _ _ _ w' (hcp.at hap hw) (by assumption) ho' (by omega)); rintro _ _ ⟨gr, Pr, ri, rh, hPr, hgr, rfl, hri, rfl⟩) | (apply px_lit5 ez_strD; rfl; rfl; rfl; rfl; rfl; rfl; rfl; rfl; rfl; rfl; rfl; rfl; rfl; intro sv) | (apply px_alloc st_G; rfl; rfl; rfl; intro bk) | (apply px_store_str 0 st_G; rfl; rfl; rfl; rfl; rfl; (intro w hw; (first | refine all2 rfl ?_ ?_) <;> (first | rfl | assumption)); rfl) | (apply px_store_str 2 st_G; rfl; rfl; rfl; rfl; rfl; (intro w hw; (first | refine all2 rfl ?_ ?_) <;> (first | rfl | assumption)); rfl) | (apply px_store_str 4 st_G; rfl; rfl; rfl; rfl; rfl; (intro w hw; (first | refine all2 rfl ?_ ?_) <;> (first | rfl | assumption)); rfl) | (apply px_store_str 5 st_G; rfl; rfl; rfl; rfl; rfl; (intro w hw; (first | refine all2 rfl ?_ ?_) <;> (first | rfl | assumption)); rfl) | (apply px_gives; rfl; rfl; rfl; rfl; rfl; exact fun w hw => s_NamedGraph_i _ _ _ (by assumption) (by omega); rintro _ _ ⟨ga, Pa, ba, hPa, hga, rfl, rfl⟩) | (apply px_gives; rfl; rfl; rfl; rfl; rfl; exact fun w hw => s_AddEdge_i _ _ Pa _ _ _ (by first | exact hw.rowArr (k := 2) rfl) (by omega) hPa (by omega) (by omega); rintro _ _ ⟨gb, bb, Pb, hPb, hgb, rfl, rfl⟩))
  all_goals first
    | refine qbody_cell 0 rfl st_G rfl rfl rfl ⟨_, ⟨1 + x0, by omega, gb, Pb, ci, ch, hPb, hgb, rfl, by assumption, rfl⟩, fun w' hw => (by have h := hw; exact Cl.ofSel (by assumption) (by repeat (first | exact sel_nil | refine sel_cons 0 rfl ?_ | refine sel_cons 1 rfl ?_ | refine sel_cons 2 rfl ?_ | refine sel_cons 3 rfl ?_ | refine sel_cons 4 rfl ?_ | refine sel_cons 5 rfl ?_ | refine sel_cons 6 rfl ?_ | refine sel_cons 7 rfl ?_ | refine sel_cons 8 rfl ?_ | refine sel_cons 9 rfl ?_ | refine sel_cons 10 rfl ?_ | refine sel_cons 11 rfl ?_ | refine sel_cons 12 rfl ?_ | refine sel_cons 13 rfl ?_)))⟩
    | refine qbody_cell 0 rfl st_G rfl rfl rfl ⟨_, ⟨1 + x0, by omega, ga, Pa, ci, ch, hPa, hga, rfl, by assumption, rfl⟩, fun w' hw => (by have h := hw; exact Cl.ofSel (by assumption) (by repeat (first | exact sel_nil | refine sel_cons 0 rfl ?_ | refine sel_cons 1 rfl ?_ | refine sel_cons 2 rfl ?_ | refine sel_cons 3 rfl ?_ | refine sel_cons 4 rfl ?_ | refine sel_cons 5 rfl ?_ | refine sel_cons 6 rfl ?_ | refine sel_cons 7 rfl ?_ | refine sel_cons 8 rfl ?_ | refine sel_cons 9 rfl ?_ | refine sel_cons 10 rfl ?_ | refine sel_cons 11 rfl ?_ | refine sel_cons 12 rfl ?_ | refine sel_cons 13 rfl ?_)))⟩
    | refine qbody_cell 0 rfl st_G rfl rfl rfl ⟨_, ⟨1 + x0, by omega, gr, Pr, ri, rh, hPr, hgr, rfl, hri, rfl⟩, fun w' hw => (by have h := hw; exact Cl.ofSel (by assumption) (by repeat (first | exact sel_nil | refine sel_cons 0 rfl ?_ | refine sel_cons 1 rfl ?_ | refine sel_cons 2 rfl ?_ | refine sel_cons 3 rfl ?_ | refine sel_cons 4 rfl ?_ | refine sel_cons 5 rfl ?_ | refine sel_cons 6 rfl ?_ | refine sel_cons 7 rfl ?_ | refine sel_cons 8 rfl ?_ | refine sel_cons 9 rfl ?_ | refine sel_cons 10 rfl ?_ | refine sel_cons 11 rfl ?_ | refine sel_cons 12 rfl ?_ | refine sel_cons 13 rfl ?_)))⟩
    | refine qbody_cell 1 rfl st_G rfl rfl rfl ⟨_, ⟨1 + x0, by omega, gb, Pb, ci, ch, hPb, hgb, rfl, by assumption, rfl⟩, fun w' hw => (by have h := hw; exact Cl.ofSel (by assumption) (by repeat (first | exact sel_nil | refine sel_cons 0 rfl ?_ | refine sel_cons 1 rfl ?_ | refine sel_cons 2 rfl ?_ | refine sel_cons 3 rfl ?_ | refine sel_cons 4 rfl ?_ | refine sel_cons 5 rfl ?_ | refine sel_cons 6 rfl ?_ | refine sel_cons 7 rfl ?_ | refine sel_cons 8 rfl ?_ | refine sel_cons 9 rfl ?_ | refine sel_cons 10 rfl ?_ | refine sel_cons 11 rfl ?_ | refine sel_cons 12 rfl ?_ | refine sel_cons 13 rfl ?_)))⟩
    | refine qbody_cell 1 rfl st_G rfl rfl rfl ⟨_, ⟨1 + x0, by omega, ga, Pa, ci, ch, hPa, hga, rfl, by assumption, rfl⟩, fun w' hw => (by have h := hw; exact Cl.ofSel (by assumption) (by repeat (first | exact sel_nil | refine sel_cons 0 rfl ?_ | refine sel_cons 1 rfl ?_ | refine sel_cons 2 rfl ?_ | refine sel_cons 3 rfl ?_ | refine sel_cons 4 rfl ?_ | refine sel_cons 5 rfl ?_ | refine sel_cons 6 rfl ?_ | refine sel_cons 7 rfl ?_ | refine sel_cons 8 rfl ?_ | refine sel_cons 9 rfl ?_ | refine sel_cons 10 rfl ?_ | refine sel_cons 11 rfl ?_ | refine sel_cons 12 rfl ?_ | refine sel_cons 13 rfl ?_)))⟩
    | refine qbody_cell 1 rfl st_G rfl rfl rfl ⟨_, ⟨1 + x0, by omega, gr, Pr, ri, rh, hPr, hgr, rfl, hri, rfl⟩, fun w' hw => (by have h := hw; exact Cl.ofSel (by assumption) (by repeat (first | exact sel_nil | refine sel_cons 0 rfl ?_ | refine sel_cons 1 rfl ?_ | refine sel_cons 2 rfl ?_ | refine sel_cons 3 rfl ?_ | refine sel_cons 4 rfl ?_ | refine sel_cons 5 rfl ?_ | refine sel_cons 6 rfl ?_ | refine sel_cons 7 rfl ?_ | refine sel_cons 8 rfl ?_ | refine sel_cons 9 rfl ?_ | refine sel_cons 10 rfl ?_ | refine sel_cons 11 rfl ?_ | refine sel_cons 12 rfl ?_ | refine sel_cons 13 rfl ?_)))⟩
    | refine qbody_cell 2 rfl st_G rfl rfl rfl ⟨_, ⟨1 + x0, by omega, gb, Pb, ci, ch, hPb, hgb, rfl, by assumption, rfl⟩, fun w' hw => (by have h := hw; exact Cl.ofSel (by assumption) (by repeat (first | exact sel_nil | refine sel_cons 0 rfl ?_ | refine sel_cons 1 rfl ?_ | refine sel_cons 2 rfl ?_ | refine sel_cons 3 rfl ?_ | refine sel_cons 4 rfl ?_ | refine sel_cons 5 rfl ?_ | refine sel_cons 6 rfl ?_ | refine sel_cons 7 rfl ?_ | refine sel_cons 8 rfl ?_ | refine sel_cons 9 rfl ?_ | refine sel_cons 10 rfl ?_ | refine sel_cons 11 rfl ?_ | refine sel_cons 12 rfl ?_ | refine sel_cons 13 rfl ?_)))⟩
    | refine qbody_cell 2 rfl st_G rfl rfl rfl ⟨_, ⟨1 + x0, by omega, ga, Pa, ci, ch, hPa, hga, rfl, by assumption, rfl⟩, fun w' hw => (by have h := hw; exact Cl.ofSel (by assumption) (by repeat (first | exact sel_nil | refine sel_cons 0 rfl ?_ | refine sel_cons 1 rfl ?_ | refine sel_cons 2 rfl ?_ | refine sel_cons 3 rfl ?_ | refine sel_cons 4 rfl ?_ | refine sel_cons 5 rfl ?_ | refine sel_cons 6 rfl ?_ | refine sel_cons 7 rfl ?_ | refine sel_cons 8 rfl ?_ | refine sel_cons 9 rfl ?_ | refine sel_cons 10 rfl ?_ | refine sel_cons 11 rfl ?_ | refine sel_cons 12 rfl ?_ | refine sel_cons 13 rfl ?_)))⟩
    | refine qbody_cell 2 rfl st_G rfl rfl rfl ⟨_, ⟨1 + x0, by omega, gr, Pr, ri, rh, hPr, hgr, rfl, hri, rfl⟩, fun w' hw => (by have h := hw; exact Cl.ofSel (by assumption) (by repeat (first | exact sel_nil | refine sel_cons 0 rfl ?_ | refine sel_cons 1 rfl ?_ | refine sel_cons 2 rfl ?_ | refine sel_cons 3 rfl ?_ | refine sel_cons 4 rfl ?_ | refine sel_cons 5 rfl ?_ | refine sel_cons 6 rfl ?_ | refine sel_cons 7 rfl ?_ | refine sel_cons 8 rfl ?_ | refine sel_cons 9 rfl ?_ | refine sel_cons 10 rfl ?_ | refine sel_cons 11 rfl ?_ | refine sel_cons 12 rfl ?_ | refine sel_cons 13 rfl ?_)))⟩
    | refine qbody_cell 3 rfl st_G rfl rfl rfl ⟨_, ⟨1 + x0, by omega, gb, Pb, ci, ch, hPb, hgb, rfl, by assumption, rfl⟩, fun w' hw => (by have h := hw; exact Cl.ofSel (by assumption) (by repeat (first | exact sel_nil | refine sel_cons 0 rfl ?_ | refine sel_cons 1 rfl ?_ | refine sel_cons 2 rfl ?_ | refine sel_cons 3 rfl ?_ | refine sel_cons 4 rfl ?_ | refine sel_cons 5 rfl ?_ | refine sel_cons 6 rfl ?_ | refine sel_cons 7 rfl ?_ | refine sel_cons 8 rfl ?_ | refine sel_cons 9 rfl ?_ | refine sel_cons 10 rfl ?_ | refine sel_cons 11 rfl ?_ | refine sel_cons 12 rfl ?_ | refine sel_cons 13 rfl ?_)))⟩
    | refine qbody_cell 3 rfl st_G rfl rfl rfl ⟨_, ⟨1 + x0, by omega, ga, Pa, ci, ch, hPa, hga, rfl, by assumption, rfl⟩, fun w' hw => (by have h := hw; exact Cl.ofSel (by assumption) (by repeat (first | exact sel_nil | refine sel_cons 0 rfl ?_ | refine sel_cons 1 rfl ?_ | refine sel_cons 2 rfl ?_ | refine sel_cons 3 rfl ?_ | refine sel_cons 4 rfl ?_ | refine sel_cons 5 rfl ?_ | refine sel_cons 6 rfl ?_ | refine sel_cons 7 rfl ?_ | refine sel_cons 8 rfl ?_ | refine sel_cons 9 rfl ?_ | refine sel_cons 10 rfl ?_ | refine sel_cons 11 rfl ?_ | refine sel_cons 12 rfl ?_ | refine sel_cons 13 rfl ?_)))⟩
    | refine qbody_cell 3 rfl st_G rfl rfl rfl ⟨_, ⟨1 + x0, by omega, gr, Pr, ri, rh, hPr, hgr, rfl, hri, rfl⟩, fun w' hw => (by have h := hw; exact Cl.ofSel (by assumption) (by repeat (first | exact sel_nil | refine sel_cons 0 rfl ?_ | refine sel_cons 1 rfl ?_ | refine sel_cons 2 rfl ?_ | refine sel_cons 3 rfl ?_ | refine sel_cons 4 rfl ?_ | refine sel_cons 5 rfl ?_ | refine sel_cons 6 rfl ?_ | refine sel_cons 7 rfl ?_ | refine sel_cons 8 rfl ?_ | refine sel_cons 9 rfl ?_ | refine sel_cons 10 rfl ?_ | refine sel_cons 11 rfl ?_ | refine sel_cons 12 rfl ?_ | refine sel_cons 13 rfl ?_)))⟩
    | refine qbody_cell 4 rfl st_G rfl rfl rfl ⟨_, ⟨1 + x0, by omega, gb, Pb, ci, ch, hPb, hgb, rfl, by assumption, rfl⟩, fun w' hw => (by have h := hw; exact Cl.ofSel (by assumption) (by repeat (first | exact sel_nil | refine sel_cons 0 rfl ?_ | refine sel_cons 1 rfl ?_ | refine sel_cons 2 rfl ?_ | refine sel_cons 3 rfl ?_ | refine sel_cons 4 rfl ?_ | refine sel_cons 5 rfl ?_ | refine sel_cons 6 rfl ?_ | refine sel_cons 7 rfl ?_ | refine sel_cons 8 rfl ?_ | refine sel_cons 9 rfl ?_ | refine sel_cons 10 rfl ?_ | refine sel_cons 11 rfl ?_ | refine sel_cons 12 rfl ?_ | refine sel_cons 13 rfl ?_)))⟩
    | refine qbody_cell 4 rfl st_G rfl rfl rfl ⟨_, ⟨1 + x0, by omega, ga, Pa, ci, ch, hPa, hga, rfl, by assumption, rfl⟩, fun w' hw => (by have h := hw; exact Cl.ofSel (by assumption) (by repeat (first | exact sel_nil | refine sel_cons 0 rfl ?_ | refine sel_cons 1 rfl ?_ | refine sel_cons 2 rfl ?_ | refine sel_cons 3 rfl ?_ | refine sel_cons 4 rfl ?_ | refine sel_cons 5 rfl ?_ | refine sel_cons 6 rfl ?_ | refine sel_cons 7 rfl ?_ | refine sel_cons 8 rfl ?_ | refine sel_cons 9 rfl ?_ | refine sel_cons 10 rfl ?_ | refine sel_cons 11 rfl ?_ | refine sel_cons 12 rfl ?_ | refine sel_cons 13 rfl ?_)))⟩
    | refine qbody_cell 4 rfl st_G rfl rfl rfl ⟨_, ⟨1 + x0, by omega, gr, Pr, ri, rh, hPr, hgr, rfl, hri, rfl⟩, fun w' hw => (by have h := hw; exact Cl.ofSel (by assumption) (by repeat (first | exact sel_nil | refine sel_cons 0 rfl ?_ | refine sel_cons 1 rfl ?_ | refine sel_cons 2 rfl ?_ | refine sel_cons 3 rfl ?_ | refine sel_cons 4 rfl ?_ | refine sel_cons 5 rfl ?_ | refine sel_cons 6 rfl ?_ | refine sel_cons 7 rfl ?_ | refine sel_cons 8 rfl ?_ | refine sel_cons 9 rfl ?_ | refine sel_cons 10 rfl ?_ | refine sel_cons 11 rfl ?_ | refine sel_cons 12 rfl ?_ | refine sel_cons 13 rfl ?_)))⟩
    | refine qbody_cell 5 rfl st_G rfl rfl rfl ⟨_, ⟨1 + x0, by omega, gb, Pb, ci, ch, hPb, hgb, rfl, by assumption, rfl⟩, fun w' hw => (by have h := hw; exact Cl.ofSel (by assumption) (by repeat (first | exact sel_nil | refine sel_cons 0 rfl ?_ | refine sel_cons 1 rfl ?_ | refine sel_cons 2 rfl ?_ | refine sel_cons 3 rfl ?_ | refine sel_cons 4 rfl ?_ | refine sel_cons 5 rfl ?_ | refine sel_cons 6 rfl ?_ | refine sel_cons 7 rfl ?_ | refine sel_cons 8 rfl ?_ | refine sel_cons 9 rfl ?_ | refine sel_cons 10 rfl ?_ | refine sel_cons 11 rfl ?_ | refine sel_cons 12 rfl ?_ | refine sel_cons 13 rfl ?_)))⟩
    | refine qbody_cell 5 rfl st_G rfl rfl rfl ⟨_, ⟨1 + x0, by omega, ga, Pa, ci, ch, hPa, hga, rfl, by assumption, rfl⟩, fun w' hw => (by have h := hw; exact Cl.ofSel (by assumption) (by repeat (first | exact sel_nil | refine sel_cons 0 rfl ?_ | refine sel_cons 1 rfl ?_ | refine sel_cons 2 rfl ?_ | refine sel_cons 3 rfl ?_ | refine sel_cons 4 rfl ?_ | refine sel_cons 5 rfl ?_ | refine sel_cons 6 rfl ?_ | refine sel_cons 7 rfl ?_ | refine sel_cons 8 rfl ?_ | refine sel_cons 9 rfl ?_ | refine sel_cons 10 rfl ?_ | refine sel_cons 11 rfl ?_ | refine sel_cons 12 rfl ?_ | refine sel_cons 13 rfl ?_)))⟩
    | refine qbody_cell 5 rfl st_G rfl rfl rfl ⟨_, ⟨1 + x0, by omega, gr, Pr, ri, rh, hPr, hgr, rfl, hri, rfl⟩, fun w' hw => (by have h := hw; exact Cl.ofSel (by assumption) (by repeat (first | exact sel_nil | refine sel_cons 0 rfl ?_ | refine sel_cons 1 rfl ?_ | refine sel_cons 2 rfl ?_ | refine sel_cons 3 rfl ?_ | refine sel_cons 4 rfl ?_ | refine sel_cons 5 rfl ?_ | refine sel_cons 6 rfl ?_ | refine sel_cons 7 rfl ?_ | refine sel_cons 8 rfl ?_ | refine sel_cons 9 rfl ?_ | refine sel_cons 10 rfl ?_ | refine sel_cons 11 rfl ?_ | refine sel_cons 12 rfl ?_ | refine sel_cons 13 rfl ?_)))⟩
    | refine qbody_cell 6 rfl st_G rfl rfl rfl ⟨_, ⟨1 + x0, by omega, gb, Pb, ci, ch, hPb, hgb, rfl, by assumption, rfl⟩, fun w' hw => (by have h := hw; exact Cl.ofSel (by assumption) (by repeat (first | exact sel_nil | refine sel_cons 0 rfl ?_ | refine sel_cons 1 rfl ?_ | refine sel_cons 2 rfl ?_ | refine sel_cons 3 rfl ?_ | refine sel_cons 4 rfl ?_ | refine sel_cons 5 rfl ?_ | refine sel_cons 6 rfl ?_ | refine sel_cons 7 rfl ?_ | refine sel_cons 8 rfl ?_ | refine sel_cons 9 rfl ?_ | refine sel_cons 10 rfl ?_ | refine sel_cons 11 rfl ?_ | refine sel_cons 12 rfl ?_ | refine sel_cons 13 rfl ?_)))⟩
    | refine qbody_cell 6 rfl st_G rfl rfl rfl ⟨_, ⟨1 + x0, by omega, ga, Pa, ci, ch, hPa, hga, rfl, by assumption, rfl⟩, fun w' hw => (by have h := hw; exact Cl.ofSel (by assumption) (by repeat (first | exact sel_nil | refine sel_cons 0 rfl ?_ | refine sel_cons 1 rfl ?_ | refine sel_cons 2 rfl ?_ | refine sel_cons 3 rfl ?_ | refine sel_cons 4 rfl ?_ | refine sel_cons 5 rfl ?_ | refine sel_cons 6 rfl ?_ | refine sel_cons 7 rfl ?_ | refine sel_cons 8 rfl ?_ | refine sel_cons 9 rfl ?_ | refine sel_cons 10 rfl ?_ | refine sel_cons 11 rfl ?_ | refine sel_cons 12 rfl ?_ | refine sel_cons 13 rfl ?_)))⟩
    | refine qbody_cell 6 rfl st_G rfl rfl rfl ⟨_, ⟨1 + x0, by omega, gr, Pr, ri, rh, hPr, hgr, rfl, hri, rfl⟩, fun w' hw => (by have h := hw; exact Cl.ofSel (by assumption) (by repeat (first | exact sel_nil | refine sel_cons 0 rfl ?_ | refine sel_cons 1 rfl ?_ | refine sel_cons 2 rfl ?_ | refine sel_cons 3 rfl ?_ | refine sel_cons 4 rfl ?_ | refine sel_cons 5 rfl ?_ | refine sel_cons 6 rfl ?_ | refine sel_cons 7 rfl ?_ | refine sel_cons 8 rfl ?_ | refine sel_cons 9 rfl ?_ | refine sel_cons 10 rfl ?_ | refine sel_cons 11 rfl ?_ | refine sel_cons 12 rfl ?_ | refine sel_cons 13 rfl ?_)))⟩
end Go.Proofs.Ytkbjcfabbapnpaa
/- Draws: any graph, a set, and what the laws of modules draw. -/
namespace Go.Proofs.Ytkbjcfabbapnpaa
open Go Go.RowKit Go.Pw
/-- Some graph, not always a good one, beside the cursor. -/
def AnyG (cv : Value) (l : List Int) (cb : Nat) (v : Value) (new : List Ob) : Prop := ∃ n gv rows i h, (-1 ≤ n ∧ n ≤ 8) ∧ (1 ≤ rows.length ∧ rows.length ≤ 7) ∧ storable gv = true ∧ v = .agg #[.int .i64 n, gv] ∧ (0 ≤ i ∧ i ≤ (l.length : Int)) ∧ new = [.row 3 gv (ints rows), .blk cb (cells3 cv i h)]
theorem en_s_l2Any : Entry Try.prog 58 := ⟨_, Try.func58, by kernel_rfl, rfl⟩
set_option maxRecDepth 100000 in
set_option maxHeartbeats 3200000 in
theorem s_l2Any_c (cv : Value) (l : List Int) (cb : Nat) (i h : Int) (w : World) (hcp : CodeP w cv l) (hi : 0 ≤ i ∧ i ≤ (l.length : Int)) (ho : Own w [.blk cb (cells3 cv i h)]) :
    GivesU Try.prog 58 #[.pointer (some ⟨cb, 0, none⟩)] w [.blk cb (cells3 cv i h)] (fun v new => AnyG cv l cb v new) := by
  have hap := code_apart hcp ho
  refine givesU_enterX (X := [cb]) (args := [_]) rfl ho en_s_l2Any Try.func58 rfl Try.ntmps58 rfl ?_
  have hm4 : ∀ y ∈ [(0 : Int), -1, 8, 3], -1 ≤ y ∧ y ≤ 8 := by decide
  have hlenG : ∀ (n : Int) (P : Rel), 1 ≤ n ∧ n ≤ 6 → 1 ≤ (gRows n.toNat P).length ∧ (gRows n.toNat P).length ≤ 7 := fun n P hn => by rw [gRows_length]; omega
  repeat' (first | apply pwp_seq | apply pwp_region | (apply px_run; (first | (apply opv_move; first | exact hid_ptr rfl) | (apply opv_assign; first | exact hid_bool rfl) | (apply opv_eql <;> rfl) | (apply opv_field fld_G0; rfl) | (apply opv_field fld_G1; rfl) | (apply opv_load_blk 0; (first | with_reducible exact sc_ints); rfl; rfl; rfl) | (apply opv_index_nat (vs := ints _) el_int; rfl; rfl; (first | exact rd_row 3 rfl); (first | (simp [ints]; omega))) | (apply opv_load_str 1 st_G; rfl; rfl; rfl) | (apply opv_load_str 2 st_G; rfl; rfl; rfl)); rfl; rfl) | apply px_nil | apply qseq_normal | apply pwp_block | apply qblock_normal | apply pwp_skip | apply pwp_ret | (apply pwp_region_any [0, 1, 2] [6] 4 (Cl [cb] w [.blk _ [.int .i64 n, gv], .row _ gv (ints (gRows n.toNat P))]); kernel_rfl; decide +kernel; exact Cl.stable _ _ _; exact fun w h => h.sub (by repeat (first | apply List.Sublist.cons_cons | exact List.sublist_append_left _ _ | apply List.Sublist.cons))) | apply qlooks_normal | (apply qstep_out; decide +kernel) | (apply qstep_in; exact fun w h => h.sub (by repeat (first | apply List.Sublist.cons_cons | exact List.sublist_append_left _ _ | apply List.Sublist.cons))) | (apply pxa_nil; decide +kernel) | (apply pxa_one 3; decide +kernel; rfl) | (apply pxa_one 4; decide +kernel; rfl) | (apply pxa_one 5; decide +kernel; rfl) | (apply pxa_one 6; decide +kernel; rfl) | (apply pwp_cond_dec; rfl; all_goals (intro hc; try (first | fail))) | (apply px_givesV [1]; rfl; rfl; rfl; rfl; rfl; (exact fun w' hw ho' => s_l2Draw_c cv l cb _ _ w' (hcp.at hap hw) (by assumption) ho'); rintro _ _ ⟨n, hn, gv, P, ci, ch, hP, hgv, rfl, hi, rfl⟩) | (apply px_givesV [2]; rfl; rfl; rfl; rfl; rfl; (exact fun w' hw ho' => s_l1Below_c cv l cb _ _ _ w' (hcp.at hap hw) (by assumption) ho'); rintro _ _ ⟨x, hx, rfl, ⟨ci, ch, hi, rfl⟩⟩) | (apply px_givesV [1]; rfl; rfl; rfl; rfl; rfl; (exact fun w' hw ho' => s_l1PickInt_c cv _ l [0, -1, 8, 3] cb _ _ w' (hcp.at hap hw) (by assumption) ho' (hw.rowArr (k := 0) rfl) (hw.rowNe 0 0 rfl rfl) (by decide)); rintro _ _ ⟨y, hy, rfl, ⟨ci, ch, hi, rfl⟩⟩) | (apply px_givesV [1]; rfl; rfl; rfl; rfl; rfl; (exact fun w' hw ho' => s_l1PickInt_c cv _ l [-1, 1, 2, 128, 9223372036854775807] cb _ _ w' (hcp.at hap hw) (by assumption) ho' (hw.rowArr (k := 0) rfl) (hw.rowNe 0 0 rfl rfl) (by decide)); rintro _ _ ⟨y, hy, rfl, ⟨ci, ch, hi, rfl⟩⟩) | (apply px_lit4 ez_int; rfl; (intro w hw; rfl); rfl; (intro w hw; rfl); rfl; (intro w hw; rfl); rfl; (intro w hw; rfl); rfl; rfl; rfl; intro sv) | (apply px_lit5 ez_int; rfl; rfl; rfl; rfl; rfl; rfl; rfl; rfl; rfl; rfl; rfl; rfl; rfl; intro sv) | (apply px_alloc st_G; rfl; rfl; rfl; intro bk) | (apply px_store_str 0 st_G; rfl; rfl; rfl; rfl; rfl; (intro w hw; (first | refine all2 rfl ?_ ?_) <;> (first | rfl | assumption)); rfl) | (apply px_store_str 3 st_G; rfl; rfl; rfl; rfl; rfl; (intro w hw; (first | refine all2 rfl ?_ ?_) <;> (first | rfl | assumption)); rfl) | (apply px_store_str 4 st_G; rfl; rfl; rfl; rfl; rfl; (intro w hw; (first | refine all2 rfl ?_ ?_) <;> (first | rfl | assumption)); rfl) | (apply px_store_blk 2; (first | with_reducible exact co_int); rfl; rfl; rfl; (intro w hw; (first | rfl)); rfl; rfl) | (apply px_store_int 3 co_int; rfl; rfl; rfl; (first | (simp; omega)); rfl))
  all_goals first
    | (refine qbody_cell 0 rfl st_G rfl rfl rfl ⟨_, ⟨_, gv, _, ci, ch, ?_, ?_, hgv, rfl, hi, rfl⟩, fun w' hw => (by have h := hw; exact Cl.ofSel (by assumption) (by repeat (first | exact sel_nil | refine sel_cons 0 rfl ?_ | refine sel_cons 1 rfl ?_ | refine sel_cons 2 rfl ?_ | refine sel_cons 3 rfl ?_ | refine sel_cons 4 rfl ?_ | refine sel_cons 5 rfl ?_ | refine sel_cons 6 rfl ?_ | refine sel_cons 7 rfl ?_ | refine sel_cons 8 rfl ?_ | refine sel_cons 9 rfl ?_ | refine sel_cons 10 rfl ?_ | refine sel_cons 11 rfl ?_ | refine sel_cons 12 rfl ?_ | refine sel_cons 13 rfl ?_)))⟩
       · first | omega | exact hm4 _ hy
       · first | exact hlenG n P hn | (rw [List.length_set]; exact hlenG n P hn))
    | (refine qbody_cell 1 rfl st_G rfl rfl rfl ⟨_, ⟨_, gv, _, ci, ch, ?_, ?_, hgv, rfl, hi, rfl⟩, fun w' hw => (by have h := hw; exact Cl.ofSel (by assumption) (by repeat (first | exact sel_nil | refine sel_cons 0 rfl ?_ | refine sel_cons 1 rfl ?_ | refine sel_cons 2 rfl ?_ | refine sel_cons 3 rfl ?_ | refine sel_cons 4 rfl ?_ | refine sel_cons 5 rfl ?_ | refine sel_cons 6 rfl ?_ | refine sel_cons 7 rfl ?_ | refine sel_cons 8 rfl ?_ | refine sel_cons 9 rfl ?_ | refine sel_cons 10 rfl ?_ | refine sel_cons 11 rfl ?_ | refine sel_cons 12 rfl ?_ | refine sel_cons 13 rfl ?_)))⟩
       · first | omega | exact hm4 _ hy
       · first | exact hlenG n P hn | (rw [List.length_set]; exact hlenG n P hn))
    | (refine qbody_cell 2 rfl st_G rfl rfl rfl ⟨_, ⟨_, gv, _, ci, ch, ?_, ?_, hgv, rfl, hi, rfl⟩, fun w' hw => (by have h := hw; exact Cl.ofSel (by assumption) (by repeat (first | exact sel_nil | refine sel_cons 0 rfl ?_ | refine sel_cons 1 rfl ?_ | refine sel_cons 2 rfl ?_ | refine sel_cons 3 rfl ?_ | refine sel_cons 4 rfl ?_ | refine sel_cons 5 rfl ?_ | refine sel_cons 6 rfl ?_ | refine sel_cons 7 rfl ?_ | refine sel_cons 8 rfl ?_ | refine sel_cons 9 rfl ?_ | refine sel_cons 10 rfl ?_ | refine sel_cons 11 rfl ?_ | refine sel_cons 12 rfl ?_ | refine sel_cons 13 rfl ?_)))⟩
       · first | omega | exact hm4 _ hy
       · first | exact hlenG n P hn | (rw [List.length_set]; exact hlenG n P hn))
    | (refine qbody_cell 3 rfl st_G rfl rfl rfl ⟨_, ⟨_, gv, _, ci, ch, ?_, ?_, hgv, rfl, hi, rfl⟩, fun w' hw => (by have h := hw; exact Cl.ofSel (by assumption) (by repeat (first | exact sel_nil | refine sel_cons 0 rfl ?_ | refine sel_cons 1 rfl ?_ | refine sel_cons 2 rfl ?_ | refine sel_cons 3 rfl ?_ | refine sel_cons 4 rfl ?_ | refine sel_cons 5 rfl ?_ | refine sel_cons 6 rfl ?_ | refine sel_cons 7 rfl ?_ | refine sel_cons 8 rfl ?_ | refine sel_cons 9 rfl ?_ | refine sel_cons 10 rfl ?_ | refine sel_cons 11 rfl ?_ | refine sel_cons 12 rfl ?_ | refine sel_cons 13 rfl ?_)))⟩
       · first | omega | exact hm4 _ hy
       · first | exact hlenG n P hn | (rw [List.length_set]; exact hlenG n P hn))
    | (refine qbody_cell 4 rfl st_G rfl rfl rfl ⟨_, ⟨_, gv, _, ci, ch, ?_, ?_, hgv, rfl, hi, rfl⟩, fun w' hw => (by have h := hw; exact Cl.ofSel (by assumption) (by repeat (first | exact sel_nil | refine sel_cons 0 rfl ?_ | refine sel_cons 1 rfl ?_ | refine sel_cons 2 rfl ?_ | refine sel_cons 3 rfl ?_ | refine sel_cons 4 rfl ?_ | refine sel_cons 5 rfl ?_ | refine sel_cons 6 rfl ?_ | refine sel_cons 7 rfl ?_ | refine sel_cons 8 rfl ?_ | refine sel_cons 9 rfl ?_ | refine sel_cons 10 rfl ?_ | refine sel_cons 11 rfl ?_ | refine sel_cons 12 rfl ?_ | refine sel_cons 13 rfl ?_)))⟩
       · first | omega | exact hm4 _ hy
       · first | exact hlenG n P hn | (rw [List.length_set]; exact hlenG n P hn))
    | (refine qbody_cell 5 rfl st_G rfl rfl rfl ⟨_, ⟨_, gv, _, ci, ch, ?_, ?_, hgv, rfl, hi, rfl⟩, fun w' hw => (by have h := hw; exact Cl.ofSel (by assumption) (by repeat (first | exact sel_nil | refine sel_cons 0 rfl ?_ | refine sel_cons 1 rfl ?_ | refine sel_cons 2 rfl ?_ | refine sel_cons 3 rfl ?_ | refine sel_cons 4 rfl ?_ | refine sel_cons 5 rfl ?_ | refine sel_cons 6 rfl ?_ | refine sel_cons 7 rfl ?_ | refine sel_cons 8 rfl ?_ | refine sel_cons 9 rfl ?_ | refine sel_cons 10 rfl ?_ | refine sel_cons 11 rfl ?_ | refine sel_cons 12 rfl ?_ | refine sel_cons 13 rfl ?_)))⟩
       · first | omega | exact hm4 _ hy
       · first | exact hlenG n P hn | (rw [List.length_set]; exact hlenG n P hn))
    | (refine qbody_cell 6 rfl st_G rfl rfl rfl ⟨_, ⟨_, gv, _, ci, ch, ?_, ?_, hgv, rfl, hi, rfl⟩, fun w' hw => (by have h := hw; exact Cl.ofSel (by assumption) (by repeat (first | exact sel_nil | refine sel_cons 0 rfl ?_ | refine sel_cons 1 rfl ?_ | refine sel_cons 2 rfl ?_ | refine sel_cons 3 rfl ?_ | refine sel_cons 4 rfl ?_ | refine sel_cons 5 rfl ?_ | refine sel_cons 6 rfl ?_ | refine sel_cons 7 rfl ?_ | refine sel_cons 8 rfl ?_ | refine sel_cons 9 rfl ?_ | refine sel_cons 10 rfl ?_ | refine sel_cons 11 rfl ?_ | refine sel_cons 12 rfl ?_ | refine sel_cons 13 rfl ?_)))⟩
       · first | omega | exact hm4 _ hy
       · first | exact hlenG n P hn | (rw [List.length_set]; exact hlenG n P hn))
/-- Some graph that a draw hands back. -/
def DrG (n : Int) (gv : Value) (rows : List Int) : Prop := (-1 ≤ n ∧ n ≤ 8) ∧ (1 ≤ rows.length ∧ rows.length ≤ 7) ∧ storable gv = true
theorem nox {cv : Value} {l : List Int} : ∀ b off n c, cv = .slice (some ⟨b, off, none⟩) n c → b ∈ ([] : List Nat) → byts l = [] := fun _ _ _ _ _ h => absurd h List.not_mem_nil
end Go.Proofs.Ytkbjcfabbapnpaa
