/- Texts: digits, a cograph's tree as text. -/
import Derived.Test.YtoejpckfeflkaaaGreatDoorPwPcx
import Derived.WideShapes
import Derived.Laws.Strings
namespace Go.Pw
open Go Go.RowKit
def digI (x : Int) : ByteArray := ⟨#[UInt8.ofNat (48 + x).toNat]⟩
def digsB (l : List Int) : ByteArray := l.foldl (fun a x => a ++ digI x) ByteArray.empty
theorem digI_size (x : Int) : (digI x).size = 1 := rfl
theorem digsB_snoc (l : List Int) (x : Int) : digsB (l ++ [x]) = digsB l ++ digI x := by simp [digsB]
theorem size_cat (a b : ByteArray) : (a ++ b).size = a.size + b.size := ByteArray.size_append
theorem digsB_size (l : List Int) : (digsB l).size = l.length := by
  unfold digsB
  suffices h : ∀ (l : List Int) (a : ByteArray), (l.foldl (fun a x => a ++ digI x) a).size = a.size + l.length by
    have := h l ByteArray.empty
    simpa using this
  intro l
  induction l with
  | nil => intro a; rfl
  | cons x l ih => intro a; rw [List.foldl_cons, ih, size_cat, digI_size, List.length_cons]; omega
theorem digsB_take {l : List Int} {i : Nat} (h : i < l.length) : digsB (l.take (i + 1)) = digsB (l.take i) ++ digI (l.getD i 0) := by
  rw [← digsB_snoc]; congr 1
  rw [List.take_add_one, List.getElem?_eq_getElem h]; simp [List.getD, h]
theorem toList_len (a : ByteArray) : a.toList.length = a.size := by rw [ByteArray.toList_eq]; rfl
def fmtS (set : Int) : ByteArray := if set = 0 then ⟨#[45]⟩ else digsB (listS set)
theorem listS_b6 (s : Int) : ∀ x ∈ listS s, 0 ≤ x ∧ x ≤ 6 := fun x hx => by
  obtain ⟨_, v, rfl, hv, _⟩ := mem_listS.1 hx
  omega
theorem listS_nil (s : Int) : listS s = [] ↔ s = 0 ∨ ¬ (0 ≤ s ∧ s ≤ 127) := by
  by_cases h : 0 ≤ s ∧ s ≤ 127
  · obtain ⟨k, rfl⟩ : ∃ k : Nat, s = (k : Int) := ⟨s.toNat, by omega⟩
    have key : ∀ k : Nat, k < 128 → (listS (k : Int) = [] ↔ k = 0) := by decide +kernel
    have := key k (by omega)
    rw [this]; omega
  · have : listS s = [] := if_neg h
    simp [this, h]
def lparB : ByteArray := ⟨#[40, 43]⟩
def lmulB : ByteArray := ⟨#[40, 42]⟩
def rparB : ByteArray := ⟨#[41]⟩
def spB : ByteArray := ⟨#[32]⟩
def foldT (f : Nat → ByteArray) (L : List Nat) (a : ByteArray) : ByteArray := L.foldl (fun acc p => (acc ++ spB) ++ f p) a
theorem foldT_take {f : Nat → ByteArray} {L : List Nat} {i : Nat} (h : i < L.length) (a : ByteArray) : foldT f (L.take (i + 1)) a = (foldT f (L.take i) a ++ spB) ++ f (L.getD i 0) := by
  unfold foldT
  rw [List.take_add_one, List.getElem?_eq_getElem h, List.foldl_append]
  simp [List.getD, h]
theorem foldT_size {f : Nat → ByteArray} {B : Nat} (h : ∀ p, (f p).size ≤ B) : ∀ (L : List Nat) (a : ByteArray), (foldT f L a).size ≤ a.size + L.length * (1 + B) := by
  intro L
  induction L with
  | nil => intro a; unfold foldT; simp
  | cons p L ih =>
    intro a
    have h1 := ih ((a ++ spB) ++ f p)
    have h2 := h p
    rw [size_cat, size_cat] at h1
    have h3 : spB.size = 1 := rfl
    have h4 : (p :: L).length * (1 + B) = L.length * (1 + B) + (1 + B) := by rw [List.length_cons, Nat.succ_mul]
    have h5 : foldT f (p :: L) a = foldT f L ((a ++ spB) ++ f p) := rfl
    rw [h5, h4]; omega
def cotT (r s : Nat → Nat) (n : Nat) : Nat → Nat → ByteArray
  | 0, _ => ByteArray.empty
  | c + 1, set => if cntN set = 1 then digsB (listS (set : Int)) else
      if (partsN r n set 128 set).length = 1 then foldT (cotT r s n c) (partsN s n set 128 set) lmulB ++ rparB
      else foldT (cotT r s n c) (partsN r n set 128 set) lparB ++ rparB
theorem cotT_size (r s : Nat → Nat) (n : Nat) : ∀ c set, (cotT r s n c set).size ≤ 259 ^ c := by
  intro c
  induction c with
  | zero => intro set; show ByteArray.empty.size ≤ 259 ^ 0; decide
  | succ c ih =>
    intro set
    have hp : 1 ≤ 259 ^ c := Nat.pow_pos (by omega)
    have hs : 259 ^ (c + 1) = 259 ^ c * 259 := Nat.pow_succ _ _
    unfold cotT
    split
    · have := digsB_size (listS (set : Int)); have := listS_length (set : Int); omega
    · split
      · have h1 := foldT_size ih (partsN s n set 128 set) lmulB
        have h2 := partsN_length s n set 128 set
        have h3 : (partsN s n set 128 set).length * (1 + 259 ^ c) ≤ 128 * (1 + 259 ^ c) := Nat.mul_le_mul_right _ h2
        have h4 : lmulB.size = 2 := rfl
        have h5 : rparB.size = 1 := rfl
        rw [size_cat]; omega
      · have h1 := foldT_size ih (partsN r n set 128 set) lparB
        have h2 := partsN_length r n set 128 set
        have h3 : (partsN r n set 128 set).length * (1 + 259 ^ c) ≤ 128 * (1 + 259 ^ c) := Nat.mul_le_mul_right _ h2
        have h4 : lparB.size = 2 := rfl
        have h5 : rparB.size = 1 := rfl
        rw [size_cat]; omega
theorem pow259 {c : Nat} (h : c ≤ 6) : 259 ^ c ≤ 400000000000000 := Nat.le_trans (Nat.pow_le_pow_right (by omega) h) (by decide)
theorem one_bit : ∀ S, S < 128 → S ≠ 0 → (S &&& (S - 1) = 0 ↔ cntN S = 1) := by decide +kernel
def cotX (size : Int) (rows : List Int) : ByteArray := if IsG size rows ∧ pathX size rows 4 = none then cotT (rowN rows) (rowN (barL size rows)) size.toNat 7 (2 ^ size.toNat - 1) else ByteArray.empty
end Go.Pw
