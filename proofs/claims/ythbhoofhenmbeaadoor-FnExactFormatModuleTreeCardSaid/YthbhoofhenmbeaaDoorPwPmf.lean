/- A module tree's text. -/
import Derived.Test.YthbhoofhenmbeaaDoorPwPct
import Derived.Test.YthbhoofhenmbeaaDoorPwPlt
import Derived.Lib.Join
namespace Go.Pw
open Go Go.RowKit
def kindW (k : Int) : ByteArray := if k = 1 then ⟨#[112, 97, 114, 97, 108, 108, 101, 108]⟩ else if k = 2 then ⟨#[115, 101, 114, 105, 101, 115]⟩ else if k = 3 then ⟨#[112, 114, 105, 109, 101]⟩ else ⟨#[]⟩
def singleB : ByteArray := ⟨#[115, 105, 110, 103, 108, 101]⟩
theorem kindW_size (k : Int) : (kindW k).size ≤ 8 := by
  unfold kindW; split
  · decide
  · split
    · decide
    · split <;> decide
theorem kindW_pos {k : Int} (h : 1 ≤ k ∧ k ≤ 3) : 0 < (kindW k).size := by
  have : k = 1 ∨ k = 2 ∨ k = 3 := by omega
  rcases this with rfl | rfl | rfl <;> decide
def wordT (a b : List Int) (i : Nat) : ByteArray := fmtS (a.getD i 0) ++ kindW (b.getD i 0)
theorem fmtS_size (s : Int) : (fmtS s).size ≤ 7 := by
  unfold fmtS; split
  · decide
  · rw [digsB_size]; exact listS_length s
theorem wordT_size (a b : List Int) (i : Nat) : (wordT a b i).size ≤ 15 := by
  unfold wordT; rw [size_cat]
  have := fmtS_size (a.getD i 0); have := kindW_size (b.getD i 0); omega
def wordsT (a b : List Int) : Nat → List ByteArray
  | 0 => []
  | k + 1 => if b.getD k 0 = 0 then wordsT a b k else wordsT a b k ++ [wordT a b k]
theorem wordsT_length (a b : List Int) : ∀ k, (wordsT a b k).length ≤ k := by
  intro k
  induction k with
  | zero => exact Nat.le_refl _
  | succ k ih =>
    unfold wordsT; split
    · omega
    · rw [List.length_append]; simp; omega
theorem wordsT_mem (a b : List Int) : ∀ k, ∀ x ∈ wordsT a b k, ∃ i, i < k ∧ b.getD i 0 ≠ 0 ∧ x = wordT a b i := by
  intro k
  induction k with
  | zero => intro x hx; exact absurd hx List.not_mem_nil
  | succ k ih =>
    intro x hx
    unfold wordsT at hx
    split at hx
    · obtain ⟨i, h1, h2⟩ := ih x hx; exact ⟨i, by omega, h2⟩
    · rename_i hk
      rcases List.mem_append.1 hx with hx | hx
      · obtain ⟨i, h1, h2⟩ := ih x hx; exact ⟨i, by omega, h2⟩
      · rw [List.mem_singleton] at hx; exact ⟨k, by omega, hk, hx⟩
def accS (s x : ByteArray) : ByteArray := (if s.size = 0 then s else s ++ spB) ++ x
def accT (l : List ByteArray) : ByteArray := l.foldl accS ByteArray.empty
theorem accT_snoc (l : List ByteArray) (x : ByteArray) : accT (l ++ [x]) = accS (accT l) x := by simp [accT]
theorem spB_size : spB.size = 1 := rfl
theorem accS_size (s x : ByteArray) : (accS s x).size ≤ s.size + 1 + x.size := by
  unfold accS; rw [size_cat]; split
  · omega
  · rw [size_cat, spB_size]; omega
theorem accT_size {l : List ByteArray} (h : ∀ x ∈ l, x.size ≤ 15) : (accT l).size ≤ 16 * l.length := by
  suffices H : ∀ (l : List ByteArray) (s : ByteArray), (∀ x ∈ l, x.size ≤ 15) → (l.foldl accS s).size ≤ s.size + 16 * l.length by
    have := H l ByteArray.empty h
    simpa [accT] using this
  intro l
  induction l with
  | nil => intro s _; simp
  | cons x l ih =>
    intro s hs
    have h1 := ih (accS s x) (fun y hy => hs y (List.mem_cons_of_mem _ hy))
    have h2 := accS_size s x
    have h3 := hs x (List.mem_cons_self ..)
    rw [List.foldl_cons, List.length_cons]; omega
theorem fold_join : ∀ (l : List ByteArray) (s : ByteArray), 0 < s.size → (∀ x ∈ l, 0 < x.size) → (l.foldl accS s).data.toList = s.data.toList ++ Lib.joinTail [32] (l.map (·.data.toList)) := by
  intro l
  induction l with
  | nil => intro s _ _; simp [Lib.joinTail]
  | cons x l ih =>
    intro s hs hl
    have hx := hl x (List.mem_cons_self ..)
    have e : accS s x = (s ++ spB) ++ x := by unfold accS; rw [if_neg (by omega)]
    have h1 := ih (accS s x) (by rw [e, size_cat]; omega) (fun y hy => hl y (List.mem_cons_of_mem _ hy))
    rw [List.foldl_cons, h1, e]
    simp [Lib.joinTail, spB, ByteArray.data_append]
theorem acc_join {l : List ByteArray} (h : ∀ x ∈ l, 0 < x.size) : accT l = ⟨(Lib.join (l.map (·.data.toList)) [32]).toArray⟩ := by
  apply Go.WideShapes.bytes_inj
  cases l with
  | nil => rfl
  | cons x l =>
    have hx := h x (List.mem_cons_self ..)
    have e : accS ByteArray.empty x = x := by unfold accS; rw [if_pos (show ByteArray.empty.size = 0 from rfl)]; exact ByteArray.empty_append
    show (l.foldl accS (accS ByteArray.empty x)).data.toList = _
    rw [e, fold_join l x hx (fun y hy => h y (List.mem_cons_of_mem _ hy)), List.map_cons, Lib.join_cons]
theorem accT_pos {l : List ByteArray} (h : ∀ x ∈ l, 0 < x.size) (hn : l ≠ []) : 0 < (accT l).size := by
  suffices H : ∀ (l : List ByteArray) (s : ByteArray), (∀ x ∈ l, 0 < x.size) → (0 < s.size ∨ l ≠ []) → 0 < (l.foldl accS s).size from H l ByteArray.empty h (.inr hn)
  intro l
  induction l with
  | nil => intro s _ hs; rcases hs with hs | hs; exact hs; exact absurd rfl hs
  | cons x l ih =>
    intro s hl _
    have hx := hl x (List.mem_cons_self ..)
    exact ih (accS s x) (fun y hy => hl y (List.mem_cons_of_mem _ hy)) (.inl (by unfold accS; rw [size_cat]; omega))
theorem words_pos {a b c : List Int} (hf : fineT a b c) {k : Nat} (hk : k ≤ a.length) : ∀ x ∈ wordsT a b k, 0 < x.size := fun x hx => by
  obtain ⟨i, hi, hb, rfl⟩ := wordsT_mem a b k x hx
  have h := (hf.2.2.2.2 i (by omega)).2.1
  unfold wordT; rw [size_cat]
  have := kindW_pos (k := b.getD i 0) (by omega)
  omega
theorem words_le {a b : List Int} {k : Nat} : ∀ x ∈ wordsT a b k, x.size ≤ 15 := fun x hx => by
  obtain ⟨i, _, _, rfl⟩ := wordsT_mem a b k x hx
  exact wordT_size a b i
theorem depM_nonneg (c : List Int) : ∀ k, 0 ≤ depM c k := by
  intro k
  induction k with
  | zero => exact Int.le_refl _
  | succ k ih => rw [depM_succ]; omega
theorem depthT_ne {a b c : List Int} (h : fineT a b c) : ¬ depthT a b c = -1 := by
  rw [depthT, if_pos h]; have := depM_nonneg c c.length; omega
def fmtT (a b c : List Int) : ByteArray := if fineT a b c then (if wordsT a b a.length = [] then singleB else accT (wordsT a b a.length)) else ByteArray.empty
end Go.Pw
