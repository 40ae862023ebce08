/- The plain mathematics of threshold orders. -/
import Derived.Test.YtdenkbephkfifaaGreatPwPld
namespace Go.Pw
open Go

/-- May a vertex be taken from those left? -/
def thrQ (rows : List Int) (left : Int) (v : Nat) : Prop := hasB left v = true ∧ (iand (rows.getD v 0) left = 0 ∨ iand (rows.getD v 0) left = left - ishl 1 v)
instance (rows : List Int) (left : Int) (v : Nat) : Decidable (thrQ rows left v) := by unfold thrQ; infer_instance
/-- The greatest one below k, -1 if there is none. -/
def bestU (rows : List Int) (left : Int) : Nat → Int
  | 0 => -1
  | k + 1 => if thrQ rows left k then k else bestU rows left k
theorem bestU_range (rows : List Int) (left : Int) : ∀ k : Nat, -1 ≤ bestU rows left k ∧ bestU rows left k < k ∧ (0 ≤ bestU rows left k → thrQ rows left (bestU rows left k).toNat)
  | 0 => ⟨by simp [bestU], by simp [bestU], fun h => by simp [bestU] at h⟩
  | k + 1 => by
    obtain ⟨h1, h2, h3⟩ := bestU_range rows left k
    unfold bestU
    split
    · next h => exact ⟨by omega, by omega, fun _ => by rw [Int.toNat_natCast]; exact h⟩
    · exact ⟨h1, by omega, h3⟩
/-- The same over a list of vertices. -/
def bestL (rows : List Int) (left : Int) (l : List Int) : Int := l.foldl (fun b x => if thrQ rows left x.toNat then x else b) (-1)
theorem bestL_snoc (rows : List Int) (left : Int) (l : List Int) (x : Int) : bestL rows left (l ++ [x]) = if thrQ rows left x.toNat then x else bestL rows left l := by simp [bestL]
theorem bestL_listU (rows : List Int) (left : Int) : ∀ k : Nat, bestL rows left (listU left k) = bestU rows left k
  | 0 => rfl
  | k + 1 => by
    rw [listU_succ]
    split
    · rw [bestL_snoc, bestL_listU rows left k]; rfl
    · next h =>
      rw [bestL_listU rows left k, show bestU rows left (k + 1) = if thrQ rows left k then (k : Int) else bestU rows left k from rfl, if_neg (fun hq => h hq.1)]
/-- The program's condition on a vertex of those left. -/
theorem thr_iff {size : Int} {rows : List Int} {left : Int} (hg : IsG size rows) (hl : 0 ≤ left ∧ left < ishl 1 size) {v : Nat} (hv : hasB left v = true) (hvr : v < rows.length) :
    (iand (rows.getD v 0) left = 0 ∨ ior (iand (rows.getD v 0) left) (ishl 1 v) = left) ↔ thrQ rows left v := by
  obtain ⟨n, hn, hrl, _, hn7⟩ := isG_size hg
  obtain ⟨S, rfl, hS, hS'⟩ := set_nat hn hn7 hl
  obtain ⟨R, h1, h2, h3⟩ := row_nat hg hn v
  have hb := hv
  rw [hasB_nat (by omega) (by omega)] at hb
  have hno := (hg.2.2.1 v hvr).2
  rw [h1, hasB_nat (by omega) (by omega)] at hno
  have h4 := add_pow_nat ⟨v, by omega⟩ ⟨R &&& S, Nat.lt_of_le_of_lt Nat.and_le_left h3⟩ (by dsimp only; rw [Nat.testBit_and, hno]; rfl)
  dsimp only at h4
  have h5 : R &&& S ≤ S := Nat.and_le_right
  have h6 : 2 ^ v < 2 ^ 7 := Nat.pow_lt_pow_right (by omega) (by omega)
  unfold thrQ
  rw [h1, iand_nat (by omega) (by omega), ishl_one_nat (by omega), ior_nat (by omega) (by omega)]
  have e1 : (((R &&& S ||| 2 ^ v : Nat) : Int) = S) ↔ (R &&& S) + 2 ^ v = S := by rw [← h4]; omega
  have e2 : (((R &&& S : Nat) : Int) = (S : Int) - ((2 ^ v : Nat) : Int)) ↔ (R &&& S) + 2 ^ v = S := by omega
  rw [e1, e2]
  exact ⟨fun h => ⟨hv, h⟩, fun h => h.2⟩
/-- The rounds: what is left, the order and the joins so far. -/
def thrR (rows : List Int) : Nat → Int → List Int → List Bool → Option (List Int × List Bool)
  | 0, _, _, _ => none
  | f + 1, left, o, j => if left = 0 then some (o, j) else
    if bestU rows left 7 < 0 then none else
    thrR rows f (left - ishl 1 (bestU rows left 7)) (o ++ [bestU rows left 7]) (j ++ [decide (¬ iand (rows.getD (bestU rows left 7).toNat 0) left = 0)])
def thrX (size : Int) (rows : List Int) : Option (List Int × List Bool) := if IsG size rows then thrR rows 129 (ishl 1 size - 1) [] [] else none
theorem bit_sub : ∀ l : Fin 128, ∀ v : Fin 7, l.val.testBit v.val = true → l.val ^^^ (l.val &&& 2 ^ v.val) = l.val - 2 ^ v.val ∧ 2 ^ v.val ≤ l.val := by decide +kernel
/-- A member taken away. -/
theorem take_bit {size : Int} {rows : List Int} {left : Int} (hg : IsG size rows) (hl : 0 ≤ left ∧ left < ishl 1 size) {v : Nat} (hv : hasB left v = true) (hv7 : v < 7) :
    iandnot left (ishl 1 v) = left - ishl 1 v ∧ 1 ≤ ishl 1 v ∧ ishl 1 v ≤ left := by
  obtain ⟨n, hn, hrl, _, hn7⟩ := isG_size hg
  obtain ⟨S, rfl, hS, hS'⟩ := set_nat hn hn7 hl
  rw [hasB_nat (by omega) (by omega)] at hv
  obtain ⟨h1, h2⟩ := bit_sub ⟨S, hS'⟩ ⟨v, hv7⟩ hv
  dsimp only at h1 h2
  have h3 : 0 < 2 ^ v := Nat.pow_pos (by omega)
  rw [ishl_one_nat (by omega), iandnot_nat (by omega), h1]
  omega
theorem thrX_none {size : Int} {rows : List Int} (h : ¬ IsG size rows) : thrX size rows = none := by unfold thrX; rw [if_neg h]
theorem thrX_some {size : Int} {rows : List Int} (h : IsG size rows) : thrX size rows = thrR rows 129 (ishl 1 size - 1) [] [] := by unfold thrX; rw [if_pos h]
theorem thrR_done (rows : List Int) (f : Nat) (o : List Int) (j : List Bool) : thrR rows (f + 1) 0 o j = some (o, j) := by unfold thrR; rw [if_pos rfl]
theorem thrR_stop {rows : List Int} {f : Nat} {left : Int} {o : List Int} {j : List Bool} (h : ¬ left = 0) (hb : bestU rows left 7 < 0) : thrR rows (f + 1) left o j = none := by unfold thrR; rw [if_neg h, if_pos hb]
theorem thrR_next {rows : List Int} {f : Nat} {left : Int} {o : List Int} {j : List Bool} (h : ¬ left = 0) (hb : ¬ bestU rows left 7 < 0) :
    thrR rows (f + 1) left o j = thrR rows f (left - ishl 1 (bestU rows left 7)) (o ++ [bestU rows left 7]) (j ++ [decide (¬ iand (rows.getD (bestU rows left 7).toNat 0) left = 0)]) := by
  rw [thrR, if_neg h, if_neg hb]
/-- The order and the joins, the last taken first. -/
def thrO (size : Int) (rows : List Int) : List Int := ((thrX size rows).map fun p => p.1.reverse).getD []
def thrJ (size : Int) (rows : List Int) : List Bool := ((thrX size rows).map fun p => p.2.reverse).getD []
theorem thrO_none {size : Int} {rows : List Int} (h : thrX size rows = none) : thrO size rows = [] := by unfold thrO; rw [h]; rfl
theorem thrJ_none {size : Int} {rows : List Int} (h : thrX size rows = none) : thrJ size rows = [] := by unfold thrJ; rw [h]; rfl
theorem thrO_some {size : Int} {rows o : List Int} {j : List Bool} (h : thrX size rows = some (o, j)) : thrO size rows = o.reverse := by unfold thrO; rw [h]; rfl
theorem thrJ_some {size : Int} {rows o : List Int} {j : List Bool} (h : thrX size rows = some (o, j)) : thrJ size rows = j.reverse := by unfold thrJ; rw [h]; rfl
theorem bestU_top {rows : List Int} {left : Int} {n : Nat} (h : ∀ v : Nat, n ≤ v → v < 7 → hasB left v = false) : ∀ m : Nat, n ≤ m → m ≤ 7 → bestU rows left m = bestU rows left n
  | 0, h1, _ => by obtain rfl : n = 0 := by omega
                   rfl
  | m + 1, h1, h2 => by
    by_cases hmn : n = m + 1
    · rw [hmn]
    · rw [← bestU_top h m (by omega) (by omega), show bestU rows left (m + 1) = if thrQ rows left m then (m : Int) else bestU rows left m from rfl, if_neg (fun hq => by have := hq.1; rw [h m (by omega) (by omega)] at this; cases this)]
def allU (rows : List Int) (left : Int) : Nat → Bool
  | 0 => false
  | k + 1 => if thrQ rows left k then decide (¬ iand (rows.getD k 0) left = 0) else allU rows left k
theorem allU_best (rows : List Int) (left : Int) : ∀ k : Nat, 0 ≤ bestU rows left k → allU rows left k = decide (¬ iand (rows.getD (bestU rows left k).toNat 0) left = 0)
  | 0, h => by simp [bestU] at h
  | k + 1, h => by
    unfold allU
    rw [show bestU rows left (k + 1) = if thrQ rows left k then (k : Int) else bestU rows left k from rfl] at h ⊢
    by_cases hq : thrQ rows left k
    · rw [if_pos hq, if_pos hq]; rfl
    · rw [if_neg hq, if_neg hq]
      rw [if_neg hq] at h
      exact allU_best rows left k h
theorem hasB_top {left : Int} {n v : Nat} (hn7 : n ≤ 7) (hl : 0 ≤ left ∧ left < ishl 1 n) (h1 : n ≤ v) (h2 : v < 7) : hasB left v = false := by
  obtain ⟨S, rfl, hS, hS'⟩ := set_nat (size := n) rfl hn7 hl
  rw [hasB_nat (by omega) (by omega)]
  cases h : S.testBit v with
  | false => rfl
  | true => have := has_lt hS h; omega
theorem thrR_length (rows : List Int) : ∀ (f : Nat) (left : Int) (o : List Int) (j : List Bool) (o' : List Int) (j' : List Bool), thrR rows f left o j = some (o', j') → o'.length ≤ o.length + f ∧ j'.length ≤ j.length + f
  | 0, _, _, _, _, _, h => by simp [thrR] at h
  | f + 1, left, o, j, o', j', h => by
    by_cases h0 : left = 0
    · subst h0
      rw [thrR_done] at h
      have h := Option.some.inj h
      have h1 := congrArg Prod.fst h
      have h2 := congrArg Prod.snd h
      dsimp only at h1 h2
      subst h1 h2
      omega
    · by_cases hb : bestU rows left 7 < 0
      · rw [thrR_stop h0 hb] at h; cases h
      · rw [thrR_next h0 hb] at h
        have := thrR_length rows f _ _ _ _ _ h
        simp at this
        omega
theorem thr_lengths (size : Int) (rows : List Int) : (thrO size rows).length ≤ 129 ∧ (thrJ size rows).length ≤ 129 := by
  cases h : thrX size rows with
  | none => rw [thrO_none h, thrJ_none h]; simp
  | some p =>
    obtain ⟨o, j⟩ := p
    rw [thrO_some h, thrJ_some h]
    by_cases hg : IsG size rows
    · rw [thrX_some hg] at h
      have := thrR_length rows _ _ _ _ _ _ h
      simp at this ⊢
      exact this
    · rw [thrX_none hg] at h; cases h
end Go.Pw
