import Derived.Test.YtkbjcfabbapnpaaPwPfl
import Derived.Test.YtkbjcfabbapnpaaPwPlc
import Derived.Test.YtkbjcfabbapnpaaPwPld
import Derived.Test.YtkbjcfabbapnpaaPwPcc
import Derived.Test.YtkbjcfabbapnpaaPwBool
import Derived.Test.YtkbjcfabbapnpaaCq
import Derived.Test.YtkbjcfabbapnpaaLk
import Derived.Test.YtkbjcfabbapnpaaPwClos
import Derived.Test.YtkbjcfabbapnpaaDe
import Derived.Test.YtkbjcfabbapnpaaOr
import Derived.Test.YtkbjcfabbapnpaaPwPsv
import Derived.Test.YtkbjcfabbapnpaaPwStx
import Derived.Test.YtkbjcfabbapnpaaPwPpe
import Derived.Test.YtkbjcfabbapnpaaQt
import Derived.Test.YtkbjcfabbapnpaaPwLit
import Derived.Test.YtkbjcfabbapnpaaGs
import Derived.Test.YtkbjcfabbapnpaaPwDrop
/- The plain mathematics of searches through all lists of four. -/
namespace Go.Pw
open Go
theorem firstG_pre {N : Nat} {ok : List Int → Int → Bool} {fin : List Int → Bool} : ∀ (d : Nat) (l L : List Int), firstG N ok fin d l = some L → (∃ m, L = l ++ m) ∧ fin L = true
  | 0, l, L, h => by
    unfold firstG at h
    split at h
    · obtain rfl := Option.some.inj h; exact ⟨⟨[], by simp⟩, by assumption⟩
    · cases h
  | d + 1, l, L, h => by
    unfold firstG at h
    obtain ⟨v, _, hv⟩ := List.exists_of_findSome?_eq_some h
    split at hv
    · obtain ⟨⟨m, hm⟩, hf⟩ := firstG_pre d _ L hv
      exact ⟨⟨(v : Int) :: m, by rw [hm]; simp⟩, hf⟩
    · cases hv
theorem apart_pre {l m : List Int} {v : Int} (h : apartL (l ++ [v] ++ m)) : v ∉ l := fun hv => by
  obtain ⟨i, hi, rfl⟩ := mem_getD hv
  refine h l.length (by simp) i hi ?_
  simp [List.getD, hi, List.getElem?_append_left, List.getElem?_append]
/-- Where the end asks for different members, the search need not. -/
theorem firstG_all4 {N : Nat} {fin : List Int → Bool} (hf : ∀ L, fin L = true → apartL L) : ∀ (d : Nat) (l : List Int), firstG N (okI fun _ => true) fin d l = firstG N (fun _ _ => true) fin d l
  | 0, _ => rfl
  | d + 1, l => by
    unfold firstG
    refine findSome_congr fun v _ => ?_
    by_cases h : (v : Int) ∈ l
    · have h1 : okI (fun _ => true) l (v : Int) = false := by simp [okI, h]
      rw [if_neg (by rw [h1]; exact Bool.false_ne_true), if_pos rfl]
      cases hg : firstG N (fun _ _ => true) fin d (l ++ [(v : Int)]) with
      | none => rfl
      | some L =>
        obtain ⟨⟨m, hm⟩, hL⟩ := firstG_pre d _ L hg
        exact (apart_pre (m := m) (by rw [← hm]; exact hf L hL) h).elim
    · have h1 : okI (fun _ => true) l (v : Int) = true := by simp [okI, h]
      rw [if_pos h1, if_pos rfl, firstG_all4 hf d]
/-- The four members that a number codes. -/
def digs (N c : Nat) : List Int := [((c / (N * N * N) : Nat) : Int), ((c / (N * N) % N : Nat) : Int), ((c / N % N : Nat) : Int), ((c % N : Nat) : Int)]
def fourK (N : Nat) (fin : List Int → Bool) (k : Nat) : Option (List Int) := (List.range k).findSome? fun c => if fin (digs N c) = true then some (digs N c) else none
theorem digs_of {N a b c d : Nat} (hb : b < N) (hc : c < N) (hd : d < N) : digs N (((a * N + b) * N + c) * N + d) = [(a : Int), (b : Int), (c : Int), (d : Int)] := by
  have hN : 0 < N := by omega
  have q : ∀ x y, y < N → (x * N + y) / N = x := fun x y hy => by
    rw [Nat.add_comm, Nat.add_mul_div_right _ _ hN, Nat.div_eq_of_lt hy, Nat.zero_add]
  have m : ∀ x y, y < N → (x * N + y) % N = y := fun x y hy => by
    rw [Nat.add_comm, Nat.add_mul_mod_self_right, Nat.mod_eq_of_lt hy]
  have e1 : (((a * N + b) * N + c) * N + d) / (N * N * N) = a := by rw [← Nat.div_div_eq_div_mul, ← Nat.div_div_eq_div_mul, q _ _ hd, q _ _ hc, q _ _ hb]
  have e2 : (((a * N + b) * N + c) * N + d) / (N * N) % N = b := by rw [← Nat.div_div_eq_div_mul, q _ _ hd, q _ _ hc, m _ _ hb]
  have e3 : (((a * N + b) * N + c) * N + d) / N % N = c := by rw [q _ _ hd, m _ _ hc]
  unfold digs
  rw [e1, e2, e3, m _ _ hd]
theorem four_first (N : Nat) (fin : List Int → Bool) : firstG N (fun _ _ => true) fin 4 [] = fourK N fin (N * N * N * N) := by
  unfold fourK
  rw [← range_nest N _ (N * N * N), ← range_nest N _ (N * N), ← range_nest N _ N]
  show (List.range N).findSome? _ = _
  refine findSome_congr fun a _ => ?_
  rw [if_pos rfl]
  show (List.range N).findSome? _ = _
  refine findSome_congr fun b hb => ?_
  rw [if_pos rfl]
  show (List.range N).findSome? _ = _
  refine findSome_congr fun c hc => ?_
  rw [if_pos rfl]
  show (List.range N).findSome? _ = _
  refine findSome_congr fun d hd => ?_
  rw [if_pos rfl, digs_of (List.mem_range.1 hb) (List.mem_range.1 hc) (List.mem_range.1 hd)]
  rfl
def fourX (size : Int) (rows : List Int) (fin : List Int → Bool) : Option (List Int) := if IsG size rows then fourK size.toNat fin (size.toNat * size.toNat * size.toNat * size.toNat) else none
theorem four_firstX {size : Int} {rows : List Int} {fin : List Int → Bool} (hf : ∀ L, fin L = true → apartL L) : firstX size rows (fun _ => true) fin 4 = fourX size rows fin := by
  unfold firstX fourX
  rw [firstG_all4 hf, four_first]
theorem fourK_succ (N : Nat) (fin : List Int → Bool) (k : Nat) (h : fourK N fin k = none) : fourK N fin (k + 1) = if fin (digs N k) = true then some (digs N k) else none := by
  unfold fourK at h ⊢
  rw [List.range_succ, List.findSome?_append, h]; simp
theorem fourK_hit {N k M : Nat} {fin : List Int → Bool} (h : fourK N fin k = none) (hk : k < M) (hf : fin (digs N k) = true) : fourK N fin M = some (digs N k) := by
  have h1 := fourK_succ N fin k h
  rw [if_pos hf] at h1
  unfold fourK at h1 ⊢
  have hm : List.range M = List.range (k + 1) ++ (List.range (M - (k + 1))).map (fun x => k + 1 + x) := by rw [← List.range_add]; congr 1; omega
  rw [hm]
  exact findSome_prefix _ _ _ _ h1
theorem fourX_len (size : Int) (rows : List Int) (fin : List Int → Bool) : ((fourX size rows fin).getD []).length ≤ 4 := by
  cases h : fourX size rows fin with
  | none => simp
  | some L =>
    unfold fourX at h
    split at h
    · obtain ⟨c, _, hc⟩ := List.exists_of_findSome?_eq_some h
      split at hc
      · obtain rfl := Option.some.inj hc; simp [digs]
      · cases hc
    · cases h
theorem pow_bounds {N : Nat} (h1 : 1 ≤ N) (h7 : N ≤ 7) : (1 ≤ (N : Int) * N ∧ (N : Int) * N ≤ 49) ∧ (1 ≤ (N : Int) * N * N ∧ (N : Int) * N * N ≤ 343) ∧ (1 ≤ (N : Int) * N * N * N ∧ (N : Int) * N * N * N ≤ 2401) := by
  have : N = 1 ∨ N = 2 ∨ N = 3 ∨ N = 4 ∨ N = 5 ∨ N = 6 ∨ N = 7 := by omega
  rcases this with rfl | rfl | rfl | rfl | rfl | rfl | rfl <;> decide
theorem digs_int {N c : Nat} (hc : c ≤ 2401) :
    w64 ((c : Int).tdiv ((N : Int) * N * N)) = ((c / (N * N * N) : Nat) : Int) ∧ (w64 ((c : Int).tdiv ((N : Int) * N))).tmod N = ((c / (N * N) % N : Nat) : Int) ∧ (w64 ((c : Int).tdiv N)).tmod N = ((c / N % N : Nat) : Int) ∧ (c : Int).tmod N = ((c % N : Nat) : Int) := by
  have q : ∀ m : Nat, w64 ((c : Int).tdiv (m : Int)) = ((c / m : Nat) : Int) := fun m => by
    rw [← Int.ofNat_tdiv]
    have := Nat.div_le_self c m
    generalize c / m = k at this
    exact w64_in ⟨by omega, by omega⟩
  have e3 : (N : Int) * N * N = ((N * N * N : Nat) : Int) := by simp
  have e2 : (N : Int) * N = ((N * N : Nat) : Int) := by simp
  rw [e3, e2, q, q, q]
  refine ⟨rfl, ?_, ?_, ?_⟩ <;> rw [← Int.ofNat_tmod]
/-- Holes of at least m vertices, the shortest first. -/
def holeT (size : Int) (rows : List Int) (n : Nat) : Option (List Int) := firstX size rows (fun l => decide (l.length = n) || decide (pathP size rows l)) (fun l => decide (holeP size rows l)) n
def holeK (size : Int) (rows : List Int) (k : Nat) : Option (List Int) := (List.range k).findSome? fun i => holeT size rows (4 + i)
def holeX (size : Int) (rows : List Int) : Option (List Int) := holeK size rows (size.toNat - 3)
theorem holeK_succ (size : Int) (rows : List Int) (k : Nat) (h : holeK size rows k = none) : holeK size rows (k + 1) = holeT size rows (4 + k) := by
  unfold holeK at h ⊢
  rw [List.range_succ, List.findSome?_append, h]; simp
theorem holeK_hit {size : Int} {rows : List Int} {k M : Nat} {L : List Int} (h : holeK size rows k = none) (hk : k < M) (hf : holeT size rows (4 + k) = some L) : holeK size rows M = some L := by
  have h1 := holeK_succ size rows k h
  rw [hf] at h1
  unfold holeK at h1 ⊢
  have hm : List.range M = List.range (k + 1) ++ (List.range (M - (k + 1))).map (fun x => k + 1 + x) := by rw [← List.range_add]; congr 1; omega
  rw [hm]
  exact findSome_prefix _ _ _ _ h1
theorem holeX_none {size : Int} {rows : List Int} (h : ¬ IsG size rows) : holeX size rows = none := by
  unfold holeX holeK
  rw [List.findSome?_eq_none_iff]
  intro i _
  unfold holeT firstX
  rw [if_neg h]
theorem holeX_len {size : Int} {rows : List Int} : ((holeX size rows).getD []).length ≤ 7 := by
  by_cases hg : IsG size rows
  · cases h : holeX size rows with
    | none => simp
    | some L =>
      obtain ⟨i, hi, hL⟩ := List.exists_of_findSome?_eq_some h
      have h2 := firstX_len (size := size) (rows := rows) (may := fun l => decide (l.length = 4 + i) || decide (pathP size rows l)) (fin := fun l => decide (holeP size rows l)) (n := 4 + i)
      have h3 := hg.1.2
      have h4 := List.mem_range.1 hi
      unfold holeT at hL
      rw [hL] at h2
      simp only [Option.getD_some] at h2 ⊢
      omega
  · rw [holeX_none hg]; simp
/-- The reference's search for a hole of m + 1 vertices. -/
theorem hole_firstR {size : Int} {rows : List Int} {m : Nat} (hg : IsG size rows) :
    firstG size.toNat (okR (fun x => decide (pathP size rows x)) (fun x => decide (holeP size rows x)) (m + 1) true) (finS (fun x => decide (holeP size rows x)) true) (m + 1) [] = holeT size rows (m + 1) := by
  unfold holeT firstX
  rw [if_pos hg]
  refine firstG_congr (n := m + 1) (fun l v _ h => ?_) (fun l v _ h => ?_) m [] (by simp)
  · have h1 : ¬ l.length + 1 = m + 1 := by omega
    have := path_okI (size := size) (rows := rows) l (v : Int)
    unfold okI at this ⊢
    unfold okR
    dsimp only at this ⊢
    rw [← this]
    simp [h1, show ¬ l.length = m by omega]
  · have h1 : (l ++ [(v : Int)]).length = m + 1 := by simp; omega
    unfold okR okI finS
    simp only [h1, h, decide_true, Bool.true_and, Bool.true_or, if_true, Bool.and_true]
    by_cases hh : holeP size rows (l ++ [(v : Int)])
    · have := apart_last hh.2.1.2.2
      simp [hh, this]
    · simp [hh]
def splitObsX (size : Int) (rows : List Int) : Option (List Int) := (fourX size rows fun l => decide (twoP size rows l)).or (holeX size rows)
theorem splitObs_len {size : Int} {rows : List Int} : ((splitObsX size rows).getD []).length ≤ 7 := by
  unfold splitObsX
  have h1 := fourX_len size rows fun l => decide (twoP size rows l)
  have h2 := holeX_len (size := size) (rows := rows)
  cases h : fourX size rows fun l => decide (twoP size rows l) with
  | none => simpa using h2
  | some L => rw [h] at h1; simp at h1 ⊢; omega
theorem two_apart {size : Int} {rows : List Int} (L : List Int) (h : decide (twoP size rows L) = true) : apartL L := (of_decide_eq_true h).2.1.2.2
theorem thrObs_apart {size : Int} {rows : List Int} (L : List Int) (h : decide (thrObsP size rows L) = true) : apartL L := by
  rcases (of_decide_eq_true h).2 with h | h | h
  · exact h.2.1.2.2
  · exact h.2.1.2.2
  · exact h.2.1.2.2
end Go.Pw
/- The plain mathematics of threshold orders. -/
namespace Go.Pw
open Go

/-- May a vertex be taken from those left? -/
def thrQ (rows : List Int) (left : Int) (v : Nat) : Prop := hasB left v = true ∧ (iand (rows.getD v 0) left = 0 ∨ iand (rows.getD v 0) left = left - ishl 1 v)
instance (rows : List Int) (left : Int) (v : Nat) : Decidable (thrQ rows left v) := by unfold thrQ; infer_instance
/-- The greatest one below k, -1 if there is none. -/
def bestU (rows : List Int) (left : Int) : Nat → Int
  | 0 => -1
  | k + 1 => if thrQ rows left k then k else bestU rows left k
theorem bestU_range (rows : List Int) (left : Int) : ∀ k : Nat, -1 ≤ bestU rows left k ∧ bestU rows left k < k ∧ (0 ≤ bestU rows left k → thrQ rows left (bestU rows left k).toNat)
  | 0 => ⟨by simp [bestU], by simp [bestU], fun h => by simp [bestU] at h⟩
  | k + 1 => by
    obtain ⟨h1, h2, h3⟩ := bestU_range rows left k
    unfold bestU
    split
    · next h => exact ⟨by omega, by omega, fun _ => by rw [Int.toNat_natCast]; exact h⟩
    · exact ⟨h1, by omega, h3⟩
/-- The same over a list of vertices. -/
def bestL (rows : List Int) (left : Int) (l : List Int) : Int := l.foldl (fun b x => if thrQ rows left x.toNat then x else b) (-1)
theorem bestL_snoc (rows : List Int) (left : Int) (l : List Int) (x : Int) : bestL rows left (l ++ [x]) = if thrQ rows left x.toNat then x else bestL rows left l := by simp [bestL]
theorem bestL_listU (rows : List Int) (left : Int) : ∀ k : Nat, bestL rows left (listU left k) = bestU rows left k
  | 0 => rfl
  | k + 1 => by
    rw [listU_succ]
    split
    · rw [bestL_snoc, bestL_listU rows left k]; rfl
    · next h =>
      rw [bestL_listU rows left k, show bestU rows left (k + 1) = if thrQ rows left k then (k : Int) else bestU rows left k from rfl, if_neg (fun hq => h hq.1)]
/-- The program's condition on a vertex of those left. -/
theorem thr_iff {size : Int} {rows : List Int} {left : Int} (hg : IsG size rows) (hl : 0 ≤ left ∧ left < ishl 1 size) {v : Nat} (hv : hasB left v = true) (hvr : v < rows.length) :
    (iand (rows.getD v 0) left = 0 ∨ ior (iand (rows.getD v 0) left) (ishl 1 v) = left) ↔ thrQ rows left v := by
  obtain ⟨n, hn, hrl, _, hn7⟩ := isG_size hg
  obtain ⟨S, rfl, hS, hS'⟩ := set_nat hn hn7 hl
  obtain ⟨R, h1, h2, h3⟩ := row_nat hg hn v
  have hb := hv
  rw [hasB_nat (by omega) (by omega)] at hb
  have hno := (hg.2.2.1 v hvr).2
  rw [h1, hasB_nat (by omega) (by omega)] at hno
  have h4 := add_pow_nat ⟨v, by omega⟩ ⟨R &&& S, Nat.lt_of_le_of_lt Nat.and_le_left h3⟩ (by dsimp only; rw [Nat.testBit_and, hno]; rfl)
  dsimp only at h4
  have h5 : R &&& S ≤ S := Nat.and_le_right
  have h6 : 2 ^ v < 2 ^ 7 := Nat.pow_lt_pow_right (by omega) (by omega)
  unfold thrQ
  rw [h1, iand_nat (by omega) (by omega), ishl_one_nat (by omega), ior_nat (by omega) (by omega)]
  have e1 : (((R &&& S ||| 2 ^ v : Nat) : Int) = S) ↔ (R &&& S) + 2 ^ v = S := by rw [← h4]; omega
  have e2 : (((R &&& S : Nat) : Int) = (S : Int) - ((2 ^ v : Nat) : Int)) ↔ (R &&& S) + 2 ^ v = S := by omega
  rw [e1, e2]
  exact ⟨fun h => ⟨hv, h⟩, fun h => h.2⟩
/-- The rounds: what is left, the order and the joins so far. -/
def thrR (rows : List Int) : Nat → Int → List Int → List Bool → Option (List Int × List Bool)
  | 0, _, _, _ => none
  | f + 1, left, o, j => if left = 0 then some (o, j) else
    if bestU rows left 7 < 0 then none else
    thrR rows f (left - ishl 1 (bestU rows left 7)) (o ++ [bestU rows left 7]) (j ++ [decide (¬ iand (rows.getD (bestU rows left 7).toNat 0) left = 0)])
def thrX (size : Int) (rows : List Int) : Option (List Int × List Bool) := if IsG size rows then thrR rows 129 (ishl 1 size - 1) [] [] else none
theorem bit_sub : ∀ l : Fin 128, ∀ v : Fin 7, l.val.testBit v.val = true → l.val ^^^ (l.val &&& 2 ^ v.val) = l.val - 2 ^ v.val ∧ 2 ^ v.val ≤ l.val := by decide +kernel
/-- A member taken away. -/
theorem take_bit {size : Int} {rows : List Int} {left : Int} (hg : IsG size rows) (hl : 0 ≤ left ∧ left < ishl 1 size) {v : Nat} (hv : hasB left v = true) (hv7 : v < 7) :
    iandnot left (ishl 1 v) = left - ishl 1 v ∧ 1 ≤ ishl 1 v ∧ ishl 1 v ≤ left := by
  obtain ⟨n, hn, hrl, _, hn7⟩ := isG_size hg
  obtain ⟨S, rfl, hS, hS'⟩ := set_nat hn hn7 hl
  rw [hasB_nat (by omega) (by omega)] at hv
  obtain ⟨h1, h2⟩ := bit_sub ⟨S, hS'⟩ ⟨v, hv7⟩ hv
  dsimp only at h1 h2
  have h3 : 0 < 2 ^ v := Nat.pow_pos (by omega)
  rw [ishl_one_nat (by omega), iandnot_nat (by omega), h1]
  omega
theorem thrX_none {size : Int} {rows : List Int} (h : ¬ IsG size rows) : thrX size rows = none := by unfold thrX; rw [if_neg h]
theorem thrX_some {size : Int} {rows : List Int} (h : IsG size rows) : thrX size rows = thrR rows 129 (ishl 1 size - 1) [] [] := by unfold thrX; rw [if_pos h]
theorem thrR_done (rows : List Int) (f : Nat) (o : List Int) (j : List Bool) : thrR rows (f + 1) 0 o j = some (o, j) := by unfold thrR; rw [if_pos rfl]
theorem thrR_stop {rows : List Int} {f : Nat} {left : Int} {o : List Int} {j : List Bool} (h : ¬ left = 0) (hb : bestU rows left 7 < 0) : thrR rows (f + 1) left o j = none := by unfold thrR; rw [if_neg h, if_pos hb]
theorem thrR_next {rows : List Int} {f : Nat} {left : Int} {o : List Int} {j : List Bool} (h : ¬ left = 0) (hb : ¬ bestU rows left 7 < 0) :
    thrR rows (f + 1) left o j = thrR rows f (left - ishl 1 (bestU rows left 7)) (o ++ [bestU rows left 7]) (j ++ [decide (¬ iand (rows.getD (bestU rows left 7).toNat 0) left = 0)]) := by
  rw [thrR, if_neg h, if_neg hb]
/-- The order and the joins, the last taken first. -/
def thrO (size : Int) (rows : List Int) : List Int := ((thrX size rows).map fun p => p.1.reverse).getD []
def thrJ (size : Int) (rows : List Int) : List Bool := ((thrX size rows).map fun p => p.2.reverse).getD []
theorem thrO_none {size : Int} {rows : List Int} (h : thrX size rows = none) : thrO size rows = [] := by unfold thrO; rw [h]; rfl
theorem thrJ_none {size : Int} {rows : List Int} (h : thrX size rows = none) : thrJ size rows = [] := by unfold thrJ; rw [h]; rfl
theorem thrO_some {size : Int} {rows o : List Int} {j : List Bool} (h : thrX size rows = some (o, j)) : thrO size rows = o.reverse := by unfold thrO; rw [h]; rfl
theorem thrJ_some {size : Int} {rows o : List Int} {j : List Bool} (h : thrX size rows = some (o, j)) : thrJ size rows = j.reverse := by unfold thrJ; rw [h]; rfl
theorem bestU_top {rows : List Int} {left : Int} {n : Nat} (h : ∀ v : Nat, n ≤ v → v < 7 → hasB left v = false) : ∀ m : Nat, n ≤ m → m ≤ 7 → bestU rows left m = bestU rows left n
  | 0, h1, _ => by obtain rfl : n = 0 := by omega
                   rfl
  | m + 1, h1, h2 => by
    by_cases hmn : n = m + 1
    · rw [hmn]
    · rw [← bestU_top h m (by omega) (by omega), show bestU rows left (m + 1) = if thrQ rows left m then (m : Int) else bestU rows left m from rfl, if_neg (fun hq => by have := hq.1; rw [h m (by omega) (by omega)] at this; cases this)]
def allU (rows : List Int) (left : Int) : Nat → Bool
  | 0 => false
  | k + 1 => if thrQ rows left k then decide (¬ iand (rows.getD k 0) left = 0) else allU rows left k
theorem allU_best (rows : List Int) (left : Int) : ∀ k : Nat, 0 ≤ bestU rows left k → allU rows left k = decide (¬ iand (rows.getD (bestU rows left k).toNat 0) left = 0)
  | 0, h => by simp [bestU] at h
  | k + 1, h => by
    unfold allU
    rw [show bestU rows left (k + 1) = if thrQ rows left k then (k : Int) else bestU rows left k from rfl] at h ⊢
    by_cases hq : thrQ rows left k
    · rw [if_pos hq, if_pos hq]; rfl
    · rw [if_neg hq, if_neg hq]
      rw [if_neg hq] at h
      exact allU_best rows left k h
theorem hasB_top {left : Int} {n v : Nat} (hn7 : n ≤ 7) (hl : 0 ≤ left ∧ left < ishl 1 n) (h1 : n ≤ v) (h2 : v < 7) : hasB left v = false := by
  obtain ⟨S, rfl, hS, hS'⟩ := set_nat (size := n) rfl hn7 hl
  rw [hasB_nat (by omega) (by omega)]
  cases h : S.testBit v with
  | false => rfl
  | true => have := has_lt hS h; omega
theorem thrR_length (rows : List Int) : ∀ (f : Nat) (left : Int) (o : List Int) (j : List Bool) (o' : List Int) (j' : List Bool), thrR rows f left o j = some (o', j') → o'.length ≤ o.length + f ∧ j'.length ≤ j.length + f
  | 0, _, _, _, _, _, h => by simp [thrR] at h
  | f + 1, left, o, j, o', j', h => by
    by_cases h0 : left = 0
    · subst h0
      rw [thrR_done] at h
      have h := Option.some.inj h
      have h1 := congrArg Prod.fst h
      have h2 := congrArg Prod.snd h
      dsimp only at h1 h2
      subst h1 h2
      omega
    · by_cases hb : bestU rows left 7 < 0
      · rw [thrR_stop h0 hb] at h; cases h
      · rw [thrR_next h0 hb] at h
        have := thrR_length rows f _ _ _ _ _ h
        simp at this
        omega
theorem thr_lengths (size : Int) (rows : List Int) : (thrO size rows).length ≤ 129 ∧ (thrJ size rows).length ≤ 129 := by
  cases h : thrX size rows with
  | none => rw [thrO_none h, thrJ_none h]; simp
  | some p =>
    obtain ⟨o, j⟩ := p
    rw [thrO_some h, thrJ_some h]
    by_cases hg : IsG size rows
    · rw [thrX_some hg] at h
      have := thrR_length rows _ _ _ _ _ _ h
      simp at this ⊢
      exact this
    · rw [thrX_none hg] at h; cases h
end Go.Pw
/- The plain mathematics of threshold weights. -/
namespace Go.Pw
open Go

theorem thrR_inv {size : Int} {rows : List Int} {n : Nat} (hg : IsG size rows) (hn : size = n) : ∀ (f S : Nat) (o : List Int) (j : List Bool) (o' : List Int) (j' : List Bool), S < 2 ^ n → (∀ x ∈ o, 0 ≤ x ∧ x < n ∧ S.testBit x.toNat = false) → o.Nodup → o.length = j.length →
    thrR rows f (S : Int) o j = some (o', j') → (∀ x ∈ o', 0 ≤ x ∧ x < n) ∧ o'.Nodup ∧ o'.length = j'.length
  | 0, _, _, _, _, _, _, _, _, _, h => by simp [thrR] at h
  | f + 1, S, o, j, o', j', hS, ho, hd, hl, h => by
    have hng := ng_of hg hn
    have h7 := pow_le7 hng.le
    have hn7 := hng.le
    by_cases h0 : (S : Int) = 0
    · rw [h0, thrR_done] at h
      have h := Option.some.inj h
      have h1 := congrArg Prod.fst h
      have h2 := congrArg Prod.snd h
      dsimp only at h1 h2
      subst h1 h2
      exact ⟨fun x hx => ⟨(ho x hx).1, (ho x hx).2.1⟩, hd, hl⟩
    · by_cases hb : bestU rows (S : Int) 7 < 0
      · rw [thrR_stop h0 hb] at h; cases h
      · rw [thrR_next h0 hb] at h
        obtain ⟨b1, b2, b3⟩ := bestU_range rows (S : Int) 7
        obtain ⟨v, hv⟩ := Int.eq_ofNat_of_zero_le (show 0 ≤ bestU rows (S : Int) 7 by omega)
        rw [hv] at h b2 b3
        have hq := (b3 (by omega)).1
        rw [Int.toNat_natCast, hasB_nat (by omega) (by omega)] at hq
        have hvn := has_lt hS hq
        have hps := pow_sub hq
        have hle := sub_le hps
        have e : (S : Int) - ishl 1 (v : Int) = ((S - 2 ^ v : Nat) : Int) := by rw [ishl_one_nat (by omega)]; omega
        rw [e] at h
        refine thrR_inv hg hn f (S - 2 ^ v) _ _ _ _ (Nat.lt_of_le_of_lt (Nat.sub_le _ _) hS) (fun x hx => ?_) ?_ (by simp [hl]) h
        · rcases List.mem_append.1 hx with hx | hx
          · obtain ⟨x1, x2, x3⟩ := ho x hx
            refine ⟨x1, x2, ?_⟩
            rw [sub_bit (by omega) hps, x3]; rfl
          · have := List.mem_singleton.1 hx
            subst this
            refine ⟨by omega, by omega, ?_⟩
            rw [sub_bit (by omega) hps, Int.toNat_natCast, Nat.testBit_two_pow]; simp
        · refine List.nodup_append.2 ⟨hd, by simp, fun x hx y hy => ?_⟩
          have := List.mem_singleton.1 hy
          subst this
          intro e
          have h3 := (ho x hx).2.2
          rw [e, Int.toNat_natCast, hq] at h3
          cases h3
/-- A threshold order has each vertex at most once. -/
theorem thr_order {size : Int} {rows : List Int} {n : Nat} (hg : IsG size rows) (hn : size = n) {p : List Int × List Bool} (h : thrX size rows = some p) :
    (∀ i, i < (thrO size rows).length → 0 ≤ (thrO size rows).getD i 0 ∧ (thrO size rows).getD i 0 < n) ∧ (∀ i, i < (thrO size rows).length → ∀ k, k < i → (thrO size rows).getD k 0 ≠ (thrO size rows).getD i 0) ∧ (thrO size rows).length = (thrJ size rows).length := by
  obtain ⟨o, j⟩ := p
  have hpos : 0 < 2 ^ n := Nat.pow_pos (by omega)
  have hng := ng_of hg hn
  have hX := h
  rw [thrX_some hg] at hX
  have e : ishl 1 size - 1 = ((2 ^ n - 1 : Nat) : Int) := by rw [hn, ishl_one_nat (by have := hng.le; omega)]; omega
  rw [e] at hX
  obtain ⟨h1, h2, h3⟩ := thrR_inv hg hn 129 (2 ^ n - 1) [] [] o j (by omega) (fun x hx => by cases hx) (by simp) rfl hX
  rw [thrO_some h, thrJ_some h]
  refine ⟨fun i hi => ?_, fun i hi k hk => ?_, by simp [h3]⟩
  · exact h1 _ (List.mem_reverse.1 (getD_mem hi))
  · have hd : o.reverse.Pairwise (fun a b => a ≠ b) := List.pairwise_reverse.2 (h2.imp fun h e => h e.symm)
    have hk' : k < o.reverse.length := by omega
    have := List.pairwise_iff_getElem.1 hd k i hk' hi hk
    rw [show o.reverse.getD k 0 = o.reverse[k] from by simp only [List.getD]; rw [List.getElem?_eq_getElem hk']; rfl, show o.reverse.getD i 0 = o.reverse[i] from by simp only [List.getD]; rw [List.getElem?_eq_getElem hi]; rfl]
    exact this

/-- One more for the first k of an order. -/
def incU (o w : List Int) : Nat → List Int
  | 0 => w
  | k + 1 => (incU o w k).set (o.getD k 0).toNat ((incU o w k).getD (o.getD k 0).toNat 0 + 1)
@[simp] theorem incU_length (o w : List Int) : ∀ k, (incU o w k).length = w.length
  | 0 => rfl
  | k + 1 => by rw [incU, List.length_set, incU_length o w k]
theorem getD_set_int (l : List Int) (i k : Nat) (x : Int) : (l.set i x).getD k 0 = if k = i ∧ i < l.length then x else l.getD k 0 := by
  simp only [List.getD, List.getElem?_set]
  by_cases h : i = k
  · subst h
    by_cases hl : i < l.length
    · simp [hl]
    · simp [hl]
  · rw [if_neg h, if_neg (fun e => h e.1.symm)]
theorem incU_bound (o w : List Int) (B : Int) (hw : ∀ x, 0 ≤ w.getD x 0 ∧ w.getD x 0 ≤ B) : ∀ k x, 0 ≤ (incU o w k).getD x 0 ∧ (incU o w k).getD x 0 ≤ B + k
  | 0, x => by have := hw x; show 0 ≤ w.getD x 0 ∧ w.getD x 0 ≤ B + ((0 : Nat) : Int); omega
  | k + 1, x => by
    have h1 := incU_bound o w B hw k x
    have h2 := incU_bound o w B hw k (o.getD k 0).toNat
    rw [incU, getD_set_int]
    split
    · push_cast; omega
    · push_cast; omega
theorem incU_same (o w : List Int) (x : Nat) : ∀ k, (∀ m, m < k → (o.getD m 0).toNat ≠ x) → (incU o w k).getD x 0 = w.getD x 0
  | 0, _ => rfl
  | k + 1, h => by
    rw [incU, getD_set_int, if_neg (fun e => h k (by omega) e.1.symm)]
    exact incU_same o w x k fun m hm => h m (by omega)
def wtU (n : Nat) (o : List Int) (j : List Bool) : Nat → List Int × Int
  | 0 => (List.replicate n 0, 0)
  | i + 1 => if j.getD i false = true then ((wtU n o j i).1.set (o.getD i 0).toNat ((wtU n o j i).2 + 1), (wtU n o j i).2) else (incU o (wtU n o j i).1 i, (wtU n o j i).2 + 2)
theorem wtU_spec (n : Nat) (o : List Int) (j : List Bool) : ∀ i, (wtU n o j i).1.length = n ∧ (0 ≤ (wtU n o j i).2 ∧ (wtU n o j i).2 ≤ 2 * i) ∧ (∀ x, 0 ≤ (wtU n o j i).1.getD x 0 ∧ (wtU n o j i).1.getD x 0 ≤ 1000 * i * i)
  | 0 => ⟨by simp [wtU], by simp [wtU], fun x => by simp [wtU, List.getD, List.getElem?_replicate]; split <;> simp⟩
  | i + 1 => by
    obtain ⟨h1, h2, h3⟩ := wtU_spec n o j i
    have hq : (1000 : Int) * ((i + 1 : Nat) : Int) * ((i + 1 : Nat) : Int) = 1000 * i * i + 2000 * i + 1000 := by
      push_cast
      rw [Int.mul_assoc, Int.mul_assoc, Int.mul_add, Int.add_mul]
      omega
    unfold wtU
    split
    · refine ⟨by simp [h1], ⟨h2.1, by push_cast; omega⟩, fun x => ?_⟩
      have := h3 x
      rw [getD_set_int]
      split
      · rw [hq]; have := Int.mul_nonneg (show (0 : Int) ≤ 1000 * i by omega) (show (0 : Int) ≤ i by omega); omega
      · rw [hq]; omega
    · refine ⟨by simp [h1], ⟨by omega, by push_cast; omega⟩, fun x => ?_⟩
      have := incU_bound o (wtU n o j i).1 (1000 * i * i) h3 i x
      dsimp only
      rw [hq]; omega
theorem wtU_zero (n : Nat) (o : List Int) (j : List Bool) (x : Nat) : ∀ i, (∀ m, m < i → (o.getD m 0).toNat ≠ x) → (wtU n o j i).1.getD x 0 = 0
  | 0, _ => by simp [wtU, List.getD, List.getElem?_replicate]; split <;> rfl
  | i + 1, h => by
    have ih := wtU_zero n o j x i fun m hm => h m (by omega)
    unfold wtU
    split
    · dsimp only; rw [getD_set_int, if_neg (fun e => h i (by omega) e.1.symm)]; exact ih
    · dsimp only; rw [incU_same _ _ _ _ fun m hm => h m (by omega)]; exact ih
theorem set_same (l : List Int) (i : Nat) (h : l.getD i 0 = 0) (hi : i < l.length) : l.set i 0 = l := by
  apply List.ext_getElem (by simp)
  intro k h1 h2
  rw [List.getElem_set]
  split
  · next e => subst e; simpa [List.getD, hi] using h.symm
  · rfl
def wtW (size : Int) (rows : List Int) : List Int := if (thrX size rows).isSome = true then (wtU size.toNat (thrO size rows) (thrJ size rows) (thrO size rows).length).1 else []
def wtL (size : Int) (rows : List Int) : Int := if (thrX size rows).isSome = true then (wtU size.toNat (thrO size rows) (thrJ size rows) (thrO size rows).length).2 else 0
theorem wtW_length (size : Int) (rows : List Int) : (wtW size rows).length ≤ 7 := by
  unfold wtW
  split
  · next h =>
    have hg : IsG size rows := by
      apply Classical.byContradiction
      intro hg
      rw [thrX_none hg] at h; cases h
    rw [(wtU_spec _ _ _ _).1]
    have := hg.1; omega
  · simp
end Go.Pw
/- Searches through lists of four, and for holes. -/
namespace Go.Proofs.Ytkbjcfabbapnpaa
open Go Go.RowKit Go.Pw
theorem cast_arr {w : World} {sv : Value} {l m : List Int} (h : l = m) (ha : Arr w sv (ints l)) : Arr w sv (ints m) := h ▸ ha
end Go.Proofs.Ytkbjcfabbapnpaa
/- Draws: lists, orders, split graphs and threshold graphs. -/
namespace Go.Proofs.Ytkbjcfabbapnpaa
open Go Go.RowKit Go.Pw
theorem ints_app (a b : List Int) : ints (a ++ b) = ints a ++ ints b := List.map_append ..
theorem bools_app (a b : List Bool) : bools (a ++ b) = bools a ++ bools b := List.map_append ..
/-- Some list beside the cursor. -/
def LstP (cv : Value) (l : List Int) (cb lo hi : Nat) (v : Value) (new : List Ob) : Prop := ∃ L i h, (lo ≤ L.length ∧ L.length ≤ hi) ∧ (0 ≤ i ∧ i ≤ (l.length : Int)) ∧ new = [.row 3 v (ints L), .blk cb (cells3 cv i h)]
/-- Some graph, good or not, beside the cursor. -/
def AnyH (cv : Value) (l : List Int) (cb : Nat) (v : Value) (new : List Ob) : Prop := ∃ n gv rows i h, v = .agg #[.int .i64 n, gv] ∧ (0 ≤ i ∧ i ≤ (l.length : Int)) ∧ new = [.row 3 gv (ints rows), .blk cb (cells3 cv i h)]
theorem s_AddEdge_g (n : Int) (gv : Value) (rows : List Int) (v u : Nat) (w : World) (hr : Arr w gv (ints rows)) (hg : IsG n rows) (hv : (v : Int) < n) (hu : u < v) :
    Gives Try.prog 61 #[.agg #[.int .i64 n, gv], .int .i64 v, .int .i64 u] w (fun x objs => ∃ sv' bb rows', IsG n rows' ∧ storable sv' = true ∧ x = .tuple #[.agg #[.int .i64 n, sv'], .bool bb] ∧ objs = [.row 3 sv' (ints rows')]) := by
  obtain ⟨m, rfl, hrl, h1, h7⟩ := isG_size hg
  have hb := bits_rows hg
  rw [hrl] at hb
  have hs := bits_sym hg
  have hi := bits_irr hg
  generalize bitsP rows = P at *
  subst hb
  have := s_AddEdge3_c m gv P v u w hr h1 h7 hs hi (by omega) (by omega) (by omega)
  refine ⟨this.entry, this.out.mono fun e w' ⟨x, objs, he, ⟨sv', bb, h3, hx, ho⟩, hc⟩ => ⟨x, objs, he, ⟨sv', bb, _, gRows_isG h1 h7 (P := pairAdd P v u) (fun x y => ?_) (fun x => ?_), h3, hx, ho⟩, hc⟩⟩
  · unfold pairAdd
    rw [hs x y]
    congr 1
    rw [Bool.or_comm]
    congr 1 <;> exact decide_eq_decide.2 ⟨fun h => ⟨h.2, h.1⟩, fun h => ⟨h.2, h.1⟩⟩
  · unfold pairAdd
    rw [hi x, Bool.false_or, Bool.or_eq_false_iff]
    exact ⟨decide_eq_false fun h => by omega, decide_eq_false fun h => by omega⟩
theorem s_RemoveEdge_g (n : Int) (gv : Value) (rows : List Int) (v u : Nat) (w : World) (hr : Arr w gv (ints rows)) (hg : IsG n rows) (hv : (v : Int) < n) (hu : u < v) :
    Gives Try.prog 42 #[.agg #[.int .i64 n, gv], .int .i64 v, .int .i64 u] w (fun x objs => ∃ sv' bb rows', IsG n rows' ∧ storable sv' = true ∧ x = .tuple #[.agg #[.int .i64 n, sv'], .bool bb] ∧ objs = [.row 3 sv' (ints rows')]) := by
  obtain ⟨m, rfl, hrl, h1, h7⟩ := isG_size hg
  have hb := bits_rows hg
  rw [hrl] at hb
  have hs := bits_sym hg
  have hi := bits_irr hg
  generalize bitsP rows = P at *
  subst hb
  have := s_RemoveEdge_c m gv P v u w hr h1 h7 hs hi (by omega) (by omega) (by omega)
  refine ⟨this.entry, this.out.mono fun e w' ⟨x, objs, he, ⟨sv', hx, ho⟩, hc⟩ => ⟨x, objs, he, ⟨sv', P v u, _, gRows_isG h1 h7 (P := remP P v u) (fun x y => ?_) (fun x => ?_), ?_, hx, ho⟩, hc⟩⟩
  · unfold remP
    rw [hs x y]
    congr 2
    rw [Bool.or_comm]
    congr 1 <;> exact decide_eq_decide.2 ⟨fun h => ⟨h.2, h.1⟩, fun h => ⟨h.2, h.1⟩⟩
  · unfold remP
    rw [hi x, Bool.false_and]
  · subst ho
    exact stor_arr (arr_of_row (hc.holds _ (List.mem_singleton_self _)))
end Go.Proofs.Ytkbjcfabbapnpaa
