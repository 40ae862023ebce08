import Derived.Test.YtoejpckfeflkaaaGreatDoorPwPfl
import Derived.Test.YtoejpckfeflkaaaGreatDoorPwMod
import Derived.Test.YtoejpckfeflkaaaGreatDoorPwPlc
import Derived.Test.YtoejpckfeflkaaaGreatDoorPwPld
import Derived.Test.YtoejpckfeflkaaaGreatDoorPwPtw
import Derived.Test.YtoejpckfeflkaaaGreatDoorPwPcx
import Derived.Test.YtoejpckfeflkaaaGreatDoorPwPqg
import Derived.Test.YtoejpckfeflkaaaGreatDoorPwPpe
import Derived.Test.YtoejpckfeflkaaaGreatDoorPwPkd
/- The plain mathematics of searches through all lists of four. -/
namespace Go.Pw
open Go
theorem firstG_pre {N : Nat} {ok : List Int → Int → Bool} {fin : List Int → Bool} : ∀ (d : Nat) (l L : List Int), firstG N ok fin d l = some L → (∃ m, L = l ++ m) ∧ fin L = true
  | 0, l, L, h => by
    unfold firstG at h
    split at h
    · obtain rfl := Option.some.inj h; exact ⟨⟨[], by simp⟩, by assumption⟩
    · cases h
  | d + 1, l, L, h => by
    unfold firstG at h
    obtain ⟨v, _, hv⟩ := List.exists_of_findSome?_eq_some h
    split at hv
    · obtain ⟨⟨m, hm⟩, hf⟩ := firstG_pre d _ L hv
      exact ⟨⟨(v : Int) :: m, by rw [hm]; simp⟩, hf⟩
    · cases hv
theorem apart_pre {l m : List Int} {v : Int} (h : apartL (l ++ [v] ++ m)) : v ∉ l := fun hv => by
  obtain ⟨i, hi, rfl⟩ := mem_getD hv
  refine h l.length (by simp) i hi ?_
  simp [List.getD, hi, List.getElem?_append_left, List.getElem?_append]
/-- Where the end asks for different members, the search need not. -/
theorem firstG_all4 {N : Nat} {fin : List Int → Bool} (hf : ∀ L, fin L = true → apartL L) : ∀ (d : Nat) (l : List Int), firstG N (okI fun _ => true) fin d l = firstG N (fun _ _ => true) fin d l
  | 0, _ => rfl
  | d + 1, l => by
    unfold firstG
    refine findSome_congr fun v _ => ?_
    by_cases h : (v : Int) ∈ l
    · have h1 : okI (fun _ => true) l (v : Int) = false := by simp [okI, h]
      rw [if_neg (by rw [h1]; exact Bool.false_ne_true), if_pos rfl]
      cases hg : firstG N (fun _ _ => true) fin d (l ++ [(v : Int)]) with
      | none => rfl
      | some L =>
        obtain ⟨⟨m, hm⟩, hL⟩ := firstG_pre d _ L hg
        exact (apart_pre (m := m) (by rw [← hm]; exact hf L hL) h).elim
    · have h1 : okI (fun _ => true) l (v : Int) = true := by simp [okI, h]
      rw [if_pos h1, if_pos rfl, firstG_all4 hf d]
/-- The four members that a number codes. -/
def digs (N c : Nat) : List Int := [((c / (N * N * N) : Nat) : Int), ((c / (N * N) % N : Nat) : Int), ((c / N % N : Nat) : Int), ((c % N : Nat) : Int)]
def fourK (N : Nat) (fin : List Int → Bool) (k : Nat) : Option (List Int) := (List.range k).findSome? fun c => if fin (digs N c) = true then some (digs N c) else none
theorem digs_of {N a b c d : Nat} (hb : b < N) (hc : c < N) (hd : d < N) : digs N (((a * N + b) * N + c) * N + d) = [(a : Int), (b : Int), (c : Int), (d : Int)] := by
  have hN : 0 < N := by omega
  have q : ∀ x y, y < N → (x * N + y) / N = x := fun x y hy => by
    rw [Nat.add_comm, Nat.add_mul_div_right _ _ hN, Nat.div_eq_of_lt hy, Nat.zero_add]
  have m : ∀ x y, y < N → (x * N + y) % N = y := fun x y hy => by
    rw [Nat.add_comm, Nat.add_mul_mod_self_right, Nat.mod_eq_of_lt hy]
  have e1 : (((a * N + b) * N + c) * N + d) / (N * N * N) = a := by rw [← Nat.div_div_eq_div_mul, ← Nat.div_div_eq_div_mul, q _ _ hd, q _ _ hc, q _ _ hb]
  have e2 : (((a * N + b) * N + c) * N + d) / (N * N) % N = b := by rw [← Nat.div_div_eq_div_mul, q _ _ hd, q _ _ hc, m _ _ hb]
  have e3 : (((a * N + b) * N + c) * N + d) / N % N = c := by rw [q _ _ hd, m _ _ hc]
  unfold digs
  rw [e1, e2, e3, m _ _ hd]
theorem four_first (N : Nat) (fin : List Int → Bool) : firstG N (fun _ _ => true) fin 4 [] = fourK N fin (N * N * N * N) := by
  unfold fourK
  rw [← range_nest N _ (N * N * N), ← range_nest N _ (N * N), ← range_nest N _ N]
  show (List.range N).findSome? _ = _
  refine findSome_congr fun a _ => ?_
  rw [if_pos rfl]
  show (List.range N).findSome? _ = _
  refine findSome_congr fun b hb => ?_
  rw [if_pos rfl]
  show (List.range N).findSome? _ = _
  refine findSome_congr fun c hc => ?_
  rw [if_pos rfl]
  show (List.range N).findSome? _ = _
  refine findSome_congr fun d hd => ?_
  rw [if_pos rfl, digs_of (List.mem_range.1 hb) (List.mem_range.1 hc) (List.mem_range.1 hd)]
  rfl
def fourX (size : Int) (rows : List Int) (fin : List Int → Bool) : Option (List Int) := if IsG size rows then fourK size.toNat fin (size.toNat * size.toNat * size.toNat * size.toNat) else none
theorem four_firstX {size : Int} {rows : List Int} {fin : List Int → Bool} (hf : ∀ L, fin L = true → apartL L) : firstX size rows (fun _ => true) fin 4 = fourX size rows fin := by
  unfold firstX fourX
  rw [firstG_all4 hf, four_first]
theorem fourK_succ (N : Nat) (fin : List Int → Bool) (k : Nat) (h : fourK N fin k = none) : fourK N fin (k + 1) = if fin (digs N k) = true then some (digs N k) else none := by
  unfold fourK at h ⊢
  rw [List.range_succ, List.findSome?_append, h]; simp
theorem fourK_hit {N k M : Nat} {fin : List Int → Bool} (h : fourK N fin k = none) (hk : k < M) (hf : fin (digs N k) = true) : fourK N fin M = some (digs N k) := by
  have h1 := fourK_succ N fin k h
  rw [if_pos hf] at h1
  unfold fourK at h1 ⊢
  have hm : List.range M = List.range (k + 1) ++ (List.range (M - (k + 1))).map (fun x => k + 1 + x) := by rw [← List.range_add]; congr 1; omega
  rw [hm]
  exact findSome_prefix _ _ _ _ h1
theorem fourX_len (size : Int) (rows : List Int) (fin : List Int → Bool) : ((fourX size rows fin).getD []).length ≤ 4 := by
  cases h : fourX size rows fin with
  | none => simp
  | some L =>
    unfold fourX at h
    split at h
    · obtain ⟨c, _, hc⟩ := List.exists_of_findSome?_eq_some h
      split at hc
      · obtain rfl := Option.some.inj hc; simp [digs]
      · cases hc
    · cases h
theorem pow_bounds {N : Nat} (h1 : 1 ≤ N) (h7 : N ≤ 7) : (1 ≤ (N : Int) * N ∧ (N : Int) * N ≤ 49) ∧ (1 ≤ (N : Int) * N * N ∧ (N : Int) * N * N ≤ 343) ∧ (1 ≤ (N : Int) * N * N * N ∧ (N : Int) * N * N * N ≤ 2401) := by
  have : N = 1 ∨ N = 2 ∨ N = 3 ∨ N = 4 ∨ N = 5 ∨ N = 6 ∨ N = 7 := by omega
  rcases this with rfl | rfl | rfl | rfl | rfl | rfl | rfl <;> decide
theorem digs_int {N c : Nat} (hc : c ≤ 2401) :
    w64 ((c : Int).tdiv ((N : Int) * N * N)) = ((c / (N * N * N) : Nat) : Int) ∧ (w64 ((c : Int).tdiv ((N : Int) * N))).tmod N = ((c / (N * N) % N : Nat) : Int) ∧ (w64 ((c : Int).tdiv N)).tmod N = ((c / N % N : Nat) : Int) ∧ (c : Int).tmod N = ((c % N : Nat) : Int) := by
  have q : ∀ m : Nat, w64 ((c : Int).tdiv (m : Int)) = ((c / m : Nat) : Int) := fun m => by
    rw [← Int.ofNat_tdiv]
    have := Nat.div_le_self c m
    generalize c / m = k at this
    exact w64_in ⟨by omega, by omega⟩
  have e3 : (N : Int) * N * N = ((N * N * N : Nat) : Int) := by simp
  have e2 : (N : Int) * N = ((N * N : Nat) : Int) := by simp
  rw [e3, e2, q, q, q]
  refine ⟨rfl, ?_, ?_, ?_⟩ <;> rw [← Int.ofNat_tmod]
/-- Holes of at least m vertices, the shortest first. -/
def holeT (size : Int) (rows : List Int) (n : Nat) : Option (List Int) := firstX size rows (fun l => decide (l.length = n) || decide (pathP size rows l)) (fun l => decide (holeP size rows l)) n
def holeK (size : Int) (rows : List Int) (k : Nat) : Option (List Int) := (List.range k).findSome? fun i => holeT size rows (4 + i)
def holeX (size : Int) (rows : List Int) : Option (List Int) := holeK size rows (size.toNat - 3)
theorem holeK_succ (size : Int) (rows : List Int) (k : Nat) (h : holeK size rows k = none) : holeK size rows (k + 1) = holeT size rows (4 + k) := by
  unfold holeK at h ⊢
  rw [List.range_succ, List.findSome?_append, h]; simp
theorem holeK_hit {size : Int} {rows : List Int} {k M : Nat} {L : List Int} (h : holeK size rows k = none) (hk : k < M) (hf : holeT size rows (4 + k) = some L) : holeK size rows M = some L := by
  have h1 := holeK_succ size rows k h
  rw [hf] at h1
  unfold holeK at h1 ⊢
  have hm : List.range M = List.range (k + 1) ++ (List.range (M - (k + 1))).map (fun x => k + 1 + x) := by rw [← List.range_add]; congr 1; omega
  rw [hm]
  exact findSome_prefix _ _ _ _ h1
theorem holeX_none {size : Int} {rows : List Int} (h : ¬ IsG size rows) : holeX size rows = none := by
  unfold holeX holeK
  rw [List.findSome?_eq_none_iff]
  intro i _
  unfold holeT firstX
  rw [if_neg h]
theorem holeX_len {size : Int} {rows : List Int} : ((holeX size rows).getD []).length ≤ 7 := by
  by_cases hg : IsG size rows
  · cases h : holeX size rows with
    | none => simp
    | some L =>
      obtain ⟨i, hi, hL⟩ := List.exists_of_findSome?_eq_some h
      have h2 := firstX_len (size := size) (rows := rows) (may := fun l => decide (l.length = 4 + i) || decide (pathP size rows l)) (fin := fun l => decide (holeP size rows l)) (n := 4 + i)
      have h3 := hg.1.2
      have h4 := List.mem_range.1 hi
      unfold holeT at hL
      rw [hL] at h2
      simp only [Option.getD_some] at h2 ⊢
      omega
  · rw [holeX_none hg]; simp
/-- The reference's search for a hole of m + 1 vertices. -/
theorem hole_firstR {size : Int} {rows : List Int} {m : Nat} (hg : IsG size rows) :
    firstG size.toNat (okR (fun x => decide (pathP size rows x)) (fun x => decide (holeP size rows x)) (m + 1) true) (finS (fun x => decide (holeP size rows x)) true) (m + 1) [] = holeT size rows (m + 1) := by
  unfold holeT firstX
  rw [if_pos hg]
  refine firstG_congr (n := m + 1) (fun l v _ h => ?_) (fun l v _ h => ?_) m [] (by simp)
  · have h1 : ¬ l.length + 1 = m + 1 := by omega
    have := path_okI (size := size) (rows := rows) l (v : Int)
    unfold okI at this ⊢
    unfold okR
    dsimp only at this ⊢
    rw [← this]
    simp [h1, show ¬ l.length = m by omega]
  · have h1 : (l ++ [(v : Int)]).length = m + 1 := by simp; omega
    unfold okR okI finS
    simp only [h1, h, decide_true, Bool.true_and, Bool.true_or, if_true, Bool.and_true]
    by_cases hh : holeP size rows (l ++ [(v : Int)])
    · have := apart_last hh.2.1.2.2
      simp [hh, this]
    · simp [hh]
def splitObsX (size : Int) (rows : List Int) : Option (List Int) := (fourX size rows fun l => decide (twoP size rows l)).or (holeX size rows)
theorem splitObs_len {size : Int} {rows : List Int} : ((splitObsX size rows).getD []).length ≤ 7 := by
  unfold splitObsX
  have h1 := fourX_len size rows fun l => decide (twoP size rows l)
  have h2 := holeX_len (size := size) (rows := rows)
  cases h : fourX size rows fun l => decide (twoP size rows l) with
  | none => simpa using h2
  | some L => rw [h] at h1; simp at h1 ⊢; omega
theorem two_apart {size : Int} {rows : List Int} (L : List Int) (h : decide (twoP size rows L) = true) : apartL L := (of_decide_eq_true h).2.1.2.2
theorem thrObs_apart {size : Int} {rows : List Int} (L : List Int) (h : decide (thrObsP size rows L) = true) : apartL L := by
  rcases (of_decide_eq_true h).2 with h | h | h
  · exact h.2.1.2.2
  · exact h.2.1.2.2
  · exact h.2.1.2.2
end Go.Pw
/- The plain mathematics of taking members out of a list in place; splits counted. -/
namespace Go.Pw
open Go
/-- Where the first taken member stands, all before it stay. -/
theorem idx_keep {p : Int → Bool} {L : List Int} {k : Nat} (h : idxF p L = k) : k < L.length ∧ p (L.getD k 0) = true ∧ (L.take k).filter (fun x => !p x) = L.take k := by
  have hr := idxF_range p L
  have h0 : 0 ≤ idxF p L := by omega
  have hk : k < L.length := by omega
  have h1 := (idxF_find p L).2 h0
  rw [h, Int.toNat_natCast] at h1
  refine ⟨hk, by have := List.find?_some h1; simpa using this, ?_⟩
  rw [List.filter_eq_self]
  intro x hx
  obtain ⟨i, hi, rfl⟩ := (mem_take (by omega)).1 hx
  cases hp : p (L.getD i 0) with
  | false => rfl
  | true =>
    exfalso
    by_cases hall : ∀ j, j < i → p (L.getD j 0) = false
    · have := idxF_some p L i (by omega) hp hall
      omega
    · have : ∃ j, j < i ∧ p (L.getD j 0) = true := by
        apply Classical.byContradiction
        intro hn
        apply hall
        intro j hj
        cases hpj : p (L.getD j 0) with
        | false => rfl
        | true => exact (hn ⟨j, hj, hpj⟩).elim
      clear hall
      have key : ∀ m, m ≤ i → p (L.getD m 0) = true → ∃ j, j ≤ m ∧ p (L.getD j 0) = true ∧ ∀ q, q < j → p (L.getD q 0) = false := by
        intro m
        induction m using Nat.strongRecOn with
        | ind m ih =>
          intro hm hpm
          by_cases hq : ∃ q, q < m ∧ p (L.getD q 0) = true
          · obtain ⟨q, hq1, hq2⟩ := hq
            obtain ⟨j, hj1, hj2, hj3⟩ := ih q hq1 (by omega) hq2
            exact ⟨j, by omega, hj2, hj3⟩
          · refine ⟨m, Nat.le_refl _, hpm, fun q hq1 => ?_⟩
            cases hpq : p (L.getD q 0) with
            | false => rfl
            | true => exact (hq ⟨q, hq1, hpq⟩).elim
      obtain ⟨j, hj1, hj2, hj3⟩ := key i (Nat.le_refl _) hp
      have := idxF_some p L j (by omega) hj2 hj3
      omega
theorem idx_none_keep {p : Int → Bool} {L : List Int} (h : idxF p L < 0) : L.filter (fun x => !p x) = L := by
  have h1 := (idxF_find p L).1 h
  rw [List.filter_eq_self]
  intro x hx
  have := List.find?_eq_none.1 h1 x hx
  simpa using this
/-- A list M that holds the kept members of the first j at its first i places, and the rest of L behind. -/
structure Kept (p : Int → Bool) (L M : List Int) (i j : Nat) : Prop where
  ij : i < j
  jl : j ≤ L.length
  len : M.length = L.length
  left : M.take i = (L.take j).filter (fun x => !p x)
  right : M.drop j = L.drop j
theorem Kept.get {p : Int → Bool} {L M : List Int} {i j : Nat} (h : Kept p L M i j) (hj : j < L.length) : M.getD j 0 = L.getD j 0 := by
  have := congrArg (fun l => l.getD 0 0) h.right
  simpa [List.getD, List.getElem?_drop] using this
theorem Kept.start {p : Int → Bool} {L : List Int} {k : Nat} (h : idxF p L = k) : Kept p L L k (k + 1) := by
  obtain ⟨h1, h2, h3⟩ := idx_keep h
  refine ⟨by omega, by omega, rfl, ?_, rfl⟩
  rw [take_snoc h1, List.filter_append, h3]
  generalize L.getD k 0 = y at h2 ⊢
  simp [h2]
theorem Kept.yes {p : Int → Bool} {L M : List Int} {i j : Nat} (h : Kept p L M i j) (hj : j < L.length) (hp : p (L.getD j 0) = false) : Kept p L (M.set i (L.getD j 0)) (i + 1) (j + 1) := by
  have h1 := h.ij
  have h2 := h.len
  refine ⟨by omega, by omega, by simp [h2], ?_, ?_⟩
  · rw [take_snoc hj, List.filter_append, ← h.left, List.take_add_one, List.getElem?_set_self (by omega), List.take_set_of_le (Nat.le_refl _)]
    generalize L.getD j 0 = y at hp ⊢
    simp [hp]
  · rw [List.drop_set_of_lt (by omega), ← List.drop_drop, h.right, List.drop_drop]
theorem Kept.no {p : Int → Bool} {L M : List Int} {i j : Nat} (h : Kept p L M i j) (hj : j < L.length) (hp : p (L.getD j 0) = true) : Kept p L M i (j + 1) := by
  have h1 := h.ij
  refine ⟨by omega, by omega, h.len, ?_, ?_⟩
  · rw [take_snoc hj, List.filter_append, ← h.left]
    generalize L.getD j 0 = y at hp ⊢
    simp [hp]
  · rw [← List.drop_drop, h.right, List.drop_drop]
theorem Kept.done {p : Int → Bool} {L M : List Int} {i : Nat} (h : Kept p L M i L.length) : M.take i = L.filter (fun x => !p x) ∧ i = (L.filter (fun x => !p x)).length := by
  have h1 := h.left
  rw [List.take_length] at h1
  refine ⟨h1, ?_⟩
  rw [← h1, List.length_take, h.len]
  have := h.ij; omega
def csU (p : Int → Bool) (k : Nat) : Nat := (((List.range k).map Int.ofNat).filter p).length
theorem csU_succ (p : Int → Bool) (k : Nat) : csU p (k + 1) = if p (k : Int) = true then csU p k + 1 else csU p k := by
  unfold csU
  rw [List.range_succ, List.map_append, List.filter_append]
  by_cases h : p (k : Int) = true
  · rw [if_pos h]; simp [h]
  · rw [if_neg h]; simp [h]
theorem csU_le (p : Int → Bool) (k : Nat) : csU p k ≤ k := by
  unfold csU
  refine Nat.le_trans (List.length_filter_le _ _) ?_
  simp
def csX (size : Int) (rows : List Int) : Int := if IsG size rows then (csU (fun s => decide (splitP size rows s)) (ishl 1 size).toNat : Nat) else 0
end Go.Pw
/- The plain mathematics of split graphs: no two edges apart, no holes of four and five give a split; eliminations. -/
namespace Go.Pw
open Go
def N2f (E : Nat → Nat → Bool) : Prop := ∀ a b c d, E a b = true → E c d = true → E a c = false → E a d = false → E b c = false → E b d = false → False
def N4f (E : Nat → Nat → Bool) : Prop := ∀ a b c d, E a b = true → E b c = true → E c d = true → E d a = true → E a c = false → E b d = false → a ≠ c → b ≠ d → False
def N5f (E : Nat → Nat → Bool) : Prop := ∀ a b c d e, E a b = true → E b c = true → E c d = true → E d e = true → E e a = true → E a c = false → E a d = false → E b d = false → E b e = false → E c e = false → False
theorem mostS {p : Nat → Prop} (f : Nat → Nat) : ∀ k, (∃ v, v < k ∧ p v) → ∃ v, v < k ∧ p v ∧ ∀ u, u < k → p u → f u ≤ f v
  | 0, h => by obtain ⟨v, hv, _⟩ := h; omega
  | k + 1, h => by
    by_cases hk : ∃ v, v < k ∧ p v
    · obtain ⟨v, h1, h2, h3⟩ := mostS f k hk
      by_cases hp : p k ∧ f v < f k
      · refine ⟨k, by omega, hp.1, fun u hu hpu => ?_⟩
        by_cases e : u = k
        · subst e; exact Nat.le_refl _
        · have := h3 u (by omega) hpu; omega
      · refine ⟨v, by omega, h2, fun u hu hpu => ?_⟩
        by_cases e : u = k
        · subst e
          rcases Nat.lt_or_ge (f v) (f u) with h4 | h4
          · exact absurd ⟨hpu, h4⟩ hp
          · exact h4
        · exact h3 u (by omega) hpu
    · obtain ⟨v, h1, h2⟩ := h
      have e : v = k := by
        rcases Nat.lt_or_ge v k with h3 | h3
        · exact absurd ⟨v, h3, h2⟩ hk
        · omega
      subst e
      refine ⟨v, by omega, h2, fun u hu hpu => ?_⟩
      by_cases e : u = v
      · subst e; exact Nat.le_refl _
      · exact absurd ⟨u, by omega, hpu⟩ hk
theorem count_backS {p q : Nat → Bool} : ∀ (l : List Nat), (∀ x ∈ l, p x = true → q x = true) → l.countP q ≤ l.countP p → ∀ x ∈ l, q x = true → p x = true
  | [], _, _, _, hx => by cases hx
  | a :: l, h1, h2, x, hx => by
    rw [List.countP_cons, List.countP_cons] at h2
    have hle : l.countP p ≤ l.countP q := List.countP_mono_left fun y hy hp => h1 y (List.mem_cons_of_mem _ hy) hp
    have ha := h1 a (List.mem_cons_self ..)
    have key : (q a = true → p a = true) ∧ l.countP q ≤ l.countP p := by
      cases hpa : p a with
      | true => rw [hpa, ha hpa] at h2; exact ⟨fun _ => rfl, by simp at h2; omega⟩
      | false =>
        rw [hpa] at h2
        cases hqa : q a with
        | true => rw [hqa] at h2; simp at h2; omega
        | false => rw [hqa] at h2; exact ⟨fun h => h, by simp at h2; omega⟩
    intro hq
    rcases List.mem_cons.1 hx with rfl | hx
    · exact key.1 hq
    · exact count_backS l (fun y hy => h1 y (List.mem_cons_of_mem _ hy)) key.2 x hx hq
/-- The sum of weights of those below k that hold. -/
def wSum (c : Nat → Nat) (p : Nat → Bool) : Nat → Nat
  | 0 => 0
  | k + 1 => wSum c p k + if p k = true then c k else 0
theorem wSum_congr {c : Nat → Nat} {p q : Nat → Bool} : ∀ k, (∀ v, v < k → p v = q v) → wSum c p k = wSum c q k
  | 0, _ => rfl
  | k + 1, h => by rw [wSum, wSum, wSum_congr k fun v hv => h v (by omega), h k (by omega)]
theorem wSum_add {c : Nat → Nat} {p : Nat → Bool} {u : Nat} (hu : p u = false) : ∀ k, u < k → wSum c (fun v => p v || decide (v = u)) k = wSum c p k + c u
  | 0, h => by omega
  | k + 1, h => by
    rw [wSum, wSum]
    by_cases e : u = k
    · subst e
      rw [wSum_congr (q := p) u fun v hv => by rw [show decide (v = u) = false from decide_eq_false (by omega)]; simp, hu]
      simp
    · rw [wSum_add hu k (by omega), show decide (k = u) = false from decide_eq_false (by omega)]
      simp
      omega
def degF (E : Nat → Nat → Bool) (v : Nat) : Nat := (List.range 7).countP (E v)
/-- The heart: an edge outside a clique of most weight is none. -/
theorem split_core {E : Nat → Nat → Bool} (hs : ∀ x y, E x y = E y x) (hirr : ∀ x, E x x = false) (h7 : ∀ x y, E x y = true → y < 7) (h2 : N2f E) (h4 : N4f E) (h5 : N5f E) {K : Nat} (hK : clqM E K)
    (hmax : ∀ u, u < 7 → K.testBit u = false → ∃ z, K.testBit z = true ∧ E u z = false)
    (hswap : ∀ x z, x < 7 → K.testBit x = false → K.testBit z = true → (∀ w, K.testBit w = true → w ≠ z → E x w = true) → degF E x ≤ degF E z)
    {x y : Nat} (hx : K.testBit x = false) (hy : K.testBit y = false) (hxy : E x y = true) (hsub : ∀ z, K.testBit z = true → E z x = false → E z y = false) : False := by
  have ne : ∀ {u v : Nat}, K.testBit u = true → K.testBit v = false → u ≠ v := fun {u v} h1 h2 e => by subst e; rw [h1] at h2; cases h2
  have x7 : x < 7 := h7 y x (by rw [hs]; exact hxy)
  obtain ⟨z, hz, hxz⟩ := hmax x x7 hx
  have hzx : E z x = false := by rw [hs]; exact hxz
  have hzy := hsub z hz hzx
  have huniq : ∀ w, K.testBit w = true → w ≠ z → E x w = true := fun w hw hwz => by
    cases hxw : E x w with
    | true => rfl
    | false =>
      have hwx : E w x = false := by rw [hs]; exact hxw
      exact (h2 w z x y (hK w z hw hz hwz) hxy hwx (hsub w hw hwx) hzx hzy).elim
  have hd := hswap x z x7 hx hz huniq
  have hex : ∃ t, E z t = true ∧ E x t = false := by
    apply Classical.byContradiction
    intro hn
    have hall : ∀ t ∈ List.range 7, E z t = true → E x t = true := fun t _ ht => by
      cases hxt : E x t with
      | true => rfl
      | false => exact absurd ⟨t, ht, hxt⟩ hn
    have := count_backS (List.range 7) hall hd y (List.mem_range.2 (h7 _ _ hxy)) hxy
    rw [hzy] at this
    cases this
  obtain ⟨t, hzt, hxt⟩ := hex
  have ht7 := h7 _ _ hzt
  have htK : K.testBit t = false := by
    cases hk : K.testBit t with
    | false => rfl
    | true =>
      by_cases e : t = z
      · subst e; rw [hirr] at hzt; cases hzt
      · rw [huniq t hk e] at hxt; cases hxt
  have htx : E t x = false := by rw [hs]; exact hxt
  have hty : E t y = true := by
    cases h : E t y with
    | true => rfl
    | false => exact (h2 z t x y hzt hxy hzx hzy htx h).elim
  obtain ⟨w, hw, htw⟩ := hmax t ht7 htK
  have hwz : w ≠ z := fun e => by subst e; rw [hs, hzt] at htw; cases htw
  have hxw := huniq w hw hwz
  have hwz' := hK w z hw hz hwz
  cases hyw : E y w with
  | true => exact h4 z t y w hzt hty hyw hwz' hzy htw (ne hz hy) (fun e => ne hw htK e.symm)
  | false => exact h5 z t y x w hzt hty (by rw [hs]; exact hxy) hxw hwz' hzy hzx htx htw hyw
/-- No two edges apart, no hole of four or five: the graph is split. -/
theorem split_free {E : Nat → Nat → Bool} {n : Nat} (hn : n ≤ 7) (hs : ∀ x y, E x y = E y x) (hirr : ∀ x, E x x = false) (hE : ∀ x y, E x y = true → y < n) (h2 : N2f E) (h4 : N4f E) (h5 : N5f E) :
    ∃ K, K < 2 ^ n ∧ clqM E K ∧ ∀ x y, x < n → y < n → K.testBit x = false → K.testBit y = false → E x y = false := by
  let c : Nat → Nat := fun v => 100 + degF E v
  have hpos : 0 < 2 ^ n := Nat.pow_pos (by omega)
  obtain ⟨K, k1, k2, k3⟩ := mostS (p := fun K => clqM E K) (fun K => wSum c K.testBit 7) (2 ^ n) ⟨0, hpos, fun x y hx => by simp at hx⟩
  have hbit : ∀ (p : Nat → Bool) i, (∀ i, p i = true → i < n) → (maskU p n).testBit i = p i := fun p i hp => by
    rw [maskU_bit]
    cases h : p i with
    | false => simp
    | true => rw [decide_eq_true (hp i h)]; rfl
  have hKn : ∀ i, K.testBit i = true → i < n := fun i hi => has_lt k1 hi
  have h7 : ∀ x y, E x y = true → y < 7 := fun x y h => by have := hE x y h; omega
  have hmax : ∀ u, u < n → K.testBit u = false → ∃ z, K.testBit z = true ∧ E u z = false := fun u hu hku => by
    apply Classical.byContradiction
    intro hno
    have hall : ∀ z, K.testBit z = true → E u z = true := fun z hz => by
      cases h : E u z with
      | true => rfl
      | false => exact absurd ⟨z, hz, h⟩ hno
    let p : Nat → Bool := fun v => K.testBit v || decide (v = u)
    have hp : ∀ i, p i = true → i < n := fun i hi => by
      simp only [p, Bool.or_eq_true, decide_eq_true_eq] at hi
      rcases hi with hi | rfl
      · exact hKn i hi
      · exact hu
    have hb := fun i => hbit p i hp
    have := k3 (maskU p n) (maskU_lt _ _) (fun x y hx hy hne => by
      rw [hb] at hx hy
      simp only [p, Bool.or_eq_true, decide_eq_true_eq] at hx hy
      rcases hx with hx | rfl <;> rcases hy with hy | rfl
      · exact k2 x y hx hy hne
      · rw [hs]; exact hall x hx
      · exact hall y hy
      · exact absurd rfl hne)
    rw [wSum_congr (q := p) 7 fun v _ => hb v, wSum_add hku 7 (by omega)] at this
    dsimp only [c] at this
    omega
  have hswap : ∀ x z, x < 7 → K.testBit x = false → K.testBit z = true → (∀ w, K.testBit w = true → w ≠ z → E x w = true) → degF E x ≤ degF E z := fun x z _ hx hz hall => by
    by_cases hxn : x < n
    case neg =>
      have : degF E x = 0 := by
        unfold degF
        rw [List.countP_eq_zero]
        intro y _ h
        exact hxn (hE y x (by rw [hs]; exact h))
      omega
    let q : Nat → Bool := fun v => K.testBit v && !decide (v = z)
    let p : Nat → Bool := fun v => q v || decide (v = x)
    have hqx : q x = false := by simp only [q, hx, Bool.false_and]
    have hqz : q z = false := by simp [q]
    have hp : ∀ i, p i = true → i < n := fun i hi => by
      simp only [p, q, Bool.or_eq_true, Bool.and_eq_true, decide_eq_true_eq] at hi
      rcases hi with hi | rfl
      · exact hKn i hi.1
      · exact hxn
    have hb := fun i => hbit p i hp
    have := k3 (maskU p n) (maskU_lt _ _) (fun a b ha hb' hne => by
      rw [hb] at ha hb'
      simp only [p, q, Bool.or_eq_true, Bool.and_eq_true, Bool.not_eq_true', decide_eq_true_eq, decide_eq_false_iff_not] at ha hb'
      rcases ha with ha | rfl <;> rcases hb' with hb' | rfl
      · exact k2 a b ha.1 hb'.1 hne
      · rw [hs]; exact hall a ha.1 ha.2
      · exact hall b hb'.1 hb'.2
      · exact absurd rfl hne)
    rw [wSum_congr (q := p) 7 fun v _ => hb v, wSum_add hqx 7 (by omega)] at this
    have hz7 : z < 7 := by have := hKn z hz; omega
    have e : wSum c K.testBit 7 = wSum c q 7 + c z := by
      rw [← wSum_add hqz 7 hz7]
      refine wSum_congr 7 fun v _ => ?_
      by_cases e : v = z
      · subst e; simp [hz]
      · simp [q, e]
    rw [e] at this
    dsimp only [c] at this
    omega
  have hmax7 : ∀ u, u < 7 → K.testBit u = false → n ≤ u ∨ ∃ z, K.testBit z = true ∧ E u z = false := fun u _ hk => by
    by_cases h : u < n
    · exact .inr (hmax u h hk)
    · exact .inl (by omega)
  refine ⟨K, k1, k2, fun x y hx hy kx ky => ?_⟩
  cases hxy : E x y with
  | false => rfl
  | true =>
    exfalso
    have hmax' : ∀ u, u < 7 → K.testBit u = false → ∃ z, K.testBit z = true ∧ E u z = false := fun u hu hk => by
      rcases hmax7 u hu hk with h | h
      · obtain ⟨z, hz, _⟩ := hmax x hx kx
        refine ⟨z, hz, ?_⟩
        cases h' : E u z with
        | false => rfl
        | true => have := hE z u (by rw [hs]; exact h'); omega
      · exact h
    have ne : ∀ {u v : Nat}, K.testBit u = true → K.testBit v = false → u ≠ v := fun {u v} h1 h2 e => by subst e; rw [h1] at h2; cases h2
    by_cases hP : ∃ z, K.testBit z = true ∧ E z x = false ∧ E z y = true
    case neg =>
      refine split_core hs hirr h7 h2 h4 h5 k2 hmax' hswap kx ky hxy fun z hz hzx => ?_
      cases h : E z y with
      | false => rfl
      | true => exact absurd ⟨z, hz, hzx, h⟩ hP
    by_cases hQ : ∃ z, K.testBit z = true ∧ E z y = false ∧ E z x = true
    case neg =>
      refine split_core hs hirr h7 h2 h4 h5 k2 hmax' hswap ky kx (by rw [hs]; exact hxy) fun z hz hzy => ?_
      cases h : E z x with
      | false => rfl
      | true => exact absurd ⟨z, hz, hzy, h⟩ hQ
    obtain ⟨z, z1, z2, z3⟩ := hP
    obtain ⟨w, w1, w2, w3⟩ := hQ
    have hzw : z ≠ w := fun e => by subst e; rw [z2] at w3; cases w3
    exact h4 x y z w hxy (by rw [hs]; exact z3) (k2 z w z1 w1 hzw) w3 (by rw [hs]; exact z2) (by rw [hs]; exact w2) (fun e => ne z1 kx e.symm) (fun e => ne w1 ky e.symm)
/-- May a vertex be eliminated from what is left? -/
def simB (size : Int) (rows : List Int) (left : Int) (v : Nat) : Bool := hasB left (v : Int) && decide (cliqueP size rows (iand (rows.getD v 0) left))
/-- The least one, after j rounds from the top. -/
def lowJ (size : Int) (rows : List Int) (left : Int) (n : Nat) : Nat → Int
  | 0 => -1
  | j + 1 => if simB size rows left (n - 1 - j) = true then ((n - 1 - j : Nat) : Int) else lowJ size rows left n j
def elR (size : Int) (rows : List Int) (n : Nat) : Nat → Int → Bool
  | 0, _ => false
  | f + 1, left => if left = 0 then true else if lowJ size rows left n n < 0 then false else elR size rows n f (left - ishl 1 (lowJ size rows left n n))
def elX (size : Int) (rows : List Int) : Bool := if IsG size rows then elR size rows rows.length 129 (ishl 1 size - 1) else false
theorem lowJ_range (size : Int) (rows : List Int) (left : Int) (n : Nat) : ∀ j, -1 ≤ lowJ size rows left n j ∧ lowJ size rows left n j ≤ (n : Int) - 1 ∨ n = 0
  | 0 => by
    by_cases h : n = 0
    · exact .inr h
    · exact .inl ⟨by simp [lowJ], by simp [lowJ]; omega⟩
  | j + 1 => by
    unfold lowJ
    split
    · by_cases h : n = 0
      · exact .inr h
      · exact .inl ⟨by omega, by omega⟩
    · exact lowJ_range size rows left n j
theorem lowJ_spec (size : Int) (rows : List Int) (left : Int) (n : Nat) : ∀ j, 0 ≤ lowJ size rows left n j → simB size rows left (lowJ size rows left n j).toNat = true
  | 0, h => by simp [lowJ] at h
  | j + 1, h => by
    unfold lowJ at h ⊢
    split
    · rename_i h1; rw [Int.toNat_natCast]; exact h1
    · rename_i h1
      rw [if_neg h1] at h
      exact lowJ_spec size rows left n j h
theorem lowJ_pos {size : Int} {rows : List Int} {left : Int} {n v : Nat} (hv : simB size rows left v = true) : ∀ j, n - 1 - v < j → v < n → 0 ≤ lowJ size rows left n j
  | 0, h, _ => by omega
  | j + 1, h, hn => by
    unfold lowJ
    split
    · omega
    · rename_i h1
      refine lowJ_pos hv j ?_ hn
      have : n - 1 - v ≠ j := fun e => by
        have : v = n - 1 - j := by omega
        subst this
        exact h1 hv
      omega
theorem simB_nat {rows : List Int} {n S v : Nat} (hg : IsG n rows) (hS : S < 2 ^ n) (hv : v < n) : simB n rows (S : Int) v = true ↔ S.testBit v = true ∧ ∀ a b, S.testBit a = true → S.testBit b = true → eN (rowN rows) v a = true → eN (rowN rows) v b = true → a ≠ b → eN (rowN rows) a b = true := by
  have hr := ng_of hg rfl
  have h7 := pow_le7 hr.le
  have hn7 := hr.le
  have hlt := hr.lt v
  have hand : rowN rows v &&& S < 2 ^ n := Nat.lt_of_le_of_lt Nat.and_le_right hS
  unfold simB
  rw [hasB_nat (by omega) (by omega), rowN_eq hg v, iand_nat (by omega) (by omega), Bool.and_eq_true, clique_om hg hand]
  refine and_congr_right fun _ => ?_
  unfold clqM
  constructor
  · intro h a b ha hb hva hvb hne
    refine h a b ?_ ?_ hne
    · rw [Nat.testBit_and, ha]; unfold eN at hva; rw [hva]; rfl
    · rw [Nat.testBit_and, hb]; unfold eN at hvb; rw [hvb]; rfl
  · intro h a b ha hb hne
    rw [Nat.testBit_and, Bool.and_eq_true] at ha hb
    exact h a b ha.2 hb.2 ha.1 hb.1 hne
theorem el_step {rows : List Int} {n f S : Nat} (hg : IsG n rows) (hS : S < 2 ^ n) (h0 : S ≠ 0) (h : elR n rows n (f + 1) (S : Int) = true) :
    ∃ v, v < n ∧ S.testBit v = true ∧ (∀ a b, S.testBit a = true → S.testBit b = true → eN (rowN rows) v a = true → eN (rowN rows) v b = true → a ≠ b → eN (rowN rows) a b = true) ∧ (∀ x, (S - 2 ^ v).testBit x = (S.testBit x && !decide (v = x))) ∧ S - 2 ^ v < 2 ^ n ∧ elR n rows n f ((S - 2 ^ v : Nat) : Int) = true := by
  have hr := ng_of hg rfl
  have h7 := pow_le7 hr.le
  have hn7 := hr.le
  unfold elR at h
  rw [if_neg (by omega)] at h
  split at h
  · cases h
  · rename_i hb
    have hb0 := lowJ_spec n rows (S : Int) n n (by omega)
    have hrg := lowJ_range n rows (S : Int) n n
    obtain ⟨v, hv⟩ := Int.eq_ofNat_of_zero_le (show 0 ≤ lowJ n rows (S : Int) n n by omega)
    rw [hv] at h hb0 hrg
    rw [Int.toNat_natCast] at hb0
    have hn0 : n ≠ 0 := by have := hg.1.1; omega
    have hvn : v < n := by omega
    obtain ⟨s1, s2⟩ := (simB_nat hg hS hvn).1 hb0
    have hps := pow_sub s1
    have hle := sub_le hps
    have e : (S : Int) - ishl 1 (v : Int) = ((S - 2 ^ v : Nat) : Int) := by rw [ishl_one_nat (by omega)]; omega
    rw [e] at h
    exact ⟨v, hvn, s1, s2, fun x => by rw [sub_bit (by omega) hps, Nat.testBit_two_pow], Nat.lt_of_le_of_lt (Nat.sub_le _ _) hS, h⟩
theorem el_c4 {rows : List Int} {n : Nat} (hg : IsG n rows) : ∀ (f S : Nat), S < 2 ^ n → elR n rows n f (S : Int) = true → ∀ a b c d, S.testBit a = true → S.testBit b = true → S.testBit c = true → S.testBit d = true →
    eN (rowN rows) a b = true → eN (rowN rows) b c = true → eN (rowN rows) c d = true → eN (rowN rows) d a = true → eN (rowN rows) a c = false → eN (rowN rows) b d = false → a ≠ c → b ≠ d → False
  | 0, _, _, h, _, _, _, _, _, _, _, _, _, _, _, _, _, _, _, _ => by simp [elR] at h
  | f + 1, S, hS, h, a, b, c, d, ha, hb, hc, hd, hab, hbc, hcd, hda, hac, hbd, nac, nbd => by
    have hs := eN_sym hg rfl
    have h0 : S ≠ 0 := fun e => by subst e; simp at ha
    obtain ⟨v, hvn, s1, s2, s3, s4, s5⟩ := el_step hg hS h0 h
    by_cases ea : v = a
    · subst ea; have := s2 b d hb hd hab (by rw [hs]; exact hda) nbd; rw [hbd] at this; cases this
    by_cases eb : v = b
    · subst eb; have := s2 a c ha hc (by rw [hs]; exact hab) hbc nac; rw [hac] at this; cases this
    by_cases ec : v = c
    · subst ec; have := s2 b d hb hd (by rw [hs]; exact hbc) hcd nbd; rw [hbd] at this; cases this
    by_cases ed : v = d
    · subst ed; have := s2 a c ha hc hda (by rw [hs]; exact hcd) nac; rw [hac] at this; cases this
    have hk : ∀ x, S.testBit x = true → v ≠ x → (S - 2 ^ v).testBit x = true := fun x hx hne => by rw [s3, hx, decide_eq_false hne]; rfl
    exact el_c4 hg f _ s4 s5 a b c d (hk a ha ea) (hk b hb eb) (hk c hc ec) (hk d hd ed) hab hbc hcd hda hac hbd nac nbd
theorem el_c5 {rows : List Int} {n : Nat} (hg : IsG n rows) : ∀ (f S : Nat), S < 2 ^ n → elR n rows n f (S : Int) = true → ∀ a b c d e, S.testBit a = true → S.testBit b = true → S.testBit c = true → S.testBit d = true → S.testBit e = true →
    eN (rowN rows) a b = true → eN (rowN rows) b c = true → eN (rowN rows) c d = true → eN (rowN rows) d e = true → eN (rowN rows) e a = true →
    eN (rowN rows) a c = false → eN (rowN rows) a d = false → eN (rowN rows) b d = false → eN (rowN rows) b e = false → eN (rowN rows) c e = false → False
  | 0, _, _, h, _, _, _, _, _, _, _, _, _, _, _, _, _, _, _, _, _, _, _, _ => by simp [elR] at h
  | f + 1, S, hS, h, a, b, c, d, e, ha, hb, hc, hd, he, hab, hbc, hcd, hde, hea, hac, had, hbd, hbe, hce => by
    have hs := eN_sym hg rfl
    have h0 : S ≠ 0 := fun e => by subst e; simp at ha
    obtain ⟨v, hvn, s1, s2, s3, s4, s5⟩ := el_step hg hS h0 h
    have nbe : b ≠ e := fun x => by subst x; rw [hs, hbd] at hde; cases hde
    have nac : a ≠ c := fun x => by subst x; rw [had] at hcd; cases hcd
    have nbd : b ≠ d := fun x => by subst x; rw [hbe] at hde; cases hde
    have nce : c ≠ e := fun x => by subst x; rw [hs, hac] at hea; cases hea
    have nad : a ≠ d := fun x => by subst x; rw [hs, hac] at hcd; cases hcd
    by_cases ea : v = a
    · subst ea; have := s2 b e hb he hab (by rw [hs]; exact hea) nbe; rw [hbe] at this; cases this
    by_cases eb : v = b
    · subst eb; have := s2 a c ha hc (by rw [hs]; exact hab) hbc nac; rw [hac] at this; cases this
    by_cases ec : v = c
    · subst ec; have := s2 b d hb hd (by rw [hs]; exact hbc) hcd nbd; rw [hbd] at this; cases this
    by_cases ed : v = d
    · subst ed; have := s2 c e hc he (by rw [hs]; exact hcd) hde nce; rw [hce] at this; cases this
    by_cases ee : v = e
    · subst ee; have := s2 a d ha hd hea (by rw [hs]; exact hde) nad; rw [had] at this; cases this
    have hk : ∀ x, S.testBit x = true → v ≠ x → (S - 2 ^ v).testBit x = true := fun x hx hne => by rw [s3, hx, decide_eq_false hne]; rfl
    exact el_c5 hg f _ s4 s5 a b c d e (hk a ha ea) (hk b hb eb) (hk c hc ec) (hk d hd ed) (hk e he ee) hab hbc hcd hde hea hac had hbd hbe hce
/-- A split graph is eliminated to the end. -/
theorem el_split {rows : List Int} {n K : Nat} (hg : IsG n rows) (hK : clqM (eN (rowN rows)) K) (hI : ∀ x y, x < n → y < n → K.testBit x = false → K.testBit y = false → eN (rowN rows) x y = false) : ∀ (f S : Nat), S < 2 ^ n → S < f → elR n rows n f (S : Int) = true
  | 0, _, _, h => by omega
  | f + 1, S, hS, hf => by
    have hr := ng_of hg rfl
    have h7 := pow_le7 hr.le
    have hn7 := hr.le
    have hs := eN_sym hg rfl
    unfold elR
    split
    · rfl
    · rename_i h0
      have hin : ∀ x, S.testBit x = true → x < n := fun x hx => has_lt hS hx
      have hex : ∃ v, S.testBit v = true ∧ ∀ a b, S.testBit a = true → S.testBit b = true → eN (rowN rows) v a = true → eN (rowN rows) v b = true → a ≠ b → eN (rowN rows) a b = true := by
        by_cases h1 : ∃ v, S.testBit v = true ∧ K.testBit v = false
        · obtain ⟨v, v1, v2⟩ := h1
          have hk : ∀ a, S.testBit a = true → eN (rowN rows) v a = true → K.testBit a = true := fun a ha hva => by
            cases h : K.testBit a with
            | true => rfl
            | false => rw [hI v a (hin v v1) (hin a ha) v2 h] at hva; cases hva
          exact ⟨v, v1, fun a b ha hb hva hvb hne => hK a b (hk a ha hva) (hk b hb hvb) hne⟩
        · obtain ⟨v, v1⟩ : ∃ v, S.testBit v = true := Nat.exists_testBit_of_ne_zero (by omega)
          have hk : ∀ a, S.testBit a = true → K.testBit a = true := fun a ha => by
            cases h : K.testBit a with
            | true => rfl
            | false => exact absurd ⟨a, ha, h⟩ h1
          exact ⟨v, v1, fun a b ha hb _ _ hne => hK a b (hk a ha) (hk b hb) hne⟩
      obtain ⟨u, u1, u2⟩ := hex
      have hun := hin u u1
      have hb := lowJ_pos ((simB_nat hg hS hun).2 ⟨u1, u2⟩) n (by omega) hun
      rw [if_neg (by omega)]
      have hb0 := lowJ_spec n rows (S : Int) n n hb
      have hrg := lowJ_range n rows (S : Int) n n
      obtain ⟨v, hv⟩ := Int.eq_ofNat_of_zero_le hb
      rw [hv] at hb0 hrg ⊢
      rw [Int.toNat_natCast] at hb0
      have hvn : v < n := by omega
      obtain ⟨s1, _⟩ := (simB_nat hg hS hvn).1 hb0
      have hps := pow_sub s1
      have hle := sub_le hps
      have hp : 0 < 2 ^ v := Nat.pow_pos (by omega)
      have e : (S : Int) - ishl 1 (v : Int) = ((S - 2 ^ v : Nat) : Int) := by rw [ishl_one_nat (by omega)]; omega
      rw [e]
      exact el_split hg hK hI f _ (Nat.lt_of_le_of_lt (Nat.sub_le _ _) hS) (by omega)
theorem eN_out {rows : List Int} {n : Nat} (hg : IsG n rows) (x : Nat) : eN (rowN rows) x x = false := by
  have hr := ng_of hg rfl
  cases hx : eN (rowN rows) x x with
  | false => rfl
  | true =>
    have hlt := eN_lt hr hx
    have := hr.irr x hlt
    unfold eN at hx; rw [this] at hx; cases hx
theorem hasB_eN {rows : List Int} {n : Nat} (hg : IsG n rows) (x y : Nat) (hy : y < n) : hasB (rows.getD x 0) (y : Int) = eN (rowN rows) x y := by
  have hr := ng_of hg rfl
  have h7 := pow_le7 hr.le
  have := hr.lt x
  have := hr.le
  rw [rowN_eq hg x, hasB_nat (by omega) (by omega)]; rfl
theorem firstG_noneS {N : Nat} {ok : List Int → Int → Bool} {fin : List Int → Bool} {d : Nat} {l : List Int} (h : firstG N ok fin (d + 1) l = none) {v : Nat} (hv : v < N) (ho : ok l (v : Int) = true) : firstG N ok fin d (l ++ [(v : Int)]) = none := firstG_none h hv ho
theorem four_none {N : Nat} {fin : List Int → Bool} (h : fourK N fin (N * N * N * N) = none) {a b c d : Nat} (ha : a < N) (hb : b < N) (hc : c < N) (hd : d < N) : fin [(a : Int), b, c, d] = false := by
  unfold fourK at h
  rw [List.findSome?_eq_none_iff] at h
  have e := digs_of (a := a) hb hc hd
  have hlt : ((a * N + b) * N + c) * N + d < N * N * N * N := by
    have h1 : a * N + b < N * N := by
      have := Nat.mul_le_mul_right N (show a + 1 ≤ N by omega)
      rw [Nat.succ_mul] at this; omega
    have h2 : (a * N + b) * N + c < N * N * N := by
      have := Nat.mul_le_mul_right N (show a * N + b + 1 ≤ N * N by omega)
      rw [Nat.succ_mul] at this; omega
    have := Nat.mul_le_mul_right N (show (a * N + b) * N + c + 1 ≤ N * N * N by omega)
    rw [Nat.succ_mul] at this; omega
  have := h _ (List.mem_range.2 hlt)
  rw [e] at this
  cases hf : fin [(a : Int), b, c, d] with
  | false => rfl
  | true => rw [hf] at this; simp at this
theorem distinct_of {rows : List Int} {n : Nat} (hg : IsG n rows) {l : List Nat} (h1 : ∀ x ∈ l, x < n) (h2 : l.Nodup) : distinctP n rows (l.map Int.ofNat) := by
  refine ⟨hg, fun i hi => ?_, apart_of_nodup (List.Pairwise.map _ (fun a b h e => h (Int.ofNat.inj e)) h2)⟩
  rw [List.length_map] at hi
  have := h1 l[i] (List.getElem_mem hi)
  simp [List.getD, hi]
  omega
theorem getD_mapS {l : List Nat} {i : Nat} (hi : i < l.length) : (l.map Int.ofNat).getD i 0 = ((l.getD i 0 : Nat) : Int) := by simp [List.getD, hi]
theorem joinP_of {rows : List Int} {n : Nat} (hg : IsG n rows) {l : List Nat} {J : Nat → Nat → Bool} (h1 : ∀ x ∈ l, x < n) (h2 : l.Nodup) (h3 : ∀ k, k < l.length → ∀ i, i < k → eN (rowN rows) (l.getD i 0) (l.getD k 0) = J i k) : joinP n rows (l.map Int.ofNat) J := by
  refine ⟨distinct_of hg h1 h2, fun k hk i hi => ?_⟩
  rw [List.length_map] at hk
  unfold joinQ
  rw [getD_mapS hk, getD_mapS (show i < l.length by omega), Int.toNat_natCast, hasB_eN hg _ _ (h1 _ (by simp [List.getD, hk]))]
  exact h3 k hk i hi
theorem joinP_at {rows : List Int} {n : Nat} (hg : IsG n rows) {l : List Int} {J : Nat → Nat → Bool} (h : joinP n rows l J) {i k : Nat} (hik : i < k) (hk : k < l.length) : eN (rowN rows) (l.getD i 0).toNat (l.getD k 0).toNat = J i k := by
  have h1 := h.2 k hk i hik
  have h2 := h.1.2.1 k hk
  unfold joinQ at h1
  rw [show l.getD k 0 = (((l.getD k 0).toNat : Nat) : Int) by omega, hasB_eN hg _ _ (by omega)] at h1
  exact h1
theorem two_none {rows : List Int} {n : Nat} (hg : IsG n rows) (h : fourX n rows (fun l => decide (twoP n rows l)) = none) : N2f (eN (rowN rows)) := by
  intro a b c d hab hcd hac had hbc hbd
  have hr := ng_of hg rfl
  have hs := eN_sym hg rfl
  have hirr := eN_out hg
  have la : a < n := eN_lt hr (by rw [hs]; exact hab)
  have lb : b < n := eN_lt hr hab
  have lc : c < n := eN_lt hr (by rw [hs]; exact hcd)
  have ld : d < n := eN_lt hr hcd
  have nab : a ≠ b := fun e => by subst e; rw [hirr] at hab; cases hab
  have ncd : c ≠ d := fun e => by subst e; rw [hirr] at hcd; cases hcd
  have nac : a ≠ c := fun e => by subst e; rw [had] at hcd; cases hcd
  have nad : a ≠ d := fun e => by subst e; rw [hs, hac] at hcd; cases hcd
  have nbc : b ≠ c := fun e => by subst e; rw [hbd] at hcd; cases hcd
  have nbd : b ≠ d := fun e => by subst e; rw [hs, hbc] at hcd; cases hcd
  unfold fourX at h
  rw [if_pos hg, Int.toNat_natCast] at h
  have := four_none h la lb lc ld
  have hP : twoP n rows ([a, b, c, d].map Int.ofNat) := by
    refine ⟨rfl, joinP_of hg (by simp; omega) (by simp; omega) fun k hk i hi => ?_⟩
    have hk4 : k < 4 := hk
    have : (i = 0 ∧ k = 1) ∨ (i = 0 ∧ k = 2) ∨ (i = 0 ∧ k = 3) ∨ (i = 1 ∧ k = 2) ∨ (i = 1 ∧ k = 3) ∨ (i = 2 ∧ k = 3) := by omega
    rcases this with ⟨rfl, rfl⟩ | ⟨rfl, rfl⟩ | ⟨rfl, rfl⟩ | ⟨rfl, rfl⟩ | ⟨rfl, rfl⟩ | ⟨rfl, rfl⟩
    · exact hab
    · exact hac
    · exact had
    · exact hbc
    · exact hbd
    · exact hcd
  exact absurd (decide_eq_true hP) (by rw [show (decide (twoP n rows ([a, b, c, d].map Int.ofNat))) = false from this]; exact Bool.false_ne_true)
theorem holeT_none {rows : List Int} {n m : Nat} (hg : IsG n rows) (h : holeX n rows = none) (h4 : 4 ≤ m) (hm : m ≤ n) : firstG n (okI fun l => decide (l.length = m) || decide (pathP n rows l)) (fun l => decide (holeP n rows l)) m [] = none := by
  unfold holeX holeK at h
  rw [List.findSome?_eq_none_iff] at h
  have := h (m - 4) (List.mem_range.2 (by rw [Int.toNat_natCast]; omega))
  rw [show 4 + (m - 4) = m by omega] at this
  unfold holeT firstX at this
  rw [if_pos hg, Int.toNat_natCast] at this
  exact this
theorem okI_yes {may : List Int → Bool} {l : List Int} {v : Int} (h1 : v ∉ l) (h2 : may (l ++ [v]) = true) : okI may l v = true := by
  unfold okI
  rw [decide_eq_false h1, h2]; rfl
theorem hole4_none {rows : List Int} {n : Nat} (hg : IsG n rows) (h : holeX n rows = none) : N4f (eN (rowN rows)) := by
  intro a b c d hab hbc hcd hda hac hbd nac nbd
  have hr := ng_of hg rfl
  have hs := eN_sym hg rfl
  have hirr := eN_out hg
  have la : a < n := eN_lt hr hda
  have lb : b < n := eN_lt hr hab
  have lc : c < n := eN_lt hr hbc
  have ld : d < n := eN_lt hr hcd
  have nab : a ≠ b := fun e => by subst e; rw [hirr] at hab; cases hab
  have nbc : b ≠ c := fun e => by subst e; rw [hirr] at hbc; cases hbc
  have ncd : c ≠ d := fun e => by subst e; rw [hirr] at hcd; cases hcd
  have nad : a ≠ d := fun e => by subst e; rw [hirr] at hda; cases hda
  have hP : holeP n rows ([a, b, c, d].map Int.ofNat) := by
    refine ⟨by simp, joinP_of hg (by simp; omega) (by simp; omega) fun k hk i hi => ?_⟩
    have hk4 : k < 4 := hk
    have : (i = 0 ∧ k = 1) ∨ (i = 0 ∧ k = 2) ∨ (i = 0 ∧ k = 3) ∨ (i = 1 ∧ k = 2) ∨ (i = 1 ∧ k = 3) ∨ (i = 2 ∧ k = 3) := by omega
    rcases this with ⟨rfl, rfl⟩ | ⟨rfl, rfl⟩ | ⟨rfl, rfl⟩ | ⟨rfl, rfl⟩ | ⟨rfl, rfl⟩ | ⟨rfl, rfl⟩
    · exact hab
    · exact hac
    · rw [hs]; exact hda
    · exact hbc
    · exact hbd
    · exact hcd
  have p1 : pathP n rows ([a].map Int.ofNat) := ⟨by simp, joinP_of hg (by simp; omega) (by simp) fun k hk i hi => by have : k < 1 := hk; omega⟩
  have p2 : pathP n rows ([a, b].map Int.ofNat) := ⟨by simp, joinP_of hg (by simp; omega) (by simp; omega) fun k hk i hi => by
    have hk : k < 2 := hk
    obtain ⟨rfl, rfl⟩ : i = 0 ∧ k = 1 := by omega
    exact hab⟩
  have p3 : pathP n rows ([a, b, c].map Int.ofNat) := ⟨by simp, joinP_of hg (by simp; omega) (by simp; omega) fun k hk i hi => by
    have hk : k < 3 := hk
    have : (i = 0 ∧ k = 1) ∨ (i = 0 ∧ k = 2) ∨ (i = 1 ∧ k = 2) := by omega
    rcases this with ⟨rfl, rfl⟩ | ⟨rfl, rfl⟩ | ⟨rfl, rfl⟩
    · exact hab
    · exact hac
    · exact hbc⟩
  have hn4 : 4 ≤ n := by omega
  have g0 := holeT_none hg h (Nat.le_refl 4) hn4
  have q1 : pathP n rows [(a : Int)] := p1
  have q2 : pathP n rows [(a : Int), b] := p2
  have q3 : pathP n rows [(a : Int), b, c] := p3
  have q4 : holeP n rows [(a : Int), b, c, d] := hP
  have g1 := firstG_none g0 la (okI_yes (by simp) (by show (decide _ || decide (pathP n rows [(a : Int)])) = true; rw [decide_eq_true q1]; simp))
  have g2 := firstG_none g1 lb (okI_yes (by simp; omega) (by show (decide _ || decide (pathP n rows [(a : Int), b])) = true; rw [decide_eq_true q2]; simp))
  have g3 := firstG_none g2 lc (okI_yes (by simp; omega) (by show (decide _ || decide (pathP n rows [(a : Int), b, c])) = true; rw [decide_eq_true q3]; simp))
  have g4 := firstG_none g3 ld (okI_yes (by simp; omega) (by simp))
  have g5 : firstG n (okI fun l => decide (l.length = 4) || decide (pathP n rows l)) (fun l => decide (holeP n rows l)) 0 [(a : Int), b, c, d] = none := g4
  unfold firstG at g5
  rw [if_pos (decide_eq_true q4)] at g5
  cases g5
theorem hole5_none {rows : List Int} {n : Nat} (hg : IsG n rows) (h : holeX n rows = none) : N5f (eN (rowN rows)) := by
  intro a b c d e hab hbc hcd hde hea hac had hbd hbe hce
  have hr := ng_of hg rfl
  have hs := eN_sym hg rfl
  have hirr := eN_out hg
  have la : a < n := eN_lt hr hea
  have lb : b < n := eN_lt hr hab
  have lc : c < n := eN_lt hr hbc
  have ld : d < n := eN_lt hr hcd
  have le : e < n := eN_lt hr hde
  have nab : a ≠ b := fun x => by subst x; rw [hirr] at hab; cases hab
  have nbc : b ≠ c := fun x => by subst x; rw [hirr] at hbc; cases hbc
  have ncd : c ≠ d := fun x => by subst x; rw [hirr] at hcd; cases hcd
  have nde : d ≠ e := fun x => by subst x; rw [hirr] at hde; cases hde
  have nae : a ≠ e := fun x => by subst x; rw [hirr] at hea; cases hea
  have nbe : b ≠ e := fun x => by subst x; rw [hs, hbd] at hde; cases hde
  have nac : a ≠ c := fun x => by subst x; rw [had] at hcd; cases hcd
  have nbd : b ≠ d := fun x => by subst x; rw [hbe] at hde; cases hde
  have nce : c ≠ e := fun x => by subst x; rw [hs, hac] at hea; cases hea
  have nad : a ≠ d := fun x => by subst x; rw [hs, hac] at hcd; cases hcd
  have hP : holeP n rows ([a, b, c, d, e].map Int.ofNat) := by
    refine ⟨by simp, joinP_of hg (by simp; omega) (by simp; omega) fun k hk i hi => ?_⟩
    have hk5 : k < 5 := hk
    have : (i = 0 ∧ k = 1) ∨ (i = 0 ∧ k = 2) ∨ (i = 0 ∧ k = 3) ∨ (i = 0 ∧ k = 4) ∨ (i = 1 ∧ k = 2) ∨ (i = 1 ∧ k = 3) ∨ (i = 1 ∧ k = 4) ∨ (i = 2 ∧ k = 3) ∨ (i = 2 ∧ k = 4) ∨ (i = 3 ∧ k = 4) := by omega
    rcases this with ⟨rfl, rfl⟩ | ⟨rfl, rfl⟩ | ⟨rfl, rfl⟩ | ⟨rfl, rfl⟩ | ⟨rfl, rfl⟩ | ⟨rfl, rfl⟩ | ⟨rfl, rfl⟩ | ⟨rfl, rfl⟩ | ⟨rfl, rfl⟩ | ⟨rfl, rfl⟩
    · exact hab
    · exact hac
    · exact had
    · rw [hs]; exact hea
    · exact hbc
    · exact hbd
    · exact hbe
    · exact hcd
    · exact hce
    · exact hde
  have p4 : pathP n rows ([a, b, c, d].map Int.ofNat) := ⟨by simp, joinP_of hg (by simp; omega) (by simp; omega) fun k hk i hi => by
    have hk4 : k < 4 := hk
    have : (i = 0 ∧ k = 1) ∨ (i = 0 ∧ k = 2) ∨ (i = 0 ∧ k = 3) ∨ (i = 1 ∧ k = 2) ∨ (i = 1 ∧ k = 3) ∨ (i = 2 ∧ k = 3) := by omega
    rcases this with ⟨rfl, rfl⟩ | ⟨rfl, rfl⟩ | ⟨rfl, rfl⟩ | ⟨rfl, rfl⟩ | ⟨rfl, rfl⟩ | ⟨rfl, rfl⟩
    · exact hab
    · exact hac
    · exact had
    · exact hbc
    · exact hbd
    · exact hcd⟩
  have q4 : pathP n rows [(a : Int), b, c, d] := p4
  have q1 : pathP n rows [(a : Int)] := path_pre (m := [(b : Int), c, d]) q4 (by simp)
  have q2 : pathP n rows [(a : Int), b] := path_pre (m := [(c : Int), d]) q4 (by simp)
  have q3 : pathP n rows [(a : Int), b, c] := path_pre (m := [(d : Int)]) q4 (by simp)
  have q5 : holeP n rows [(a : Int), b, c, d, e] := hP
  have hn5 : 5 ≤ n := by omega
  have g0 := holeT_none hg h (by omega : 4 ≤ 5) hn5
  have g1 := firstG_none g0 la (okI_yes (by simp) (by show (decide _ || decide (pathP n rows [(a : Int)])) = true; rw [decide_eq_true q1]; simp))
  have g2 := firstG_none g1 lb (okI_yes (by simp; omega) (by show (decide _ || decide (pathP n rows [(a : Int), b])) = true; rw [decide_eq_true q2]; simp))
  have g3 := firstG_none g2 lc (okI_yes (by simp; omega) (by show (decide _ || decide (pathP n rows [(a : Int), b, c])) = true; rw [decide_eq_true q3]; simp))
  have g4 := firstG_none g3 ld (okI_yes (by simp; omega) (by show (decide _ || decide (pathP n rows [(a : Int), b, c, d])) = true; rw [decide_eq_true q4]; simp))
  have g5 := firstG_none g4 le (okI_yes (by simp; omega) (by simp))
  have g6 : firstG n (okI fun l => decide (l.length = 5) || decide (pathP n rows l)) (fun l => decide (holeP n rows l)) 0 [(a : Int), b, c, d, e] = none := g5
  unfold firstG at g6
  rw [if_pos (decide_eq_true q5)] at g6
  cases g6
/-- A clique, the rest independent. -/
def SplE (n : Nat) (E : Nat → Nat → Bool) : Prop := ∃ K, K < 2 ^ n ∧ clqM E K ∧ ∀ x y, x < n → y < n → K.testBit x = false → K.testBit y = false → E x y = false
theorem SplE.congr {n : Nat} {E F : Nat → Nat → Bool} (h : ∀ x y, x < n → y < n → E x y = F x y) (hE : SplE n E) : SplE n F := by
  obtain ⟨K, k1, k2, k3⟩ := hE
  exact ⟨K, k1, fun x y hx hy hne => by rw [← h x y (has_lt k1 hx) (has_lt k1 hy)]; exact k2 x y hx hy hne, fun x y hx hy kx ky => by rw [← h x y hx hy]; exact k3 x y hx hy kx ky⟩
theorem complS {n K x : Nat} (hK : K < 2 ^ n) : (2 ^ n - 1 - K).testBit x = (decide (x < n) && !K.testBit x) := by
  rw [Nat.sub_sub, Nat.add_comm 1 K]
  exact Nat.testBit_two_pow_sub_succ hK x
theorem SplE.co {n : Nat} {E : Nat → Nat → Bool} (hE : SplE n E) : SplE n (coE E) := by
  obtain ⟨K, k1, k2, k3⟩ := hE
  have hpos : 0 < 2 ^ n := Nat.pow_pos (by omega)
  refine ⟨2 ^ n - 1 - K, by omega, fun x y hx hy hne => ?_, fun x y hx hy kx ky => ?_⟩
  · rw [complS k1] at hx hy
    simp only [Bool.and_eq_true, decide_eq_true_eq, Bool.not_eq_true'] at hx hy
    exact coE_true.2 ⟨k3 x y hx.1 hy.1 hx.2 hy.2, hne⟩
  · rw [complS k1, decide_eq_true hx, Bool.true_and, Bool.not_eq_false'] at kx
    rw [complS k1, decide_eq_true hy, Bool.true_and, Bool.not_eq_false'] at ky
    by_cases e : x = y
    · exact coE_false.2 (.inr e)
    · exact coE_false.2 (.inl (k2 x y kx ky e))
theorem leastB_iffS {g : Prop} [Decidable g] {p : Int → Bool} {N : Int} : leastB g p N = true ↔ g ∧ ∃ s : Nat, s < N.toNat ∧ p (s : Int) = true := by
  unfold leastB
  by_cases hg : g
  · rw [if_pos hg]
    constructor
    · intro h
      refine ⟨hg, ?_⟩
      apply Classical.byContradiction
      intro hn
      rw [(leastU_none p N.toNat).2 fun s hs => by
        cases hp : p (s : Int) with
        | false => rfl
        | true => exact absurd ⟨s, hs, hp⟩ hn] at h
      cases h
    · rintro ⟨_, s, hs, hp⟩
      cases h : leastU p N.toNat with
      | some _ => rfl
      | none => rw [(leastU_none p N.toNat).1 h s hs] at hp; cases hp
  · rw [if_neg hg]
    exact ⟨fun h => (by cases h), fun h => absurd h.1 hg⟩
theorem splitP_K {rows : List Int} {n K : Nat} (hg : IsG n rows) (hK : K < 2 ^ n) : splitP n rows (K : Int) ↔ clqM (eN (rowN rows)) K ∧ ∀ x y, x < n → y < n → K.testBit x = false → K.testBit y = false → eN (rowN rows) x y = false := by
  have hng := ng_of hg rfl
  have e : ishl 1 (n : Int) - 1 - (K : Int) = ((2 ^ n - 1 - K : Nat) : Int) := by rw [ishl_one_nat (by have := hng.le; omega)]; omega
  unfold splitP
  rw [e, ← clique_om hg hK, decide_eq_true_iff]
  refine and_congr_right fun _ => ?_
  have hi := indep_om hg (C := 2 ^ n - 1 - K) (by omega)
  rw [decide_eq_true_iff] at hi
  rw [hi]
  constructor
  · intro h x y hx hy kx ky
    by_cases exy : x = y
    · subst exy; exact eN_out hg x
    · exact (coE_true.1 (h x y (by rw [complS hK, kx, decide_eq_true hx]; rfl) (by rw [complS hK, ky, decide_eq_true hy]; rfl) exy)).1
  · intro h x y hx hy hne
    rw [complS hK] at hx hy
    simp only [Bool.and_eq_true, decide_eq_true_eq, Bool.not_eq_true'] at hx hy
    exact coE_true.2 ⟨h x y hx.1 hy.1 hx.2 hy.2, hne⟩
def isSp (size : Int) (rows : List Int) : Bool := leastB (IsG size rows) (fun s => decide (splitP size rows s)) (ishl 1 size)
theorem isSp_iff {rows : List Int} {n : Nat} (hg : IsG n rows) : isSp n rows = true ↔ SplE n (eN (rowN rows)) := by
  have hng := ng_of hg rfl
  have hN : (ishl 1 (n : Int)).toNat = 2 ^ n := by rw [ishl_one_nat (by have := hng.le; omega)]; exact Int.toNat_natCast _
  unfold isSp
  rw [leastB_iffS, hN]
  constructor
  · rintro ⟨_, K, k1, k2⟩
    obtain ⟨k3, k4⟩ := (splitP_K hg k1).1 (of_decide_eq_true k2)
    exact ⟨K, k1, k3, k4⟩
  · rintro ⟨K, k1, k3, k4⟩
    exact ⟨hg, K, k1, decide_eq_true ((splitP_K hg k1).2 ⟨k3, k4⟩)⟩
theorem isSp_no {size : Int} {rows : List Int} (hg : ¬ IsG size rows) : isSp size rows = false := by unfold isSp leastB; rw [if_neg hg]
theorem elX_no {size : Int} {rows : List Int} (hg : ¬ IsG size rows) : elX size rows = false := by unfold elX; rw [if_neg hg]
theorem full_bit {n x : Nat} (hx : x < n) : (2 ^ n - 1).testBit x = true := by rw [Nat.testBit_two_pow_sub_one]; exact decide_eq_true hx
theorem elX_eq {rows : List Int} {n : Nat} (hg : IsG n rows) : elX n rows = elR n rows n 129 ((2 ^ n - 1 : Nat) : Int) := by
  have hng := ng_of hg rfl
  have hpos : 0 < 2 ^ n := Nat.pow_pos (by omega)
  obtain ⟨m, hm, hrl, _, _⟩ := isG_size hg
  unfold elX
  rw [if_pos hg, show rows.length = n by omega, show ishl 1 (n : Int) - 1 = ((2 ^ n - 1 : Nat) : Int) by rw [ishl_one_nat (by have := hng.le; omega)]; omega]
theorem elX_split {rows : List Int} {n : Nat} (hg : IsG n rows) (h : SplE n (eN (rowN rows))) : elX n rows = true := by
  obtain ⟨K, k1, k2, k3⟩ := h
  have hng := ng_of hg rfl
  have h7 := pow_le7 hng.le
  have hpos : 0 < 2 ^ n := Nat.pow_pos (by omega)
  rw [elX_eq hg]
  exact el_split hg k2 k3 129 _ (by omega) (by omega)
theorem elX_c4 {rows : List Int} {n : Nat} (hg : IsG n rows) (h : elX n rows = true) : N4f (eN (rowN rows)) := by
  intro a b c d hab hbc hcd hda hac hbd nac nbd
  have hr := ng_of hg rfl
  have hpos : 0 < 2 ^ n := Nat.pow_pos (by omega)
  rw [elX_eq hg] at h
  exact el_c4 hg 129 _ (by omega) h a b c d (full_bit (eN_lt hr hda)) (full_bit (eN_lt hr hab)) (full_bit (eN_lt hr hbc)) (full_bit (eN_lt hr hcd)) hab hbc hcd hda hac hbd nac nbd
theorem elX_c5 {rows : List Int} {n : Nat} (hg : IsG n rows) (h : elX n rows = true) : N5f (eN (rowN rows)) := by
  intro a b c d e hab hbc hcd hde hea hac had hbd hbe hce
  have hr := ng_of hg rfl
  have hpos : 0 < 2 ^ n := Nat.pow_pos (by omega)
  rw [elX_eq hg] at h
  exact el_c5 hg 129 _ (by omega) h a b c d e (full_bit (eN_lt hr hea)) (full_bit (eN_lt hr hab)) (full_bit (eN_lt hr hbc)) (full_bit (eN_lt hr hcd)) (full_bit (eN_lt hr hde)) hab hbc hcd hde hea hac had hbd hbe hce
theorem SplE.no2 {n : Nat} {E : Nat → Nat → Bool} (h : SplE n E) (hs : ∀ x y, E x y = E y x) (hE : ∀ x y, E x y = true → y < n) : N2f E := by
  obtain ⟨K, k1, k2, k3⟩ := h
  intro a b c d hab hcd hac had hbc hbd
  have lb := hE a b hab
  have la := hE b a (by rw [hs]; exact hab)
  have ld := hE c d hcd
  have lc := hE d c (by rw [hs]; exact hcd)
  have e1 : K.testBit a = true ∨ K.testBit b = true := by
    cases ha : K.testBit a with
    | true => exact .inl rfl
    | false =>
      cases hb : K.testBit b with
      | true => exact .inr rfl
      | false => rw [k3 a b la lb ha hb] at hab; cases hab
  have e2 : K.testBit c = true ∨ K.testBit d = true := by
    cases ha : K.testBit c with
    | true => exact .inl rfl
    | false =>
      cases hb : K.testBit d with
      | true => exact .inr rfl
      | false => rw [k3 c d lc ld ha hb] at hcd; cases hcd
  have nac : a ≠ c := fun e => by subst e; rw [had] at hcd; cases hcd
  have nad : a ≠ d := fun e => by subst e; rw [hs, hac] at hcd; cases hcd
  have nbc : b ≠ c := fun e => by subst e; rw [hbd] at hcd; cases hcd
  have nbd : b ≠ d := fun e => by subst e; rw [hs, hbc] at hcd; cases hcd
  rcases e1 with e1 | e1 <;> rcases e2 with e2 | e2
  · rw [k2 a c e1 e2 nac] at hac; cases hac
  · rw [k2 a d e1 e2 nad] at had; cases had
  · rw [k2 b c e1 e2 nbc] at hbc; cases hbc
  · rw [k2 b d e1 e2 nbd] at hbd; cases hbd
/-- Split: no obstacle. -/
theorem isSp_free {rows : List Int} {n : Nat} (hg : IsG n rows) : isSp n rows = true ↔ N2f (eN (rowN rows)) ∧ N4f (eN (rowN rows)) ∧ N5f (eN (rowN rows)) := by
  have hr := ng_of hg rfl
  rw [isSp_iff hg]
  constructor
  · intro h
    have he := elX_split hg h
    exact ⟨h.no2 (eN_sym hg rfl) (fun x y h => eN_lt hr h), elX_c4 hg he, elX_c5 hg he⟩
  · rintro ⟨h2, h4, h5⟩
    exact split_free hr.le (eN_sym hg rfl) (eN_out hg) (fun x y h => eN_lt hr h) h2 h4 h5
/-- The complement. -/
theorem bar_ok {rows : List Int} {n : Nat} (hg : IsG n rows) : barZ n rows = n ∧ IsG n (barL n rows) := ⟨by unfold barZ; rw [if_pos hg], bar_isG hg⟩
theorem isSp_chordal (size : Int) (rows : List Int) : isSp size rows = (elX size rows && elX (barZ size rows) (barL size rows)) := by
  by_cases hg : IsG size rows
  case neg => rw [isSp_no hg, elX_no hg]; rfl
  obtain ⟨n, rfl, hrl, _, hn7⟩ := isG_size hg
  obtain ⟨hz, hgb⟩ := bar_ok hg
  rw [hz, Bool.eq_iff_iff, Bool.and_eq_true]
  have hr := ng_of hg rfl
  have hs := eN_sym hg rfl
  constructor
  · intro h
    have h := (isSp_iff hg).1 h
    refine ⟨elX_split hg h, elX_split hgb (h.co.congr fun x y hx hy => (bar_eN hg rfl hx hy).symm)⟩
  · rintro ⟨h1, h2⟩
    refine (isSp_free hg).2 ⟨?_, elX_c4 hg h1, elX_c5 hg h1⟩
    have h4 := elX_c4 hgb h2
    intro a b c d hab hcd hac had hbc hbd
    have la : a < n := eN_lt hr (by rw [hs]; exact hab)
    have lb : b < n := eN_lt hr hab
    have lc : c < n := eN_lt hr (by rw [hs]; exact hcd)
    have ld : d < n := eN_lt hr hcd
    have nab : a ≠ b := fun e => by subst e; rw [eN_out hg] at hab; cases hab
    have ncd : c ≠ d := fun e => by subst e; rw [eN_out hg] at hcd; cases hcd
    have nac : a ≠ c := fun e => by subst e; rw [had] at hcd; cases hcd
    have nad : a ≠ d := fun e => by subst e; rw [hs, hac] at hcd; cases hcd
    have nbc : b ≠ c := fun e => by subst e; rw [hbd] at hcd; cases hcd
    have nbd : b ≠ d := fun e => by subst e; rw [hs, hbc] at hcd; cases hcd
    have key : ∀ x y, x < n → y < n → eN (rowN (barL n rows)) x y = coE (eN (rowN rows)) x y := fun x y hx hy => bar_eN hg rfl hx hy
    refine h4 a c b d ?_ ?_ ?_ ?_ ?_ ?_ nab ncd
    · rw [key _ _ la lc]; exact coE_true.2 ⟨hac, nac⟩
    · rw [key _ _ lc lb]; exact coE_true.2 ⟨by rw [hs]; exact hbc, fun e => nbc e.symm⟩
    · rw [key _ _ lb ld]; exact coE_true.2 ⟨hbd, nbd⟩
    · rw [key _ _ ld la]; exact coE_true.2 ⟨by rw [hs]; exact had, fun e => nad e.symm⟩
    · rw [key _ _ la lb]; exact coE_false.2 (.inl hab)
    · rw [key _ _ lc ld]; exact coE_false.2 (.inl hcd)
theorem isSp_bar {rows : List Int} {n : Nat} (hg : IsG n rows) (h : isSp n rows = true) : isSp (barZ n rows) (barL n rows) = true := by
  obtain ⟨hz, hgb⟩ := bar_ok hg
  rw [hz]
  exact (isSp_iff hgb).2 (((isSp_iff hg).1 h).co.congr fun x y hx hy => (bar_eN hg rfl hx hy).symm)
theorem isSp_least {size : Int} {rows : List Int} (h : isSp size rows = true) : splitP size rows (leastX (IsG size rows) (fun s => decide (splitP size rows s)) (ishl 1 size)) := by
  unfold isSp leastB at h
  split at h
  case isFalse => cases h
  rename_i hg
  unfold leastX
  rw [if_pos hg]
  obtain ⟨m, hm⟩ := Option.isSome_iff_exists.1 h
  rw [hm]
  have := List.find?_some (show (List.range (ishl 1 size).toNat).find? (fun s => decide (splitP size rows (s : Nat))) = some m from hm)
  exact of_decide_eq_true this
/-- An obstacle is found exactly if there is no split, and it is one. -/
theorem obs_iff {rows : List Int} {n : Nat} (hg : IsG n rows) : (splitObsX n rows).isSome = !isSp n rows := by
  cases h : isSp n rows with
  | true =>
    obtain ⟨h2, h4, h5⟩ := (isSp_free hg).1 h
    have e1 : fourX n rows (fun l => decide (twoP n rows l)) = none := by
      cases hx : fourX n rows (fun l => decide (twoP n rows l)) with
      | none => rfl
      | some L =>
        exfalso
        unfold fourX at hx
        rw [if_pos hg] at hx
        obtain ⟨c, _, hc⟩ := List.exists_of_findSome?_eq_some hx
        split at hc
        · rename_i hd
          have hP := of_decide_eq_true hd
          obtain ⟨hl, hj⟩ := hP
          have k := fun i k hik hk => joinP_at hg hj (i := i) (k := k) hik (by omega)
          exact h2 _ _ _ _ (k 0 1 (by omega) (by omega)) (k 2 3 (by omega) (by omega)) (k 0 2 (by omega) (by omega)) (k 0 3 (by omega) (by omega)) (k 1 2 (by omega) (by omega)) (k 1 3 (by omega) (by omega))
        · cases hc
    have e2 : holeX n rows = none := by
      cases hx : holeX n rows with
      | none => rfl
      | some L =>
        exfalso
        obtain ⟨i, hi, hL⟩ := List.exists_of_findSome?_eq_some hx
        unfold holeT firstX at hL
        rw [if_pos hg] at hL
        have hf := (firstG_pre _ _ _ hL).2
        have hP := of_decide_eq_true hf
        have hlen := hP.1
        have k := fun i k hik hk => joinP_at hg hP.2 (i := i) (k := k) hik hk
        have hap := hP.2.1.2.2
        have hin := hP.2.1.2.1
        have hs := eN_sym hg rfl
        have e01 := k 0 1 (by omega) (by omega)
        have e12 := k 1 2 (by omega) (by omega)
        have e23 := k 2 3 (by omega) (by omega)
        have e02 := k 0 2 (by omega) (by omega)
        have e13 := k 1 3 (by omega) (by omega)
        have e03 := k 0 3 (by omega) (by omega)
        have dif : ∀ i j, j < i → i < L.length → (L.getD j 0).toNat ≠ (L.getD i 0).toNat := fun i j hji hi e => by
          have := hap i hi j hji
          have := hin i hi
          have := hin j (by omega)
          omega
        by_cases l4 : L.length = 4
        · rw [l4] at e01 e12 e23 e02 e13 e03
          exact h4 _ _ _ _ e01 e12 e23 (by rw [hs]; exact e03) e02 e13 (dif 2 0 (by omega) (by omega)) (dif 3 1 (by omega) (by omega))
        by_cases l5 : L.length = 5
        · have e34 := k 3 4 (by omega) (by omega)
          have e04 := k 0 4 (by omega) (by omega)
          have e14 := k 1 4 (by omega) (by omega)
          have e24 := k 2 4 (by omega) (by omega)
          rw [l5] at e01 e12 e23 e02 e13 e03 e34 e04 e14 e24
          exact h5 _ _ _ _ _ e01 e12 e23 e34 (by rw [hs]; exact e04) e02 e03 e13 e14 e24
        · have e34 := k 3 4 (by omega) (by omega)
          have e04 := k 0 4 (by omega) (by omega)
          have e14 := k 1 4 (by omega) (by omega)
          have hJ : ∀ i k, ¬ k = i + 1 → ¬ (i = 0 ∧ k + 1 = L.length) → holeJ L.length i k = false := fun i k h1 h2 => decide_eq_false (fun h => h.elim h1 h2)
          have hJ1 : ∀ i, holeJ L.length i (i + 1) = true := fun i => decide_eq_true (.inl rfl)
          rw [hJ1 0] at e01
          rw [hJ1 3] at e34
          rw [hJ 0 3 (by omega) (by omega)] at e03
          rw [hJ 0 4 (by omega) (by omega)] at e04
          rw [hJ 1 3 (by omega) (by omega)] at e13
          rw [hJ 1 4 (by omega) (by omega)] at e14
          exact h2 _ _ _ _ e01 e34 e03 e04 e13 e14
    unfold splitObsX
    rw [e1, e2]; rfl
  | false =>
    unfold splitObsX
    cases hx : fourX n rows (fun l => decide (twoP n rows l)) with
    | some L => rfl
    | none =>
      cases hy : holeX n rows with
      | some L => rfl
      | none =>
        rw [(isSp_free hg).2 ⟨two_none hg hx, hole4_none hg hy, hole5_none hg hy⟩] at h
        cases h
theorem obs_good {rows : List Int} {n : Nat} (hg : IsG n rows) (h : (splitObsX n rows).isSome = true) : splitObsP n rows ((splitObsX n rows).getD []) := by
  unfold splitObsX at h ⊢
  cases hx : fourX n rows (fun l => decide (twoP n rows l)) with
  | some L =>
    unfold fourX at hx
    rw [if_pos hg] at hx
    obtain ⟨c, _, hc⟩ := List.exists_of_findSome?_eq_some hx
    split at hc
    · rename_i hd
      obtain rfl := Option.some.inj hc
      exact .inl (of_decide_eq_true hd)
    · cases hc
  | none =>
    have h2 := two_none hg hx
    rw [hx] at h
    cases hy : holeX n rows with
    | none => rw [hy] at h; cases h
    | some L =>
      obtain ⟨i, hi, hL⟩ := List.exists_of_findSome?_eq_some hy
      unfold holeT firstX at hL
      rw [if_pos hg] at hL
      have hP := of_decide_eq_true (firstG_pre _ _ _ hL).2
      refine .inr ⟨?_, hP⟩
      rcases Nat.lt_or_ge 5 L.length with h6 | h6
      case inr => exact h6
      exfalso
      have k := fun i k hik hk => joinP_at hg hP.2 (i := i) (k := k) hik hk
      have e01 := k 0 1 (by omega) (by omega)
      have e34 := k 3 4 (by omega) (by omega)
      have e03 := k 0 3 (by omega) (by omega)
      have e13 := k 1 3 (by omega) (by omega)
      have e04 := k 0 4 (by omega) (by omega)
      have e14 := k 1 4 (by omega) (by omega)
      have hJ : ∀ i k, ¬ k = i + 1 → ¬ (i = 0 ∧ k + 1 = L.length) → holeJ L.length i k = false := fun i k h1 h2 => decide_eq_false (fun h => h.elim h1 h2)
      have hJ1 : ∀ i, holeJ L.length i (i + 1) = true := fun i => decide_eq_true (.inl rfl)
      rw [hJ1 0] at e01
      rw [hJ1 3] at e34
      rw [hJ 0 3 (by omega) (by omega)] at e03
      rw [hJ 0 4 (by omega) (by omega)] at e04
      rw [hJ 1 3 (by omega) (by omega)] at e13
      rw [hJ 1 4 (by omega) (by omega)] at e14
      exact h2 _ _ _ _ e01 e34 e03 e04 e13 e14
theorem csX_pos (size : Int) (rows : List Int) : decide (csX size rows > 0) = isSp size rows := by
  unfold csX isSp
  by_cases hg : IsG size rows
  · rw [if_pos hg, Bool.eq_iff_iff, leastB_iffS, decide_eq_true_iff]
    unfold csU
    constructor
    · intro h
      refine ⟨hg, ?_⟩
      have h : 0 < (((List.range (ishl 1 size).toNat).map Int.ofNat).filter (fun s => decide (splitP size rows s))).length := by omega
      obtain ⟨x, hx⟩ := List.exists_mem_of_length_pos h
      obtain ⟨h1, h2⟩ := List.mem_filter.1 hx
      obtain ⟨s, hs, rfl⟩ := List.mem_map.1 h1
      exact ⟨s, List.mem_range.1 hs, h2⟩
    · rintro ⟨_, s, hs, hp⟩
      have hm : (s : Int) ∈ ((List.range (ishl 1 size).toNat).map Int.ofNat).filter (fun s => decide (splitP size rows s)) := List.mem_filter.2 ⟨List.mem_map.2 ⟨s, List.mem_range.2 hs, rfl⟩, hp⟩
      have := List.length_pos_of_mem hm
      omega
  · rw [if_neg hg]
    unfold leastB
    rw [if_neg hg]; rfl
end Go.Pw
