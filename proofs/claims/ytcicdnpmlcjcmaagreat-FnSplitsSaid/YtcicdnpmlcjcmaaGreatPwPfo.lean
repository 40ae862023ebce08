/- The plain mathematics of searches through all lists of four. -/
import Derived.Test.YtcicdnpmlcjcmaaGreatPwPfl
import Derived.Test.YtcicdnpmlcjcmaaGreatPwMod
namespace Go.Pw
open Go
theorem firstG_pre {N : Nat} {ok : List Int → Int → Bool} {fin : List Int → Bool} : ∀ (d : Nat) (l L : List Int), firstG N ok fin d l = some L → (∃ m, L = l ++ m) ∧ fin L = true
  | 0, l, L, h => by
    unfold firstG at h
    split at h
    · obtain rfl := Option.some.inj h; exact ⟨⟨[], by simp⟩, by assumption⟩
    · cases h
  | d + 1, l, L, h => by
    unfold firstG at h
    obtain ⟨v, _, hv⟩ := List.exists_of_findSome?_eq_some h
    split at hv
    · obtain ⟨⟨m, hm⟩, hf⟩ := firstG_pre d _ L hv
      exact ⟨⟨(v : Int) :: m, by rw [hm]; simp⟩, hf⟩
    · cases hv
theorem apart_pre {l m : List Int} {v : Int} (h : apartL (l ++ [v] ++ m)) : v ∉ l := fun hv => by
  obtain ⟨i, hi, rfl⟩ := mem_getD hv
  refine h l.length (by simp) i hi ?_
  simp [List.getD, hi, List.getElem?_append_left, List.getElem?_append]
/-- Where the end asks for different members, the search need not. -/
theorem firstG_all4 {N : Nat} {fin : List Int → Bool} (hf : ∀ L, fin L = true → apartL L) : ∀ (d : Nat) (l : List Int), firstG N (okI fun _ => true) fin d l = firstG N (fun _ _ => true) fin d l
  | 0, _ => rfl
  | d + 1, l => by
    unfold firstG
    refine findSome_congr fun v _ => ?_
    by_cases h : (v : Int) ∈ l
    · have h1 : okI (fun _ => true) l (v : Int) = false := by simp [okI, h]
      rw [if_neg (by rw [h1]; exact Bool.false_ne_true), if_pos rfl]
      cases hg : firstG N (fun _ _ => true) fin d (l ++ [(v : Int)]) with
      | none => rfl
      | some L =>
        obtain ⟨⟨m, hm⟩, hL⟩ := firstG_pre d _ L hg
        exact (apart_pre (m := m) (by rw [← hm]; exact hf L hL) h).elim
    · have h1 : okI (fun _ => true) l (v : Int) = true := by simp [okI, h]
      rw [if_pos h1, if_pos rfl, firstG_all4 hf d]
/-- The four members that a number codes. -/
def digs (N c : Nat) : List Int := [((c / (N * N * N) : Nat) : Int), ((c / (N * N) % N : Nat) : Int), ((c / N % N : Nat) : Int), ((c % N : Nat) : Int)]
def fourK (N : Nat) (fin : List Int → Bool) (k : Nat) : Option (List Int) := (List.range k).findSome? fun c => if fin (digs N c) = true then some (digs N c) else none
theorem digs_of {N a b c d : Nat} (hb : b < N) (hc : c < N) (hd : d < N) : digs N (((a * N + b) * N + c) * N + d) = [(a : Int), (b : Int), (c : Int), (d : Int)] := by
  have hN : 0 < N := by omega
  have q : ∀ x y, y < N → (x * N + y) / N = x := fun x y hy => by
    rw [Nat.add_comm, Nat.add_mul_div_right _ _ hN, Nat.div_eq_of_lt hy, Nat.zero_add]
  have m : ∀ x y, y < N → (x * N + y) % N = y := fun x y hy => by
    rw [Nat.add_comm, Nat.add_mul_mod_self_right, Nat.mod_eq_of_lt hy]
  have e1 : (((a * N + b) * N + c) * N + d) / (N * N * N) = a := by rw [← Nat.div_div_eq_div_mul, ← Nat.div_div_eq_div_mul, q _ _ hd, q _ _ hc, q _ _ hb]
  have e2 : (((a * N + b) * N + c) * N + d) / (N * N) % N = b := by rw [← Nat.div_div_eq_div_mul, q _ _ hd, q _ _ hc, m _ _ hb]
  have e3 : (((a * N + b) * N + c) * N + d) / N % N = c := by rw [q _ _ hd, m _ _ hc]
  unfold digs
  rw [e1, e2, e3, m _ _ hd]
theorem four_first (N : Nat) (fin : List Int → Bool) : firstG N (fun _ _ => true) fin 4 [] = fourK N fin (N * N * N * N) := by
  unfold fourK
  rw [← range_nest N _ (N * N * N), ← range_nest N _ (N * N), ← range_nest N _ N]
  show (List.range N).findSome? _ = _
  refine findSome_congr fun a _ => ?_
  rw [if_pos rfl]
  show (List.range N).findSome? _ = _
  refine findSome_congr fun b hb => ?_
  rw [if_pos rfl]
  show (List.range N).findSome? _ = _
  refine findSome_congr fun c hc => ?_
  rw [if_pos rfl]
  show (List.range N).findSome? _ = _
  refine findSome_congr fun d hd => ?_
  rw [if_pos rfl, digs_of (List.mem_range.1 hb) (List.mem_range.1 hc) (List.mem_range.1 hd)]
  rfl
def fourX (size : Int) (rows : List Int) (fin : List Int → Bool) : Option (List Int) := if IsG size rows then fourK size.toNat fin (size.toNat * size.toNat * size.toNat * size.toNat) else none
theorem four_firstX {size : Int} {rows : List Int} {fin : List Int → Bool} (hf : ∀ L, fin L = true → apartL L) : firstX size rows (fun _ => true) fin 4 = fourX size rows fin := by
  unfold firstX fourX
  rw [firstG_all4 hf, four_first]
theorem fourK_succ (N : Nat) (fin : List Int → Bool) (k : Nat) (h : fourK N fin k = none) : fourK N fin (k + 1) = if fin (digs N k) = true then some (digs N k) else none := by
  unfold fourK at h ⊢
  rw [List.range_succ, List.findSome?_append, h]; simp
theorem fourK_hit {N k M : Nat} {fin : List Int → Bool} (h : fourK N fin k = none) (hk : k < M) (hf : fin (digs N k) = true) : fourK N fin M = some (digs N k) := by
  have h1 := fourK_succ N fin k h
  rw [if_pos hf] at h1
  unfold fourK at h1 ⊢
  have hm : List.range M = List.range (k + 1) ++ (List.range (M - (k + 1))).map (fun x => k + 1 + x) := by rw [← List.range_add]; congr 1; omega
  rw [hm]
  exact findSome_prefix _ _ _ _ h1
theorem fourX_len (size : Int) (rows : List Int) (fin : List Int → Bool) : ((fourX size rows fin).getD []).length ≤ 4 := by
  cases h : fourX size rows fin with
  | none => simp
  | some L =>
    unfold fourX at h
    split at h
    · obtain ⟨c, _, hc⟩ := List.exists_of_findSome?_eq_some h
      split at hc
      · obtain rfl := Option.some.inj hc; simp [digs]
      · cases hc
    · cases h
theorem pow_bounds {N : Nat} (h1 : 1 ≤ N) (h7 : N ≤ 7) : (1 ≤ (N : Int) * N ∧ (N : Int) * N ≤ 49) ∧ (1 ≤ (N : Int) * N * N ∧ (N : Int) * N * N ≤ 343) ∧ (1 ≤ (N : Int) * N * N * N ∧ (N : Int) * N * N * N ≤ 2401) := by
  have : N = 1 ∨ N = 2 ∨ N = 3 ∨ N = 4 ∨ N = 5 ∨ N = 6 ∨ N = 7 := by omega
  rcases this with rfl | rfl | rfl | rfl | rfl | rfl | rfl <;> decide
theorem digs_int {N c : Nat} (hc : c ≤ 2401) :
    w64 ((c : Int).tdiv ((N : Int) * N * N)) = ((c / (N * N * N) : Nat) : Int) ∧ (w64 ((c : Int).tdiv ((N : Int) * N))).tmod N = ((c / (N * N) % N : Nat) : Int) ∧ (w64 ((c : Int).tdiv N)).tmod N = ((c / N % N : Nat) : Int) ∧ (c : Int).tmod N = ((c % N : Nat) : Int) := by
  have q : ∀ m : Nat, w64 ((c : Int).tdiv (m : Int)) = ((c / m : Nat) : Int) := fun m => by
    rw [← Int.ofNat_tdiv]
    have := Nat.div_le_self c m
    generalize c / m = k at this
    exact w64_in ⟨by omega, by omega⟩
  have e3 : (N : Int) * N * N = ((N * N * N : Nat) : Int) := by simp
  have e2 : (N : Int) * N = ((N * N : Nat) : Int) := by simp
  rw [e3, e2, q, q, q]
  refine ⟨rfl, ?_, ?_, ?_⟩ <;> rw [← Int.ofNat_tmod]
/-- Holes of at least m vertices, the shortest first. -/
def holeT (size : Int) (rows : List Int) (n : Nat) : Option (List Int) := firstX size rows (fun l => decide (l.length = n) || decide (pathP size rows l)) (fun l => decide (holeP size rows l)) n
def holeK (size : Int) (rows : List Int) (k : Nat) : Option (List Int) := (List.range k).findSome? fun i => holeT size rows (4 + i)
def holeX (size : Int) (rows : List Int) : Option (List Int) := holeK size rows (size.toNat - 3)
theorem holeK_succ (size : Int) (rows : List Int) (k : Nat) (h : holeK size rows k = none) : holeK size rows (k + 1) = holeT size rows (4 + k) := by
  unfold holeK at h ⊢
  rw [List.range_succ, List.findSome?_append, h]; simp
theorem holeK_hit {size : Int} {rows : List Int} {k M : Nat} {L : List Int} (h : holeK size rows k = none) (hk : k < M) (hf : holeT size rows (4 + k) = some L) : holeK size rows M = some L := by
  have h1 := holeK_succ size rows k h
  rw [hf] at h1
  unfold holeK at h1 ⊢
  have hm : List.range M = List.range (k + 1) ++ (List.range (M - (k + 1))).map (fun x => k + 1 + x) := by rw [← List.range_add]; congr 1; omega
  rw [hm]
  exact findSome_prefix _ _ _ _ h1
theorem holeX_none {size : Int} {rows : List Int} (h : ¬ IsG size rows) : holeX size rows = none := by
  unfold holeX holeK
  rw [List.findSome?_eq_none_iff]
  intro i _
  unfold holeT firstX
  rw [if_neg h]
theorem holeX_len {size : Int} {rows : List Int} : ((holeX size rows).getD []).length ≤ 7 := by
  by_cases hg : IsG size rows
  · cases h : holeX size rows with
    | none => simp
    | some L =>
      obtain ⟨i, hi, hL⟩ := List.exists_of_findSome?_eq_some h
      have h2 := firstX_len (size := size) (rows := rows) (may := fun l => decide (l.length = 4 + i) || decide (pathP size rows l)) (fin := fun l => decide (holeP size rows l)) (n := 4 + i)
      have h3 := hg.1.2
      have h4 := List.mem_range.1 hi
      unfold holeT at hL
      rw [hL] at h2
      simp only [Option.getD_some] at h2 ⊢
      omega
  · rw [holeX_none hg]; simp
/-- The reference's search for a hole of m + 1 vertices. -/
theorem hole_firstR {size : Int} {rows : List Int} {m : Nat} (hg : IsG size rows) :
    firstG size.toNat (okR (fun x => decide (pathP size rows x)) (fun x => decide (holeP size rows x)) (m + 1) true) (finS (fun x => decide (holeP size rows x)) true) (m + 1) [] = holeT size rows (m + 1) := by
  unfold holeT firstX
  rw [if_pos hg]
  refine firstG_congr (n := m + 1) (fun l v _ h => ?_) (fun l v _ h => ?_) m [] (by simp)
  · have h1 : ¬ l.length + 1 = m + 1 := by omega
    have := path_okI (size := size) (rows := rows) l (v : Int)
    unfold okI at this ⊢
    unfold okR
    dsimp only at this ⊢
    rw [← this]
    simp [h1, show ¬ l.length = m by omega]
  · have h1 : (l ++ [(v : Int)]).length = m + 1 := by simp; omega
    unfold okR okI finS
    simp only [h1, h, decide_true, Bool.true_and, Bool.true_or, if_true, Bool.and_true]
    by_cases hh : holeP size rows (l ++ [(v : Int)])
    · have := apart_last hh.2.1.2.2
      simp [hh, this]
    · simp [hh]
def splitObsX (size : Int) (rows : List Int) : Option (List Int) := (fourX size rows fun l => decide (twoP size rows l)).or (holeX size rows)
theorem splitObs_len {size : Int} {rows : List Int} : ((splitObsX size rows).getD []).length ≤ 7 := by
  unfold splitObsX
  have h1 := fourX_len size rows fun l => decide (twoP size rows l)
  have h2 := holeX_len (size := size) (rows := rows)
  cases h : fourX size rows fun l => decide (twoP size rows l) with
  | none => simpa using h2
  | some L => rw [h] at h1; simp at h1 ⊢; omega
theorem two_apart {size : Int} {rows : List Int} (L : List Int) (h : decide (twoP size rows L) = true) : apartL L := (of_decide_eq_true h).2.1.2.2
theorem thrObs_apart {size : Int} {rows : List Int} (L : List Int) (h : decide (thrObsP size rows L) = true) : apartL L := by
  rcases (of_decide_eq_true h).2 with h | h | h
  · exact h.2.1.2.2
  · exact h.2.1.2.2
  · exact h.2.1.2.2
end Go.Pw
