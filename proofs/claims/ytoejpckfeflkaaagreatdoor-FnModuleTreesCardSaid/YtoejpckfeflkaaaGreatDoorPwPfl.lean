/- The plain mathematics of searches for a first list. -/
import Derived.Test.YtoejpckfeflkaaaGreatDoorPwPld
namespace Go.Pw
open Go
/-- The first list that has so many members more, each of which may follow. -/
def firstG (N : Nat) (ok : List Int → Int → Bool) (fin : List Int → Bool) : Nat → List Int → Option (List Int)
  | 0, l => if fin l = true then some l else none
  | d + 1, l => (List.range N).findSome? fun v : Nat => if ok l (v : Int) = true then firstG N ok fin d (l ++ [(v : Int)]) else none
def firstK (N : Nat) (ok : List Int → Int → Bool) (fin : List Int → Bool) (d : Nat) (l : List Int) (k : Nat) : Option (List Int) :=
  (List.range k).findSome? fun v : Nat => if ok l (v : Int) = true then firstG N ok fin d (l ++ [(v : Int)]) else none
theorem firstG_all (N : Nat) (ok : List Int → Int → Bool) (fin : List Int → Bool) (d : Nat) (l : List Int) : firstG N ok fin (d + 1) l = firstK N ok fin d l N := rfl
theorem firstK_succ (N : Nat) (ok : List Int → Int → Bool) (fin : List Int → Bool) (d : Nat) (l : List Int) (k : Nat) (h : firstK N ok fin d l k = none) :
    firstK N ok fin d l (k + 1) = if ok l (k : Int) = true then firstG N ok fin d (l ++ [(k : Int)]) else none := by
  unfold firstK at h ⊢
  rw [List.range_succ, List.findSome?_append, h]
  simp
theorem findSome_prefix {α β : Type} (f : α → Option β) (x : β) : ∀ (l m : List α), l.findSome? f = some x → (l ++ m).findSome? f = some x := by
  intro l m h; rw [List.findSome?_append, h]; rfl
theorem firstK_hit {N : Nat} {ok : List Int → Int → Bool} {fin : List Int → Bool} {d : Nat} {l : List Int} {k : Nat} {L : List Int} (hk : k < N) (h : firstK N ok fin d l k = none) (ho : ok l (k : Int) = true) (hL : firstG N ok fin d (l ++ [(k : Int)]) = some L) :
    firstG N ok fin (d + 1) l = some L := by
  have h1 := firstK_succ N ok fin d l k h
  rw [if_pos ho, hL] at h1
  rw [firstG_all]
  unfold firstK at h1 ⊢
  have hm : List.range N = List.range (k + 1) ++ (List.range (N - (k + 1))).map (fun x => k + 1 + x) := by rw [← List.range_add]; congr 1; omega
  rw [hm]
  exact findSome_prefix _ _ _ _ h1
theorem firstK_miss {N : Nat} {ok : List Int → Int → Bool} {fin : List Int → Bool} {d : Nat} {l : List Int} {k : Nat} (h : firstK N ok fin d l k = none) (ho : ok l (k : Int) = true → firstG N ok fin d (l ++ [(k : Int)]) = none) : firstK N ok fin d l (k + 1) = none := by
  rw [firstK_succ _ _ _ _ _ _ h]
  split
  · exact ho (by assumption)
  · rfl
theorem firstG_len {N : Nat} {ok : List Int → Int → Bool} {fin : List Int → Bool} : ∀ (d : Nat) (l L : List Int), firstG N ok fin d l = some L → L.length = l.length + d
  | 0, l, L, h => by
    unfold firstG at h
    split at h
    · obtain rfl := Option.some.inj h; rfl
    · cases h
  | d + 1, l, L, h => by
    unfold firstG at h
    obtain ⟨v, _, hv⟩ := List.exists_of_findSome?_eq_some h
    split at hv
    · have := firstG_len d _ L hv
      simp only [List.length_append, List.length_singleton] at this
      omega
    · cases hv
theorem findSome_congr {α β : Type} {f g : α → Option β} : ∀ {l : List α}, (∀ x ∈ l, f x = g x) → l.findSome? f = l.findSome? g
  | [], _ => rfl
  | a :: l, h => by
    rw [List.findSome?_cons, List.findSome?_cons, h a (List.mem_cons_self ..), findSome_congr (l := l) fun x hx => h x (List.mem_cons_of_mem _ hx)]
/-- Two searches that go on alike, but for the last step, which ends alike. -/
theorem firstG_congr {N n : Nat} {ok ok' : List Int → Int → Bool} {fin fin' : List Int → Bool}
    (h1 : ∀ l (v : Nat), v < N → l.length + 1 < n → ok l (v : Int) = ok' l (v : Int))
    (h2 : ∀ l (v : Nat), v < N → l.length + 1 = n → (ok l (v : Int) && fin (l ++ [(v : Int)])) = (ok' l (v : Int) && fin' (l ++ [(v : Int)]))) :
    ∀ (d : Nat) (l : List Int), l.length + (d + 1) = n → firstG N ok fin (d + 1) l = firstG N ok' fin' (d + 1) l
  | 0, l, hl => by
    unfold firstG
    refine findSome_congr fun v hv => ?_
    have := h2 l v (List.mem_range.1 hv) (by omega)
    unfold firstG
    cases h3 : ok l (v : Int) <;> cases h4 : ok' l (v : Int) <;> cases h5 : fin (l ++ [(v : Int)]) <;> cases h6 : fin' (l ++ [(v : Int)]) <;> simp_all
  | d + 1, l, hl => by
    rw [firstG, firstG]
    refine findSome_congr fun v hv => ?_
    rw [h1 l v (List.mem_range.1 hv) (by omega), firstG_congr h1 h2 d (l ++ [(v : Int)]) (by simp; omega)]
/-- Nested ranges are one range. -/
theorem range_nest {β : Type} (b : Nat) (f : Nat → Option β) : ∀ a : Nat, (List.range a).findSome? (fun i => (List.range b).findSome? fun j => f (i * b + j)) = (List.range (a * b)).findSome? f
  | 0 => by simp
  | a + 1 => by
    rw [List.range_succ, List.findSome?_append, range_nest b f a, Nat.succ_mul, List.range_add, List.findSome?_append]
    congr 1
    rw [List.findSome?_map]
    simp [Function.comp_def]
theorem findSome_some {α β : Type} {f : α → Option β} {l : List α} {x : β} (h : l.findSome? f = some x) : ∃ a ∈ l, f a = some x := List.exists_of_findSome?_eq_some h
def okI (may : List Int → Bool) (l : List Int) (v : Int) : Bool := !decide (v ∈ l) && may (l ++ [v])
/-- What the program's search for n vertices finds in a graph. -/
def firstX (size : Int) (rows : List Int) (may fin : List Int → Bool) (n : Nat) : Option (List Int) := if IsG size rows then firstG size.toNat (okI may) fin n [] else none
theorem firstX_len {size : Int} {rows : List Int} {may fin : List Int → Bool} {n : Nat} : ((firstX size rows may fin n).getD []).length ≤ n := by
  cases h : firstX size rows may fin n with
  | none => simp
  | some L =>
    unfold firstX at h
    split at h
    · have := firstG_len n [] L h
      simp at this ⊢; omega
    · cases h
/-- Induced paths of n vertices. -/
def pathX (size : Int) (rows : List Int) (n : Int) : Option (List Int) := if IsG size rows ∧ 1 ≤ n ∧ n ≤ size then firstG size.toNat (fun l v => decide (pathP size rows (l ++ [v]))) (fun _ => true) n.toNat [] else none
theorem apart_last {l : List Int} {v : Int} (h : apartL (l ++ [v])) : v ∉ l := fun hv => by
  obtain ⟨i, hi, rfl⟩ := mem_getD hv
  refine h l.length (by simp) i hi ?_
  simp [List.getD, hi, List.getElem?_append_left]
theorem path_okI {size : Int} {rows : List Int} (l : List Int) (v : Int) : okI (fun x => decide (pathP size rows x)) l v = decide (pathP size rows (l ++ [v])) := by
  unfold okI
  by_cases h : pathP size rows (l ++ [v])
  · have := apart_last h.2.1.2.2
    simp [h, this]
  · simp [h]
theorem path_firstX {size : Int} {rows : List Int} {n : Int} (h : 1 ≤ n ∧ n ≤ size) : firstX size rows (fun x => decide (pathP size rows x)) (fun _ => true) n.toNat = pathX size rows n := by
  unfold firstX pathX
  by_cases hg : IsG size rows
  · rw [if_pos hg, if_pos ⟨hg, h⟩]
    obtain ⟨m, hm⟩ : ∃ m : Nat, n.toNat = m + 1 := ⟨n.toNat - 1, by omega⟩
    rw [hm]
    exact firstG_congr (n := m + 1) (fun l v _ _ => path_okI l v) (fun l v _ _ => by rw [path_okI]) m [] (by simp)
  · rw [if_neg hg, if_neg fun h => hg h.1]
theorem pathX_len {size : Int} {rows : List Int} {n : Int} (h : n ≤ 7) : ((pathX size rows n).getD []).length ≤ 7 := by
  by_cases h1 : 1 ≤ n ∧ n ≤ size
  · rw [← path_firstX h1]
    have := firstX_len (size := size) (rows := rows) (may := fun x => decide (pathP size rows x)) (fin := fun _ => true) (n := n.toNat)
    omega
  · unfold pathX; rw [if_neg fun h => h1 h.2]; simp
/-- What may follow in the reference's search, and its end. -/
def okR (pathB holeB : List Int → Bool) (n : Nat) (closed : Bool) (l : List Int) (v : Int) : Bool := pathB (l ++ [v]) || (closed && decide (l.length + 1 = n) && holeB (l ++ [v]))
def finS (holeB : List Int → Bool) (closed : Bool) (l : List Int) : Bool := if closed = true then holeB l else true
theorem path_okR {size : Int} {rows : List Int} {n : Nat} {holeB : List Int → Bool} (l : List Int) (v : Int) : okR (fun x => decide (pathP size rows x)) holeB n false l v = decide (pathP size rows (l ++ [v])) := by simp [okR]
theorem path_firstR {size : Int} {rows : List Int} {holeB : List Int → Bool} {n : Int} {m : Nat} (hg : IsG size rows) (h : 1 ≤ n ∧ n ≤ size) (hm : n.toNat = m + 1) :
    firstG size.toNat (okR (fun x => decide (pathP size rows x)) holeB (m + 1) false) (finS holeB false) (m + 1) [] = pathX size rows n := by
  unfold pathX
  rw [if_pos ⟨hg, h⟩, hm]
  exact firstG_congr (n := m + 1) (fun l v _ _ => path_okR l v) (fun l v _ _ => by rw [path_okR]; simp [finS]) m [] (by simp)
end Go.Pw
