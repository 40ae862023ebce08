import Derived.Test.YtkbjcfabbapnpaaPwPpg
/- The plain mathematics of FnOrientations: a chain is found exactly if no orientation is, and it is one. -/
namespace Go.Pw
open Go
/-- A chain of arcs each of which forces the next, from an arc to its opposite. -/
def fcP (size : Int) (rows : List Int) (L : List (List Int)) : Prop := (2 ≤ L.length ∧ L.length ≤ 60) ∧ (∀ i, i < L.length → (L.getD i []).length = 2 ∧ edgeP size rows ((L.getD i []).getD 0 0) ((L.getD i []).getD 1 0)) ∧
  (∀ i, i + 1 < L.length → L.getD (i + 1) [] ∈ nextA rows ((L.getD i []).getD 0 0) ((L.getD i []).getD 1 0)) ∧ ((L.getD 0 []).getD 0 0 = (L.getD (L.length - 1) []).getD 1 0 ∧ (L.getD 0 []).getD 1 0 = (L.getD (L.length - 1) []).getD 0 0)
/-- By which each was found. -/
def OkB (rows : List Int) (a b : Int) (s : List (List Int) × List Int) : Prop := s.2.length = s.1.length ∧ (0 < s.1.length ∧ s.1.getD 0 [] = [a, b] ∧ s.2.getD 0 0 = -1) ∧
  ∀ j, 0 < j → j < s.1.length → 0 ≤ s.2.getD j 0 ∧ s.2.getD j 0 < j ∧ s.1.getD j [] ∈ nextA rows ((s.1.getD (s.2.getD j 0).toNat []).getD 0 0) ((s.1.getD (s.2.getD j 0).toNat []).getD 1 0)
theorem getD_appL {α : Type} {l m : List α} {i : Nat} {d : α} (h : i < l.length) : (l ++ m).getD i d = l.getD i d := by simp [List.getD, List.getElem?_append_left h]
theorem getD_appR {α : Type} {l : List α} {x d : α} : (l ++ [x]).getD l.length d = x := by simp [List.getD]
theorem OkB.add {rows : List Int} {a b : Int} {s : List (List Int) × List Int} {k : Nat} {e : List Int} (h : OkB rows a b s) (hk : k < s.1.length) (he : e ∈ nextA rows ((s.1.getD k []).getD 0 0) ((s.1.getD k []).getD 1 0)) : OkB rows a b (addA k s e) ∧ k < (addA k s e).1.length ∧ (addA k s e).1.getD k [] = s.1.getD k [] := by
  unfold addA
  split
  · exact ⟨h, hk, rfl⟩
  · obtain ⟨h1, ⟨h2, h3, h4⟩, h5⟩ := h
    refine ⟨⟨by simp [h1], ⟨by simp, by rw [getD_appL h2]; exact h3, by rw [getD_appL (by omega)]; exact h4⟩, fun j hj hjl => ?_⟩, by simp; omega, getD_appL hk⟩
    simp only [List.length_append, List.length_singleton] at hjl
    by_cases hj2 : j < s.1.length
    · obtain ⟨c1, c2, c3⟩ := h5 j hj hj2
      dsimp only
      rw [getD_appL (by omega), getD_appL hj2, getD_appL (by omega)]
      exact ⟨c1, c2, c3⟩
    · obtain rfl : j = s.1.length := by omega
      dsimp only
      rw [show (s.2 ++ [(k : Int)]).getD s.1.length 0 = (k : Int) by rw [← h1]; exact getD_appR, getD_appR, Int.toNat_natCast, getD_appL hk]
      exact ⟨by omega, by omega, he⟩
theorem OkB.fold {rows : List Int} {a b : Int} {k : Nat} {x y : Int} : ∀ (l : List (List Int)) {s : List (List Int) × List Int}, OkB rows a b s → k < s.1.length → (s.1.getD k []).getD 0 0 = x → (s.1.getD k []).getD 1 0 = y → (∀ e ∈ l, e ∈ nextA rows x y) → OkB rows a b (l.foldl (addA k) s)
  | [], _, h, _, _, _, _ => h
  | e :: l, s, h, hk, hx, hy, hl => by
    obtain ⟨h1, h2, h3⟩ := h.add hk (e := e) (by rw [hx, hy]; exact hl e (List.mem_cons_self ..))
    rw [List.foldl_cons]
    exact OkB.fold l h1 h2 (by rw [h3]; exact hx) (by rw [h3]; exact hy) fun e he => hl e (List.mem_cons_of_mem _ he)
theorem bfs_okB (rows : List Int) (a b : Int) : ∀ k, OkB rows a b (bfsA rows a b k)
  | 0 => ⟨rfl, ⟨by simp [bfsA], rfl, rfl⟩, fun j h1 h2 => by simp [bfsA] at h2; omega⟩
  | k + 1 => by
    have ih := bfs_okB rows a b k
    unfold bfsA
    split
    · rename_i hk
      exact OkB.fold _ ih hk rfl rfl fun e he => he
    · exact ih
/-- The way back to the first. -/
theorem way_back {rows : List Int} {a b : Int} {s : List (List Int) × List Int} (h : OkB rows a b s) (hf : ∀ i, i < s.2.length → -1 ≤ s.2.getD i 0 ∧ s.2.getD i 0 < i) : ∀ (k i : Nat), i < k → i < s.1.length →
    ∃ c : List Nat, chainI s.2 i = c ++ [i] ∧ (∀ j ∈ chainI s.2 i, j < s.1.length) ∧ (chainI s.2 i).getD 0 0 = 0 ∧ ∀ j, j + 1 < (chainI s.2 i).length → s.1.getD ((chainI s.2 i).getD (j + 1) 0) [] ∈ nextA rows ((s.1.getD ((chainI s.2 i).getD j 0) []).getD 0 0) ((s.1.getD ((chainI s.2 i).getD j 0) []).getD 1 0)
  | 0, i, h1, _ => by omega
  | k + 1, i, h1, hi => by
    obtain ⟨e1, ⟨e2, e3, e4⟩, e5⟩ := id h
    have hst := chainI_step hf (i := i) (by omega)
    by_cases h0 : i = 0
    · subst h0
      rw [e4, chainI_neg (i := -1) (by omega), List.nil_append] at hst
      rw [hst]
      exact ⟨[], rfl, fun j hj => by obtain rfl := List.mem_singleton.1 hj; exact hi, rfl, fun j hj => by simp at hj⟩
    · obtain ⟨c1, c2, c3⟩ := e5 i (by omega) hi
      obtain ⟨m, hm⟩ := Int.eq_ofNat_of_zero_le c1
      rw [hm] at c2 c3 hst
      rw [Int.toNat_natCast] at c3
      obtain ⟨c, w1, w2, w3, w4⟩ := way_back h hf k m (by omega) (by omega)
      have hlen : 0 < (chainI s.2 (m : Int)).length := by rw [w1]; simp
      rw [hst]
      refine ⟨_, rfl, fun j hj => ?_, by rw [getD_appL hlen]; exact w3, fun j hj => ?_⟩
      · rcases List.mem_append.1 hj with hj | hj
        · exact w2 j hj
        · obtain rfl := List.mem_singleton.1 hj; exact hi
      · simp only [List.length_append, List.length_singleton] at hj
        by_cases hj2 : j + 1 < (chainI s.2 (m : Int)).length
        · rw [getD_appL hj2, getD_appL (by omega)]
          exact w4 j hj2
        · have hje : j + 1 = (chainI s.2 (m : Int)).length := by omega
          rw [hje, getD_appR, getD_appL (by omega)]
          have hlast : (chainI s.2 (m : Int)).getD j 0 = m := by
            have hc : j = c.length := by rw [w1] at hje; simp at hje; omega
            rw [w1, hc]; exact getD_appR
          rw [hlast]
          exact c3
/-- A chain is found exactly if some arc forces its opposite. -/
theorem force_iff {rows : List Int} {n : Nat} (hg : IsG n rows) : (forceX n rows).isSome = !(oriX n rows).isSome := by
  have hP := bits_gph hg
  have hrows := bits_rows hg
  obtain ⟨m, hm, hrl, _, _⟩ := isG_size hg
  have hrl' : rows.length = n := by omega
  rw [hrl'] at hrows
  obtain ⟨o1, o2⟩ := oriF_iff hP
  have hX : oriX n rows = oriF n 50 (bitsP rows) (fun _ _ => false) := by unfold oriX; rw [if_pos hg, hrl']
  cases hf : (forceX n rows).isSome with
  | true =>
    obtain ⟨L, hL⟩ := Option.isSome_iff_exists.1 hf
    unfold forceX chainK at hL
    obtain ⟨e, he, hc⟩ := List.exists_of_findSome?_eq_some hL
    obtain ⟨v, u, rfl, hvu, hu, _, hb⟩ := edges_mem he
    rw [← bits_has hg (by omega) (by omega)] at hb
    unfold chainX at hc
    split at hc
    · rename_i hmem
      rw [hrows] at hmem
      have hfo := (forced_iff hP hb).1 hmem
      cases ho : (oriX n rows).isSome with
      | false => rfl
      | true =>
        rw [hX] at ho
        exact ((o1.1 ho) v u hb hfo).elim
    · cases hc
  | false =>
    cases ho : (oriX n rows).isSome with
    | true => rfl
    | false =>
      exfalso
      rw [hX] at ho
      have hnc : ¬ Cons (bitsP rows) := fun h => by rw [o1.2 h] at ho; cases ho
      apply hnc
      have key : ∀ v u, v < u → bitsP rows v u = true → ¬ Fo (bitsP rows) v u u v := fun v u hvu hb hfo => by
        obtain ⟨hv, hu⟩ := hP.lt v u hb
        have hmem : [(v : Int), (u : Int)] ∈ edgesL n rows := by
          unfold edgesL edU
          rw [if_pos hg]
          refine List.mem_flatMap.2 ⟨v, List.mem_range.2 (by omega), ?_⟩
          unfold edRow
          refine List.mem_map.2 ⟨u, List.mem_filter.2 ⟨List.mem_range.2 (by omega), ?_⟩, rfl⟩
          rw [← bits_has hg hv hu, hb, decide_eq_true hvu]; rfl
        have hn : (forceX n rows) = none := by cases h : forceX n rows with
          | none => rfl
          | some _ => rw [h] at hf; cases hf
        unfold forceX chainK at hn
        rw [List.findSome?_eq_none_iff] at hn
        have h1 := hn _ hmem
        unfold chainX at h1
        have h2 := (forced_iff hP hb).2 hfo
        rw [← hrows] at h2
        simp only [List.getD_cons_zero, List.getD_cons_succ] at h1
        rw [if_pos h2] at h1
        cases h1
      intro a b hab hfo
      rcases Nat.lt_trichotomy a b with h | rfl | h
      · exact key a b h hab hfo
      · rw [hP.irr] at hab; cases hab
      · exact key b a h (by rw [hP.sym]; exact hab) (hfo.rev hP.sym)
theorem placeA_get : ∀ (l : List (List Int)) (x : List Int), x ∈ l → l.getD (placeA l x).toNat [] = x
  | [], x, h => by cases h
  | y :: r, x, h => by
    unfold placeA
    by_cases e : y = x
    · rw [if_pos e, e]; rfl
    · have hx : x ∈ r := (List.mem_cons.1 h).resolve_left fun h => e h.symm
      have h0 := (placeA_mem r x).2 hx
      rw [if_neg e, if_neg (by omega), show (placeA r x + 1).toNat = (placeA r x).toNat + 1 by omega, List.getD_cons_succ]
      exact placeA_get r x hx
/-- The chain found is one. -/
theorem force_good {rows : List Int} {n : Nat} (hg : IsG n rows) {L : List (List Int)} (h : forceX n rows = some L) : fcP n rows L := by
  have hP := bits_gph hg
  have hrows := bits_rows hg
  obtain ⟨m, hm, hrl, _, hn7⟩ := isG_size hg
  have hrl' : rows.length = n := by omega
  rw [hrl'] at hrows
  unfold forceX chainK at h
  obtain ⟨e, he, hc⟩ := List.exists_of_findSome?_eq_some h
  obtain ⟨a, b, rfl, hab, hb, _, hbit⟩ := edges_mem he
  rw [← bits_has hg (by omega) (by omega)] at hbit
  simp only [List.getD_cons_zero, List.getD_cons_succ] at hc
  have hlen := chainX_len (by omega) hb (by omega) hc
  unfold chainX at hc
  split at hc
  case isFalse => cases hc
  rename_i hmem
  injection hc with hc
  have hok := forcedA_ok (rows := rows) (a := a) (b := b) ⟨a, b, rfl, by omega, by omega⟩
  have hB := bfs_okB rows (a : Int) (b : Int) 49
  have hforced : forcedA rows (a : Int) (b : Int) = bfsA rows (a : Int) (b : Int) 49 := rfl
  have hp0 := (placeA_mem (forcedA rows (a : Int) (b : Int)).1 [(b : Int), (a : Int)]).2 hmem
  have hpr := placeA_range (forcedA rows (a : Int) (b : Int)).1 [(b : Int), (a : Int)]
  have hpg := placeA_get _ _ hmem
  obtain ⟨i, hi⟩ := Int.eq_ofNat_of_zero_le hp0
  rw [hi] at hc hpr hpg
  rw [Int.toNat_natCast] at hpg
  rw [← hforced] at hB
  have hback := hok.back
  have hsound : ∀ e ∈ (forcedA rows (a : Int) (b : Int)).1, ∃ v u : Nat, e = [(v : Int), (u : Int)] ∧ bitsP rows v u = true := fun e he => by
    rw [hrows] at he
    obtain ⟨v, u, e1, hf⟩ := bfs_sound hP hbit 49 e he
    exact ⟨v, u, e1, hf.edge⟩
  generalize forcedA rows (a : Int) (b : Int) = s at *
  obtain ⟨c, w1, w2, w3, w4⟩ := way_back hB hback (i + 1) i (by omega) (by omega)
  have hfirst := hB.2.1.2.1
  have hi0 : i ≠ 0 := fun e => by
    subst e
    rw [hfirst] at hpg
    have := congrArg (fun l : List Int => l.getD 0 0) hpg
    have : (a : Int) = b := this
    omega
  have hc2 : 2 ≤ (chainI s.2 (i : Int)).length := by
    cases c with
    | nil =>
      rw [w1] at w3
      exact (hi0 w3).elim
    | cons x r => rw [w1]; simp
  have hget : ∀ j, j < (chainI s.2 (i : Int)).length → L.getD j [] = s.1.getD ((chainI s.2 (i : Int)).getD j 0) [] := fun j hj => by
    rw [← hc]; simp [List.getD, hj]
  have hLl : L.length = (chainI s.2 (i : Int)).length := by rw [← hc]; simp
  refine ⟨⟨by omega, by have := hlen.1; omega⟩, fun j hj => ?_, fun j hj => ?_, ?_⟩
  · rw [hLl] at hj
    have hx : (chainI s.2 (i : Int)).getD j 0 < s.1.length := w2 _ (by simp [List.getD, hj])
    have hm2 : s.1.getD ((chainI s.2 (i : Int)).getD j 0) [] ∈ s.1 := by
      generalize (chainI s.2 (i : Int)).getD j 0 = x at hx
      simp [List.getD, hx]
    rw [hget j hj]
    obtain ⟨v, u, e1, e2⟩ := hsound _ hm2
    rw [e1]
    obtain ⟨lv, lu⟩ := hP.lt v u e2
    rw [bits_has hg lv lu] at e2
    refine ⟨rfl, hg, ?_, ?_, ?_⟩
    · show 0 ≤ (v : Int) ∧ (v : Int) < n; omega
    · show 0 ≤ (u : Int) ∧ (u : Int) < n; omega
    · exact e2
  · rw [hLl] at hj
    rw [hget (j + 1) hj, hget j (by omega)]
    exact w4 j hj
  · rw [hLl, hget 0 (by omega), hget _ (by omega), w3, hfirst]
    have hlast : (chainI s.2 (i : Int)).getD ((chainI s.2 (i : Int)).length - 1) 0 = i := by
      rw [w1, show (c ++ [i]).length - 1 = c.length by simp]; exact getD_appR
    rw [hlast, hpg]
    exact ⟨rfl, rfl⟩
end Go.Pw
/- The plain mathematics of heights: the longest ways that end at a vertex, found in n rounds. -/
namespace Go.Pw
open Go
def relax1 (O : Nat → Nat → Bool) (v w : Nat) (h : List Int) : List Int := if O v w = true then h.set w (max (h.getD w 0) (h.getD v 0 + 1)) else h
def relaxW (O : Nat → Nat → Bool) (v : Nat) : Nat → List Int → List Int
  | 0, h => h
  | k + 1, h => relax1 O v k (relaxW O v k h)
def relaxV (O : Nat → Nat → Bool) (n : Nat) : Nat → List Int → List Int
  | 0, h => h
  | k + 1, h => relaxW O k n (relaxV O n k h)
def relaxT (O : Nat → Nat → Bool) (n : Nat) : Nat → List Int
  | 0 => List.replicate n 0
  | t + 1 => relaxV O n n (relaxT O n t)
theorem relax1_len (O : Nat → Nat → Bool) (v w : Nat) (h : List Int) : (relax1 O v w h).length = h.length := by unfold relax1; split <;> simp
theorem relaxW_len (O : Nat → Nat → Bool) (v : Nat) : ∀ k h, (relaxW O v k h).length = h.length
  | 0, _ => rfl
  | k + 1, h => by rw [relaxW, relax1_len, relaxW_len O v k h]
theorem relaxV_len (O : Nat → Nat → Bool) (n : Nat) : ∀ k h, (relaxV O n k h).length = h.length
  | 0, _ => rfl
  | k + 1, h => by rw [relaxV, relaxW_len, relaxV_len O n k h]
theorem relaxT_len (O : Nat → Nat → Bool) (n : Nat) : ∀ t, (relaxT O n t).length = n
  | 0 => by simp [relaxT]
  | t + 1 => by rw [relaxT, relaxV_len, relaxT_len O n t]
theorem setD (l : List Int) (i k : Nat) (x : Int) : (l.set i x).getD k 0 = if k = i ∧ i < l.length then x else l.getD k 0 := by
  simp only [List.getD, List.getElem?_set]
  by_cases h : i = k
  · subst h
    by_cases hl : i < l.length
    · simp [hl]
    · simp [hl]
  · rw [if_neg h, if_neg (fun e => h e.1.symm)]
theorem relax1_up (O : Nat → Nat → Bool) (v w : Nat) (h : List Int) (x : Nat) : h.getD x 0 ≤ (relax1 O v w h).getD x 0 := by
  unfold relax1
  split
  · rw [setD]
    split
    · rename_i e; rw [e.1]; omega
    · omega
  · omega
theorem relaxW_up (O : Nat → Nat → Bool) (v : Nat) : ∀ k h x, h.getD x 0 ≤ (relaxW O v k h).getD x 0
  | 0, _, _ => Int.le_refl _
  | k + 1, h, x => Int.le_trans (relaxW_up O v k h x) (relax1_up O v k _ x)
theorem relaxV_up (O : Nat → Nat → Bool) (n : Nat) : ∀ k h x, h.getD x 0 ≤ (relaxV O n k h).getD x 0
  | 0, _, _ => Int.le_refl _
  | k + 1, h, x => Int.le_trans (relaxV_up O n k h x) (relaxW_up O k n _ x)
/-- A way of k arcs ends at a vertex. -/
def Way (O : Nat → Nat → Bool) (n : Nat) : Nat → Nat → Prop
  | 0, v => v < n
  | k + 1, w => w < n ∧ ∃ v, Way O n k v ∧ O v w = true
theorem Way.lt {O : Nat → Nat → Bool} {n : Nat} : ∀ {k v : Nat}, Way O n k v → v < n
  | 0, _, h => h
  | _ + 1, _, h => h.1
/-- Each number tells of a way. -/
def Tell (O : Nat → Nat → Bool) (n : Nat) (h : List Int) : Prop := ∀ v, v < n → ∃ k : Nat, h.getD v 0 = k ∧ Way O n k v
theorem tell1 {O : Nat → Nat → Bool} {n : Nat} {h : List Int} (hl : h.length = n) (ht : Tell O n h) {v w : Nat} (hv : v < n) (hw : w < n) : Tell O n (relax1 O v w h) := by
  unfold relax1
  split
  · rename_i ho
    intro x hx
    rw [setD]
    split
    · rename_i e
      obtain ⟨k, h1, h2⟩ := ht v hv
      obtain ⟨m, h3, h4⟩ := ht w hw
      rw [h1, h3]
      by_cases hmk : (m : Int) ≤ k + 1
      · exact ⟨k + 1, by rw [Int.max_eq_right hmk]; push_cast; rfl, hx, v, h2, by rw [e.1]; exact ho⟩
      · exact ⟨m, Int.max_eq_left (by omega), by rw [e.1]; exact h4⟩
    · exact ht x hx
  · exact ht
theorem tellW {O : Nat → Nat → Bool} {n v : Nat} (hv : v < n) : ∀ k h, k ≤ n → h.length = n → Tell O n h → Tell O n (relaxW O v k h)
  | 0, _, _, _, ht => ht
  | k + 1, h, hk, hl, ht => tell1 (by rw [relaxW_len]; exact hl) (tellW hv k h (by omega) hl ht) hv (by omega)
theorem tellV {O : Nat → Nat → Bool} {n : Nat} : ∀ k h, k ≤ n → h.length = n → Tell O n h → Tell O n (relaxV O n k h)
  | 0, _, _, _, ht => ht
  | k + 1, h, hk, hl, ht => tellW (by omega) n _ (Nat.le_refl _) (by rw [relaxV_len]; exact hl) (tellV k h (by omega) hl ht)
theorem tellT (O : Nat → Nat → Bool) (n : Nat) : ∀ t, Tell O n (relaxT O n t)
  | 0 => fun v hv => ⟨0, by simp [relaxT, List.getD, List.getElem?_replicate, hv], hv⟩
  | t + 1 => tellV n _ (Nat.le_refl _) (relaxT_len O n t) (tellT O n t)
/-- A round takes each arc into account. -/
theorem stepW {O : Nat → Nat → Bool} {v w : Nat} (ho : O v w = true) : ∀ k h, w < k → w < h.length → h.getD v 0 + 1 ≤ (relaxW O v k h).getD w 0
  | 0, _, hk, _ => by omega
  | k + 1, h, hk, hl => by
    by_cases e : w = k
    · subst e
      have h1 := relaxW_up O v w h v
      rw [relaxW, relax1, if_pos ho, setD, if_pos ⟨rfl, by rw [relaxW_len]; exact hl⟩]
      omega
    · exact Int.le_trans (stepW ho k h (by omega) hl) (relax1_up O v k _ w)
theorem stepV {O : Nat → Nat → Bool} {n v w : Nat} (ho : O v w = true) (hw : w < n) : ∀ k h, v < k → h.length = n → h.getD v 0 + 1 ≤ (relaxV O n k h).getD w 0
  | 0, _, hk, _ => by omega
  | k + 1, h, hk, hl => by
    by_cases e : v = k
    · subst e
      have h1 := relaxV_up O n v h v
      have h2 := stepW (O := O) ho n (relaxV O n v h) hw (by rw [relaxV_len]; omega)
      rw [relaxV]; omega
    · exact Int.le_trans (stepV ho hw k h (by omega) hl) (relaxW_up O k n _ w)
theorem way_low {O : Nat → Nat → Bool} {n : Nat} : ∀ (t k v : Nat), Way O n k v → k ≤ t → (k : Int) ≤ (relaxT O n t).getD v 0
  | t, 0, v, h, _ => by
    obtain ⟨k, h1, _⟩ := tellT O n t v h
    rw [h1]; omega
  | 0, k + 1, _, _, hk => by omega
  | t + 1, k + 1, w, h, hk => by
    obtain ⟨hw, v, h1, ho⟩ := h
    have h2 := way_low t k v h1 (by omega)
    have h3 := stepV (O := O) ho hw n (relaxT O n t) h1.lt (relaxT_len O n t)
    rw [relaxT]
    push_cast
    omega
theorem cnt_one : ∀ v : Fin 7, cntN (2 ^ v.val) = 1 := by decide
/-- The vertices of a way are a clique. -/
theorem way_clique {E O : Nat → Nat → Bool} {n : Nat} (hn : n ≤ 7) (hs : ∀ x y, E x y = E y x) (hO : TrO E fun a b => O a b = true) : ∀ k v, Way O n k v → ∃ C : Nat, C < 2 ^ n ∧ C.testBit v = true ∧ clqM E C ∧ cntN C = k + 1 ∧ ∀ u, C.testBit u = true → u ≠ v → O u v = true
  | 0, v, h => by
    have hv : v < n := h
    refine ⟨2 ^ v, Nat.pow_lt_pow_right (by omega) hv, by rw [Nat.testBit_two_pow]; simp, fun x y hx hy hne => ?_, cnt_one ⟨v, by omega⟩, fun u hu hne => ?_⟩
    · rw [Nat.testBit_two_pow, decide_eq_true_iff] at hx hy
      omega
    · rw [Nat.testBit_two_pow, decide_eq_true_iff] at hu
      omega
  | k + 1, w, h => by
    obtain ⟨hw, v, h1, ho⟩ := h
    obtain ⟨C, c1, c2, c3, c4, c5⟩ := way_clique hn hs hO k v h1
    have hvw : v ≠ w := fun e => by subst e; exact hO.asym v v ho ho
    have hwC : C.testBit w = false := by
      cases hb : C.testBit w with
      | false => rfl
      | true => exact (hO.asym v w ho (c5 w hb (fun e => hvw e.symm))).elim
    have hdis : DisN C (2 ^ w) := fun i h1 h2 => by
      rw [Nat.testBit_two_pow, decide_eq_true_iff] at h2
      subst h2
      rw [hwC] at h1; cases h1
    have hbit : ∀ i, (C ||| 2 ^ w).testBit i = true ↔ C.testBit i = true ∨ i = w := fun i => by
      rw [Nat.testBit_or, Nat.testBit_two_pow, Bool.or_eq_true, decide_eq_true_iff]
      exact or_congr Iff.rfl ⟨fun h => h.symm, fun h => h.symm⟩
    have hto : ∀ x, C.testBit x = true → O x w = true := fun x hx => by
      by_cases e : x = v
      · rw [e]; exact ho
      · exact hO.tr _ _ _ (c5 x hx e) ho
    refine ⟨C ||| 2 ^ w, Nat.or_lt_two_pow c1 (Nat.pow_lt_pow_right (by omega) hw), (hbit w).2 (.inr rfl), fun x y hx hy hne => ?_, by rw [cnt_union hdis, c4, cnt_one ⟨w, by omega⟩], fun u hu hne => hto u (((hbit u).1 hu).resolve_right hne)⟩
    rcases (hbit x).1 hx with hx2 | ex <;> rcases (hbit y).1 hy with hy2 | ey
    · exact c3 x y hx2 hy2 hne
    · rw [ey]; exact hO.sub _ _ (hto x hx2)
    · rw [ex, hs]; exact hO.sub _ _ (hto y hy2)
    · exact absurd (ex.trans ey.symm) hne
/-- Heights rise along arcs and stay below the clique number. -/
theorem heights_good {rows : List Int} {n : Nat} (hg : IsG n rows) {O : Nat → Nat → Bool} (hO : TrO (bitsP rows) fun a b => O a b = true) : (∀ v w, O v w = true → (relaxT O n n).getD v 0 + 1 ≤ (relaxT O n n).getD w 0) ∧
    ∀ v, v < n → 0 ≤ (relaxT O n n).getD v 0 ∧ (relaxT O n n).getD v 0 + 1 ≤ cntN (bestN (fun s => decide (cliqueP n rows (s : Int))) (2 ^ n)) := by
  have hP := bits_gph hg
  have h7 := pow_le7 hP.n7
  refine ⟨fun v w ho => ?_, fun v hv => ?_⟩
  · obtain ⟨hv, hw⟩ := hP.lt _ _ (hO.sub _ _ ho)
    obtain ⟨k, h1, h2⟩ := tellT O n n v hv
    have h3 : Way O n (k + 1) w := ⟨hw, v, h2, ho⟩
    obtain ⟨C, c1, _, _, c4, _⟩ := way_clique hP.n7 hP.sym hO _ _ h3
    have h4 := cnt_le ⟨n, by have := hP.n7; omega⟩ ⟨C, by omega⟩ c1
    dsimp only at h4
    have := way_low n (k + 1) w h3 (by omega)
    rw [h1]
    push_cast at this
    omega
  · obtain ⟨k, h1, h2⟩ := tellT O n n v hv
    obtain ⟨C, c1, _, c3, c4, _⟩ := way_clique hP.n7 hP.sym hO _ _ h2
    have hcl : clqM (eN (rowN rows)) C := fun x y hx hy hne => by
      have lx := has_lt c1 hx
      have ly := has_lt c1 hy
      rw [← hasB_eNg hg x y ly, ← bits_has hg lx ly]
      exact c3 x y hx hy hne
    have := (bestN_spec (fun s => decide (cliqueP n rows (s : Int))) (2 ^ n)).2 C c1 ((clique_om hg c1).2 hcl)
    rw [h1]
    omega
end Go.Pw
/- Orientations as the checks see them: the program's check and the reference's agree; transitive ones; heights round by round; what one arc forces and what its opposite does. -/
namespace Go.Pw
open Go
/-- The program's check of the sets. -/
def arrQ (rows to : List Int) : Prop := ∀ v, v < rows.length → iandnot (to.getD v 0) (rows.getD v 0) = 0 ∧ ∀ x ∈ listS (rows.getD v 0), hasB (to.getD v 0) x ≠ hasB (to.getD x.toNat 0) (v : Nat)
/-- The reference's. -/
def arrS (size : Int) (rows to : List Int) : Prop := (∀ v, v < rows.length → 0 ≤ to.getD v 0 ∧ to.getD v 0 < ishl 1 size) ∧
  ∀ v, v < rows.length → ∀ u, u < rows.length → hasB (rows.getD v 0) (u : Nat) = (hasB (to.getD v 0) (u : Nat) || hasB (to.getD u 0) (v : Nat)) ∧ (hasB (to.getD v 0) (u : Nat) && hasB (to.getD u 0) (v : Nat)) = false
instance (rows to : List Int) : Decidable (arrQ rows to) := by unfold arrQ; infer_instance
def arrP (size : Int) (rows to : List Int) : Prop := IsG size rows ∧ to.length = rows.length ∧ arrQ rows to
instance (size : Int) (rows to : List Int) : Decidable (arrP size rows to) := by unfold arrP; infer_instance
theorem andnot_neg : ∀ R : Fin 128, iandnot (-1) (R.val : Int) ≠ 0 := by decide +kernel
theorem andnot_128 : ∀ R : Fin 128, iandnot 128 (R.val : Int) ≠ 0 := by decide +kernel
theorem andnot_small {x : Int} {R : Nat} (hx : -1 ≤ x ∧ x ≤ 128) (hR : R < 128) : iandnot x (R : Int) = 0 ↔ (0 ≤ x ∧ x < 128) ∧ SubN x.toNat R := by
  by_cases h : 0 ≤ x ∧ x < 128
  · obtain ⟨X, rfl⟩ : ∃ X : Nat, x = X := ⟨x.toNat, by omega⟩
    rw [andnot_zero (by omega), Int.toNat_natCast]
    exact ⟨fun hs => ⟨h, hs⟩, fun hs => hs.2⟩
  · refine ⟨fun hz => ?_, fun hz => absurd hz.1 h⟩
    rcases (show x = -1 ∨ x = 128 by omega) with rfl | rfl
    · exact absurd hz (andnot_neg ⟨R, hR⟩)
    · exact absurd hz (andnot_128 ⟨R, hR⟩)
theorem testBit_lt {A n i : Nat} (h : A < 2 ^ n) (hi : A.testBit i = true) : i < n := Nat.lt_of_not_le fun hni => by
  rw [Nat.testBit_lt_two_pow (Nat.lt_of_lt_of_le h (Nat.pow_le_pow_right (by omega) hni))] at hi; cases hi
/-- In words of bits. -/
theorem arr_iff {size : Int} {rows to : List Int} (hg : IsG size rows) (hb : ∀ v, -1 ≤ to.getD v 0 ∧ to.getD v 0 ≤ 128) : arrQ rows to ↔ arrS size rows to := by
  obtain ⟨n, rfl, hrl, h1, h7⟩ := isG_size hg
  have hp := pow_le7 h7
  have hgp := bits_gph hg
  have hsh : ishl 1 (n : Int) = ((2 ^ n : Nat) : Int) := ishl_one_nat (by omega)
  have hR : ∀ v, rowN rows v < 2 ^ n := fun v => (ng_of hg rfl).lt v
  have hre := rowN_eq hg
  have hrb : ∀ v u, v < n → u < n → hasB (rows.getD v 0) (u : Nat) = (rowN rows v).testBit u := fun v u hv hu => by rw [hre, hasB_nat (by have := hR v; omega) (by omega)]
  have hsym : ∀ v u, v < n → u < n → (rowN rows v).testBit u = (rowN rows u).testBit v := fun v u hv hu => by
    rw [← hrb v u hv hu, ← hrb u v hu hv, ← bits_has hg hv hu, ← bits_has hg hu hv]; exact hgp.sym v u
  have htb : ∀ v u, u < n → (0 ≤ to.getD v 0 ∧ to.getD v 0 < 128) → hasB (to.getD v 0) (u : Nat) = (to.getD v 0).toNat.testBit u := fun v u hu ht => by
    have := hasB_nat (a := (to.getD v 0).toNat) (v := u) (by omega) (by omega)
    rwa [Int.toNat_of_nonneg ht.1] at this
  constructor
  · intro h
    have hsub : ∀ v, v < n → (0 ≤ to.getD v 0 ∧ to.getD v 0 < 128) ∧ SubN (to.getD v 0).toNat (rowN rows v) := fun v hv => by
      have := (h v (by omega)).1
      rw [hre] at this
      exact (andnot_small (hb v) (by have := hR v; omega)).1 this
    refine ⟨fun v hv => ?_, fun v hv u hu => ?_⟩
    · obtain ⟨⟨a, b⟩, s⟩ := hsub v (by omega)
      have hle : (to.getD v 0).toNat ≤ rowN rows v := by
        have := subN_and.1 s
        have h2 : (to.getD v 0).toNat &&& rowN rows v ≤ rowN rows v := Nat.and_le_right
        omega
      have := hR v
      rw [hsh]; omega
    · have hv' : v < n := by omega
      have hu' : u < n := by omega
      rw [hrb v u hv' hu', htb v u hu' (hsub v hv').1, htb u v hv' (hsub u hu').1]
      cases hr : (rowN rows v).testBit u with
      | true =>
        have hm : (u : Int) ∈ listS (rows.getD v 0) := by
          rw [hre]; exact (listS_facts (by have := hR v; omega)).2.1 u |>.2 hr
        have := (h v hv).2 _ hm
        rw [htb v u hu' (hsub v hv').1, Int.toNat_natCast, htb u v hv' (hsub u hu').1] at this
        revert this
        cases (to.getD v 0).toNat.testBit u <;> cases (to.getD u 0).toNat.testBit v <;> simp
      | false =>
        have e1 : (to.getD v 0).toNat.testBit u = false := by
          cases ht : (to.getD v 0).toNat.testBit u with
          | false => rfl
          | true => rw [(hsub v hv').2 u ht] at hr; cases hr
        have e2 : (to.getD u 0).toNat.testBit v = false := by
          cases ht : (to.getD u 0).toNat.testBit v with
          | false => rfl
          | true => rw [hsym v u hv' hu', (hsub u hu').2 v ht] at hr; cases hr
        rw [e1, e2]; exact ⟨rfl, rfl⟩
  · intro h v hv
    have hv' : v < n := by omega
    have hin : ∀ v, v < n → 0 ≤ to.getD v 0 ∧ to.getD v 0 < 128 := fun v hv => by
      have := h.1 v (by omega); rw [hsh] at this; omega
    constructor
    · rw [hre]
      refine (andnot_small (hb v) (by have := hR v; omega)).2 ⟨hin v hv', fun i hi => ?_⟩
      have h2 := h.1 v hv
      rw [hsh] at h2
      have hin' : i < n := testBit_lt (A := (to.getD v 0).toNat) (by omega) hi
      have := (h.2 v hv i (by omega)).1
      rw [hrb v i hv' hin', htb v i hin' (hin v hv'), hi] at this
      simpa using this
    · intro x hx
      rw [hre] at hx
      have hlt := (listS_facts (by have := hR v; omega)).2.2.1 x hx
      obtain ⟨u, rfl⟩ : ∃ u : Nat, x = u := ⟨x.toNat, by omega⟩
      have hbit := ((listS_facts (by have := hR v; omega)).2.1 u).1 hx
      have hu : u < n := testBit_lt (hR v) hbit
      have := h.2 v hv u (by omega)
      rw [hrb v u hv' hu, hbit] at this
      rw [Int.toNat_natCast]
      revert this
      cases hasB (to.getD v 0) (u : Nat) <;> cases hasB (to.getD u 0) (v : Nat) <;> simp
/-- Transitive: what a set's vertices lead to lies in the set. -/
def trnQ (rows to : List Int) : Prop := ∀ v, v < rows.length → ∀ x ∈ listS (to.getD v 0), iandnot (to.getD x.toNat 0) (to.getD v 0) = 0
instance (rows to : List Int) : Decidable (trnQ rows to) := by unfold trnQ; infer_instance
def trnP (size : Int) (rows to : List Int) : Prop := arrP size rows to ∧ trnQ rows to
instance (size : Int) (rows to : List Int) : Decidable (trnP size rows to) := by unfold trnP; infer_instance
theorem arrP.lt {size : Int} {rows to : List Int} (h : arrP size rows to) (hb : ∀ v, -1 ≤ to.getD v 0 ∧ to.getD v 0 ≤ 128) : ∀ v, v < rows.length → 0 ≤ to.getD v 0 ∧ to.getD v 0 < ishl 1 size := ((arr_iff h.1 hb).1 h.2.2).1
theorem sub_same {x t : Int} (hx : 0 ≤ x ∧ x < 128) (ht : 0 ≤ t ∧ t < 128) : iand x t = x ↔ iandnot x t = 0 := by
  obtain ⟨X, rfl⟩ : ∃ X : Nat, x = X := ⟨x.toNat, by omega⟩
  obtain ⟨T, rfl⟩ : ∃ T : Nat, t = T := ⟨t.toNat, by omega⟩
  rw [andnot_zero (by omega), iand_nat (by omega) (by omega), subN_and]
  exact Int.ofNat_inj
/-- One arc's step over a list. -/
def hset (v : Nat) (h : List Int) (x : Int) : List Int := h.set x.toNat (max (h.getD x.toNat 0) (h.getD v 0 + 1))
def hU (v : Nat) (h : List Int) (L : List Int) (j : Nat) : List Int := (L.take j).foldl (hset v) h
theorem hU_succ {v : Nat} {h L : List Int} {j : Nat} (hj : j < L.length) : hU v h L (j + 1) = hset v (hU v h L j) (L.getD j 0) := by
  unfold hU
  rw [List.take_succ_eq_append_getElem hj, List.foldl_append]
  simp [List.getD, hj]
theorem hU_len (v : Nat) (h L : List Int) : ∀ j, (hU v h L j).length = h.length := fun j => by
  unfold hU
  generalize L.take j = M
  induction M generalizing h with
  | nil => rfl
  | cons x r ih => rw [List.foldl_cons, ih]; simp [hset]
theorem hset_relax (O : Nat → Nat → Bool) (v k : Nat) : ∀ h : List Int, (((List.range k).filter fun u => O v u).map Int.ofNat).foldl (hset v) h = relaxW O v k h := by
  induction k with
  | zero => intro h; rfl
  | succ k ih =>
    intro h
    rw [List.range_succ, List.filter_append, List.map_append, List.foldl_append, ih, relaxW]
    unfold relax1
    cases ho : O v k <;> simp [ho, hset]
theorem relaxW_more {O : Nat → Nat → Bool} {v n : Nat} (ho : ∀ u, n ≤ u → O v u = false) : ∀ m, n ≤ m → ∀ h, relaxW O v m h = relaxW O v n h := fun m hm => by
  induction hm with
  | refl => exact fun _ => rfl
  | step hm ih =>
    intro h
    rw [relaxW, ih]
    unfold relax1
    rw [ho _ hm]; simp
/-- The program's inner loop. -/
theorem hU_all {size : Int} {rows to : List Int} (hg : IsG size rows) {v : Nat} (hv : v < rows.length) (hl : to.length = rows.length) (ht : 0 ≤ to.getD v 0 ∧ to.getD v 0 < ishl 1 size) (h : List Int) :
    hU v h (listS (to.getD v 0)) (listS (to.getD v 0)).length = relaxW (bitsP to) v rows.length h := by
  obtain ⟨n, rfl, hrl, h1, h7⟩ := isG_size hg
  have hp := pow_le7 h7
  have hsh : ishl 1 (n : Int) = ((2 ^ n : Nat) : Int) := ishl_one_nat (by omega)
  rw [hsh] at ht
  obtain ⟨T, hT⟩ : ∃ T : Nat, to.getD v 0 = T := ⟨(to.getD v 0).toNat, by omega⟩
  have hO : ∀ u, bitsP to v u = T.testBit u := fun u => by
    unfold bitsP
    by_cases hu : u < n
    · rw [hT, hasB_nat (by omega) (by omega)]; simp [show v < to.length by omega, show u < to.length by omega]
    · rw [show decide (v < to.length ∧ u < to.length) = false from decide_eq_false (by omega), Bool.false_and]
      exact (Nat.testBit_lt_two_pow (Nat.lt_of_lt_of_le (show T < 2 ^ n by omega) (Nat.pow_le_pow_right (by omega) (by omega)))).symm
  unfold hU
  rw [List.take_length, hT, listS_nat (by omega)]
  have he : ((List.range 7).filter fun u => T.testBit u) = (List.range 7).filter fun u => bitsP to v u := by congr 1; funext u; exact (hO u).symm
  rw [he, hset_relax (bitsP to) v 7 h, hrl]
  refine relaxW_more (fun u hu => ?_) 7 h7 h
  rw [hO]
  exact Nat.testBit_lt_two_pow (Nat.lt_of_lt_of_le (show T < 2 ^ n by omega) (Nat.pow_le_pow_right (by omega) hu))
/-- Bounds. -/
def HB (h : List Int) (B : Int) : Prop := ∀ x, 0 ≤ h.getD x 0 ∧ h.getD x 0 ≤ B
theorem HB.mono {h : List Int} {B C : Int} (hh : HB h B) (hBC : B ≤ C) : HB h C := fun x => by have := hh x; omega
theorem HB.hset {h : List Int} {B : Int} (hh : HB h B) (v : Nat) (x : Int) : HB (hset v h x) (B + 1) := fun y => by
  have h1 := hh x.toNat
  have h2 := hh v
  have h3 := hh y
  unfold Go.Pw.hset
  rw [setD]
  split <;> omega
theorem HB.hU {h : List Int} {B : Int} (hh : HB h B) (v : Nat) (L : List Int) : ∀ j, j ≤ L.length → HB (hU v h L j) (B + j)
  | 0, _ => by simpa [Go.Pw.hU] using hh
  | j + 1, hj => by
    rw [hU_succ (by omega)]
    exact ((HB.hU hh v L j (by omega)).hset v _).mono (by omega)
theorem HB.relax1 {h : List Int} {B : Int} (hh : HB h B) (O : Nat → Nat → Bool) (v u : Nat) : HB (relax1 O v u h) (B + 1) := by
  unfold Go.Pw.relax1
  split
  · exact hh.hset v (u : Int)
  · exact hh.mono (by omega)
theorem HB.relaxW {h : List Int} {B : Int} (hh : HB h B) (O : Nat → Nat → Bool) (v : Nat) : ∀ k : Nat, HB (relaxW O v k h) (B + k)
  | 0 => by simpa [Go.Pw.relaxW] using hh
  | k + 1 => ((HB.relaxW hh O v k).relax1 O v k).mono (by omega)
theorem HB.relaxV {h : List Int} {B : Int} (hh : HB h B) (O : Nat → Nat → Bool) {n : Nat} (hn : n ≤ 7) : ∀ k : Nat, HB (relaxV O n k h) (B + 7 * k)
  | 0 => by simpa [Go.Pw.relaxV] using hh
  | k + 1 => ((HB.relaxV hh O hn k).relaxW O k n).mono (by omega)
theorem HB.relaxT (O : Nat → Nat → Bool) {n : Nat} (hn : n ≤ 7) : ∀ t : Nat, HB (relaxT O n t) (49 * t)
  | 0 => fun x => by simp [Go.Pw.relaxT, List.getD, List.getElem?_replicate]; split <;> simp
  | t + 1 => ((HB.relaxT O hn t).relaxV O hn n).mono (by omega)
def heightsL (size : Int) (rows to : List Int) : List Int := if trnP size rows to then relaxT (bitsP to) rows.length rows.length else []
theorem heightsL_len (size : Int) (rows to : List Int) : (heightsL size rows to).length ≤ 7 := by
  unfold heightsL
  split
  · rename_i h; obtain ⟨n, _, h1, _, h7⟩ := isG_size h.1.1; rw [relaxT_len]; omega
  · simp
/-- All that an arc forces. -/
def forcedX (size : Int) (rows : List Int) (a b : Int) : List (List Int) := if edgeP size rows a b then (forcedA rows a b).1 else []
theorem edgeP_nat {size : Int} {rows : List Int} {a b : Int} (h : edgeP size rows a b) : ∃ x y : Nat, a = x ∧ b = y ∧ x < rows.length ∧ y < rows.length ∧ IsG size rows ∧ hasB (rows.getD x 0) (y : Nat) = true := by
  obtain ⟨hg, ha, hb, he⟩ := h
  obtain ⟨n, hn, hrl, _, _⟩ := isG_size hg
  obtain ⟨x, rfl⟩ : ∃ x : Nat, a = x := ⟨a.toNat, by omega⟩
  obtain ⟨y, rfl⟩ : ∃ y : Nat, b = y := ⟨b.toNat, by omega⟩
  exact ⟨x, y, rfl, rfl, by omega, by omega, hg, by rwa [Int.toNat_natCast] at he⟩
theorem edgeP_of {size : Int} {rows : List Int} {x y : Nat} (hg : IsG size rows) (hx : x < rows.length) (hy : y < rows.length) (h : hasB (rows.getD x 0) (y : Nat) = true) : edgeP size rows x y := by
  obtain ⟨n, hn, hrl, _, _⟩ := isG_size hg
  exact ⟨hg, by omega, by omega, by rwa [Int.toNat_natCast]⟩
theorem forced_le {n : Nat} {P : Nat → Nat → Bool} (hP : Gph n P) {a b : Nat} (hab : P a b = true) : (forcedA (gRows n P) a b).1.length ≤ (forcedA (gRows n P) b a).1.length := by
  have hba : P b a = true := by rw [hP.sym]; exact hab
  have hl := gRows_length n P
  have harc : arcN (gRows n P).length [(a : Int), (b : Int)] := by have := hP.lt a b hab; exact ⟨a, b, rfl, by omega, by omega⟩
  have hok := forcedA_ok harc
  have hshape : ∀ e ∈ (forcedA (gRows n P) a b).1, ∃ x y : Nat, e = [(x : Int), (y : Int)] ∧ Fo P a b x y := fun e he => by
    obtain ⟨x, y, rfl, hx, hy⟩ := hok.arc e he
    exact ⟨x, y, rfl, (forced_iff hP hab).1 he⟩
  have hnd : ((forcedA (gRows n P) a b).1.map fun e => [e.getD 1 0, e.getD 0 0]).Nodup := by
    refine List.Pairwise.map _ (fun e f hne => ?_) (hok.nodup.imp_of_mem (S := fun e f => e ≠ f ∧ (∃ x y : Nat, e = [(x : Int), (y : Int)]) ∧ ∃ x y : Nat, f = [(x : Int), (y : Int)]) fun {e f} he hf hne => ?_)
    · obtain ⟨hne, ⟨x, y, rfl⟩, x', y', rfl⟩ := hne
      intro hh
      apply hne
      simp at hh
      simp [hh.1, hh.2]
    · obtain ⟨x, y, hxy, _⟩ := hshape e he
      obtain ⟨x', y', hxy', _⟩ := hshape f hf
      exact ⟨hne, ⟨x, y, hxy⟩, x', y', hxy'⟩
  have := nodup_lenA _ (forcedA (gRows n P) b a).1 hnd fun e he => by
    obtain ⟨f, hf, rfl⟩ := List.mem_map.1 he
    obtain ⟨x, y, rfl, hfo⟩ := hshape f hf
    exact (forced_iff hP hba).2 (hfo.rev hP.sym)
  rwa [List.length_map] at this
theorem forced_turn (size : Int) (rows : List Int) (a b : Int) : (forcedX size rows a b).length = (forcedX size rows b a).length := by
  have hsw : ∀ a b, edgeP size rows a b → edgeP size rows b a := fun a b h => by
    obtain ⟨x, y, rfl, rfl, hx, hy, hg, hb⟩ := edgeP_nat h
    obtain ⟨n, rfl, hrl, _, _⟩ := isG_size hg
    refine edgeP_of hg hy hx ?_
    rw [← bits_has hg (by omega) (by omega)] at hb ⊢
    rw [(bits_gph hg).sym]; exact hb
  by_cases h : edgeP size rows a b
  · have h' := hsw a b h
    unfold forcedX
    rw [if_pos h, if_pos h']
    obtain ⟨x, y, rfl, rfl, hx, hy, hg, hb⟩ := edgeP_nat h
    obtain ⟨n, rfl, hrl, _, _⟩ := isG_size hg
    have hP := bits_gph hg
    have hr := bits_rows hg
    rw [hrl] at hr
    have hxy : bitsP rows x y = true := by rw [bits_has hg (by omega) (by omega)]; exact hb
    have hyx : bitsP rows y x = true := by rw [hP.sym]; exact hxy
    have i1 := forced_le hP hxy
    have i2 := forced_le hP hyx
    rw [← hr] at i1 i2
    omega
  · unfold forcedX
    rw [if_neg h, if_neg (fun h' => h (hsw b a h'))]
/-- The orientation found passes the check. -/
theorem ori_passes {rows : List Int} {n : Nat} (hg : IsG n rows) (h : (oriX n rows).isSome = true) : trnP n rows (oriL n rows) ∧ TrO (bitsP rows) (fun a b => bitsP (oriL n rows) a b = true) := by
  have hT := ori_tr hg h
  have hP := bits_gph hg
  obtain ⟨m, hm, hrl, h1, h7⟩ := isG_size hg
  obtain rfl : n = m := by omega
  have hp := pow_le7 h7
  have hL : oriL n rows = gRows n (oriQ n rows) := by
    obtain ⟨O, hO⟩ := Option.isSome_iff_exists.1 h
    unfold oriL oriQ
    rw [hO, hrl]; rfl
  have hlen : (oriL n rows).length = n := by rw [hL, gRows_length]
  have hbit : ∀ x y, bitsP (oriL n rows) x y = oriQ n rows x y := fun x y => by
    unfold bitsP
    rw [hlen]
    by_cases hxy : x < n ∧ y < n
    · rw [decide_eq_true hxy, Bool.true_and, hL, gRows_has h7 _ hxy.1 hxy.2]
    · rw [decide_eq_false hxy, Bool.false_and]
      cases hq : oriQ n rows x y with
      | false => rfl
      | true => exact absurd (hP.lt _ _ (hT.sub _ _ hq)) hxy
  have hT2 : TrO (bitsP rows) (fun a b => bitsP (oriL n rows) a b = true) := by simpa only [hbit] using hT
  have hsh : ishl 1 (n : Int) = ((2 ^ n : Nat) : Int) := ishl_one_nat (by omega)
  have hget : ∀ v, v < n → (oriL n rows).getD v 0 = ((maskU (oriQ n rows v) n : Nat) : Int) := fun v hv => by rw [hL, gRows_get _ hv]
  have hmlt : ∀ v, maskU (oriQ n rows v) n < 2 ^ n := fun v => maskU_lt _ n
  have hb : ∀ v, -1 ≤ (oriL n rows).getD v 0 ∧ (oriL n rows).getD v 0 ≤ 128 := fun v => by
    by_cases hv : v < n
    · rw [hget v hv]; have := hmlt v; omega
    · rw [show (oriL n rows).getD v 0 = 0 by simp [List.getD, List.getElem?_eq_none (show (oriL n rows).length ≤ v by omega)]]; omega
  have hgb : ∀ v u, v < n → u < n → hasB ((oriL n rows).getD v 0) (u : Nat) = oriQ n rows v u := fun v u hv hu => by rw [hL, gRows_has h7 _ hv hu]
  have hmb : ∀ v u, v < n → (maskU (oriQ n rows v) n).testBit u = true → u < n ∧ oriQ n rows v u = true := fun v u hv hu => by
    have hun := testBit_lt (hmlt v) hu
    refine ⟨hun, ?_⟩
    rw [← hgb v u hv hun, hget v hv, hasB_nat (by have := hmlt v; omega) (by omega)]; exact hu
  refine ⟨⟨⟨hg, by omega, (arr_iff hg hb).2 ⟨fun v hv => ?_, fun v hv u hu => ?_⟩⟩, fun v hv x hx => ?_⟩, hT2⟩
  · rw [hget v (by omega), hsh]; have := hmlt v; omega
  · rw [hgb v u (by omega) (by omega), hgb u v (by omega) (by omega), ← bits_has hg (by omega) (by omega)]
    cases he : bitsP rows v u with
    | true =>
      rcases hT.all _ _ he with h1 | h1
      · have h2 := hT.asym _ _ h1
        have h3 : oriQ n rows u v = false := by revert h2; cases oriQ n rows u v <;> simp
        rw [h1, h3]; exact ⟨rfl, rfl⟩
      · have h2 := hT.asym _ _ h1
        have h3 : oriQ n rows v u = false := by revert h2; cases oriQ n rows v u <;> simp
        rw [h1, h3]; exact ⟨rfl, rfl⟩
    | false =>
      have h1 : oriQ n rows v u = false := by
        cases hq : oriQ n rows v u with
        | false => rfl
        | true => rw [hT.sub _ _ hq] at he; cases he
      have h2 : oriQ n rows u v = false := by
        cases hq : oriQ n rows u v with
        | false => rfl
        | true => rw [hP.sym, hT.sub _ _ hq] at he; cases he
      rw [h1, h2]; exact ⟨rfl, rfl⟩
  · have hv' : v < n := by omega
    rw [hget v hv'] at hx ⊢
    have hf := listS_facts (X := maskU (oriQ n rows v) n) (by have := hmlt v; omega)
    have hx7 := hf.2.2.1 x hx
    obtain ⟨u, rfl⟩ : ∃ u : Nat, x = u := ⟨x.toNat, by omega⟩
    obtain ⟨hu, hvu⟩ := hmb v u hv' ((hf.2.1 u).1 hx)
    rw [Int.toNat_natCast, hget u hu]
    refine (andnot_zero (by have := hmlt u; omega)).2 fun i hi => ?_
    obtain ⟨hi7, hui⟩ := hmb u i hu hi
    have := hT.tr _ _ _ hvu hui
    rw [← hgb v i hv' hi7, hget v hv', hasB_nat (by have := hmlt v; omega) (by omega)] at this
    exact this
theorem oriL_small (size : Int) (rows : List Int) : ∀ v, -1 ≤ (oriL size rows).getD v 0 ∧ (oriL size rows).getD v 0 ≤ 128 := fun v => by
  by_cases hg : IsG size rows
  · obtain ⟨n, rfl, hrl, h1, h7⟩ := isG_size hg
    have hp := pow_le7 h7
    unfold oriL
    cases hO : oriX n rows with
    | none => simp [List.getD]
    | some O =>
      show -1 ≤ (gRows rows.length O).getD v 0 ∧ (gRows rows.length O).getD v 0 ≤ 128
      rw [hrl]
      by_cases hv : v < n
      · rw [gRows_get _ hv]; have := maskU_lt (O v) n; omega
      · rw [show (gRows n O).getD v 0 = 0 by simp [List.getD, List.getElem?_eq_none (show (gRows n O).length ≤ v by rw [gRows_length]; omega)]]; omega
  · unfold oriL
    rw [show oriX size rows = none from if_neg hg]
    simp [List.getD]
end Go.Pw
