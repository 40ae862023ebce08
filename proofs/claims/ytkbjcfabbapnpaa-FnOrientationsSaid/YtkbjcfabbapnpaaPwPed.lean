import Derived.Test.YtkbjcfabbapnpaaPwPlc
import Derived.Test.YtkbjcfabbapnpaaPwSS
/- The plain mathematics of matchings. -/
namespace Go.Pw
open Go
/-- An edge that a matching may take. -/
def edgeOk (size : Int) (rows : List Int) (U : Nat) (e : List Int) : Prop := e.length = 2 ∧ edgeP size rows (e.getD 0 0) (e.getD 1 0) ∧ hasB U (e.getD 0 0) = false ∧ hasB U (e.getD 1 0) = false
instance (size : Int) (rows : List Int) (U : Nat) (e : List Int) : Decidable (edgeOk size rows U e) := by unfold edgeOk; infer_instance
def edgeU (U : Nat) (e : List Int) : Nat := U ||| (2 ^ (e.getD 0 0).toNat ||| 2 ^ (e.getD 1 0).toNat)
def mtGo (size : Int) (rows : List Int) : Nat → List (List Int) → Bool
  | _, [] => true
  | U, e :: l => if edgeOk size rows U e then mtGo size rows (edgeU U e) l else false
def mtP (size : Int) (rows : List Int) (L : List (List Int)) : Prop := IsG size rows ∧ mtGo size rows 0 L = true
instance (size : Int) (rows : List Int) (L : List (List Int)) : Decidable (mtP size rows L) := by unfold mtP; infer_instance
theorem edgeOk_num {size : Int} {rows : List Int} {U : Nat} {e : List Int} (h : edgeP size rows (e.getD 0 0) (e.getD 1 0)) (hU : U < 128) :
    ior U (ior (ishl 1 (e.getD 0 0)) (ishl 1 (e.getD 1 0))) = (edgeU U e : Nat) ∧ ior (ior U (ishl 1 (e.getD 0 0))) (ishl 1 (e.getD 1 0)) = (edgeU U e : Nat) ∧ edgeU U e < 128 := by
  obtain ⟨hg, ⟨a0, a1⟩, ⟨b0, b1⟩, _⟩ := h
  obtain ⟨n, hn, _, _, hn7⟩ := isG_size hg
  obtain ⟨a, ha⟩ := Int.eq_ofNat_of_zero_le a0
  obtain ⟨b, hb⟩ := Int.eq_ofNat_of_zero_le b0
  have pa : 2 ^ a < 2 ^ 7 := Nat.pow_lt_pow_right (by omega) (by omega)
  have pb : 2 ^ b < 2 ^ 7 := Nat.pow_lt_pow_right (by omega) (by omega)
  have h1 : 2 ^ a ||| 2 ^ b < 2 ^ 7 := Nat.or_lt_two_pow pa pb
  have h2 : U ||| 2 ^ a < 2 ^ 7 := Nat.or_lt_two_pow hU pa
  unfold edgeU
  rw [ha, hb, Int.toNat_natCast, Int.toNat_natCast, ishl_one_nat (by omega), ishl_one_nat (by omega)]
  refine ⟨?_, ?_, Nat.or_lt_two_pow (n := 7) hU h1⟩
  · rw [ior_nat (by omega) (by omega), ior_nat (by omega) (by omega)]
  · rw [ior_nat (by omega) (by omega), ior_nat (by omega) (by omega), Nat.or_assoc]
end Go.Pw
/- The plain mathematics of lists of edges, and of greatest matchings. -/
namespace Go.Pw
open Go
/-- The edges of v that lead to vertices behind it and below k. -/
def edRow (rows : List Int) (v k : Nat) : List (List Int) := ((List.range k).filter fun u : Nat => decide (v < u) && hasB (rows.getD v 0) (u : Nat)).map fun u : Nat => [(v : Int), (u : Int)]
def edU (rows : List Int) (n v : Nat) : List (List Int) := (List.range v).flatMap fun x => edRow rows x n
theorem edRow_succ (rows : List Int) (v k : Nat) : edRow rows v (k + 1) = if v < k ∧ hasB (rows.getD v 0) (k : Nat) = true then edRow rows v k ++ [[(v : Int), (k : Int)]] else edRow rows v k := by
  unfold edRow
  rw [List.range_succ, List.filter_append, List.map_append]
  by_cases h : v < k ∧ hasB (rows.getD v 0) (k : Nat) = true
  · rw [if_pos h]
    have : (decide (v < k) && hasB (rows.getD v 0) (k : Nat)) = true := by rw [h.2, decide_eq_true h.1]; rfl
    simp only [List.filter_cons, this, if_true, List.filter_nil, List.map_cons, List.map_nil]
  · rw [if_neg h]
    have : (decide (v < k) && hasB (rows.getD v 0) (k : Nat)) = false := by
      cases hb : hasB (rows.getD v 0) (k : Nat) <;> by_cases hv : v < k <;> simp_all
    simp only [List.filter_cons, this]
    simp
theorem edRow_low (rows : List Int) (v : Nat) : ∀ k, k ≤ v + 1 → edRow rows v k = []
  | 0, _ => by simp [edRow]
  | k + 1, h => by rw [edRow_succ, if_neg (by omega), edRow_low rows v k (by omega)]
theorem edU_succ (rows : List Int) (n v : Nat) : edU rows n (v + 1) = edU rows n v ++ edRow rows v n := by simp [edU, List.range_succ]
theorem edRow_length (rows : List Int) (v k : Nat) : (edRow rows v k).length ≤ k := by
  unfold edRow; rw [List.length_map]
  exact Nat.le_trans (List.length_filter_le _ _) (by simp)
theorem edU_length (rows : List Int) (n : Nat) : ∀ v, (edU rows n v).length ≤ v * n
  | 0 => by simp [edU]
  | v + 1 => by
    have := edU_length rows n v
    have h2 := edRow_length rows v n
    rw [edU_succ, List.length_append, Nat.succ_mul]; omega
def edgesL (size : Int) (rows : List Int) : List (List Int) := if IsG size rows then edU rows rows.length rows.length else []
theorem edgesL_length (size : Int) (rows : List Int) : (edgesL size rows).length ≤ 49 := by
  unfold edgesL
  split
  · rename_i hg
    obtain ⟨n, _, hl, _, hn7⟩ := isG_size hg
    have := edU_length rows n n
    have h2 : n * n ≤ 7 * 7 := Nat.mul_le_mul hn7 hn7
    rw [hl]; omega
  · simp
/-- A list of two different vertices of at most seven. -/
def pairOk (e : List Int) : Prop := e.length = 2 ∧ (0 ≤ e.getD 0 0 ∧ e.getD 0 0 ≤ 6) ∧ (0 ≤ e.getD 1 0 ∧ e.getD 1 0 ≤ 6)
theorem edges_mem {size : Int} {rows : List Int} {e : List Int} (h : e ∈ edgesL size rows) : ∃ v u : Nat, e = [(v : Int), (u : Int)] ∧ v < u ∧ u < rows.length ∧ IsG size rows ∧ hasB (rows.getD v 0) (u : Nat) = true := by
  unfold edgesL at h
  split at h
  · rename_i hg
    obtain ⟨v, hv, h2⟩ := List.mem_flatMap.1 h
    obtain ⟨u, hu, rfl⟩ := List.mem_map.1 h2
    obtain ⟨hu1, hu2⟩ := List.mem_filter.1 hu
    simp only [Bool.and_eq_true, decide_eq_true_iff] at hu2
    exact ⟨v, u, rfl, hu2.1, List.mem_range.1 hu1, hg, hu2.2⟩
  · cases h
theorem edges_ok {size : Int} {rows : List Int} {e : List Int} (h : e ∈ edgesL size rows) : pairOk e := by
  obtain ⟨v, u, rfl, h1, h2, hg, _⟩ := edges_mem h
  obtain ⟨n, _, hl, _, hn7⟩ := isG_size hg
  refine ⟨rfl, ?_, ?_⟩ <;> (simp [List.getD]; omega)
def freeB (U : Nat) (e : List Int) : Bool := !hasB U (e.getD 0 0) && !hasB U (e.getD 1 0)
theorem pair_num {U : Nat} {e : List Int} (h : pairOk e) (hU : U < 128) : ior (ior U (ishl 1 (e.getD 0 0))) (ishl 1 (e.getD 1 0)) = (edgeU U e : Nat) ∧ edgeU U e < 128 := by
  obtain ⟨_, ⟨a0, a1⟩, ⟨b0, b1⟩⟩ := h
  obtain ⟨a, ha⟩ := Int.eq_ofNat_of_zero_le a0
  obtain ⟨b, hb⟩ := Int.eq_ofNat_of_zero_le b0
  have pa : 2 ^ a < 2 ^ 7 := Nat.pow_lt_pow_right (by omega) (by omega)
  have pb : 2 ^ b < 2 ^ 7 := Nat.pow_lt_pow_right (by omega) (by omega)
  have h1 : 2 ^ a ||| 2 ^ b < 2 ^ 7 := Nat.or_lt_two_pow pa pb
  have h2 : U ||| 2 ^ a < 2 ^ 7 := Nat.or_lt_two_pow hU pa
  unfold edgeU
  rw [ha, hb, Int.toNat_natCast, Int.toNat_natCast, ishl_one_nat (by omega), ishl_one_nat (by omega)]
  refine ⟨?_, Nat.or_lt_two_pow (n := 7) hU h1⟩
  rw [ior_nat (by omega) (by omega), ior_nat (by omega) (by omega), Nat.or_assoc]
/-- A greatest matching of a list of edges. -/
def matchP : Pairs → Nat → Pairs
  | [], _ => []
  | p :: r, U => if freeB U p.2 = true then (if (matchP r U).length ≤ (matchP r (edgeU U p.2)).length + 1 then p :: matchP r (edgeU U p.2) else matchP r U) else matchP r U
theorem matchP_sub : ∀ (ps : Pairs) (U : Nat), List.Sublist (matchP ps U) ps
  | [], _ => List.Sublist.slnil
  | p :: r, U => by
    unfold matchP
    split
    · split
      · exact List.Sublist.cons_cons _ (matchP_sub r _)
      · exact List.Sublist.cons _ (matchP_sub r _)
    · exact List.Sublist.cons _ (matchP_sub r _)
def matchL : List (List Int) → Nat → List (List Int)
  | [], _ => []
  | e :: r, U => if freeB U e = true then (if (matchL r U).length ≤ (matchL r (edgeU U e)).length + 1 then e :: matchL r (edgeU U e) else matchL r U) else matchL r U
theorem matchP_lss : ∀ (ps : Pairs) (U : Nat), lssOf (matchP ps U) = matchL (lssOf ps) U
  | [], _ => rfl
  | p :: r, U => by
    have h1 := matchP_lss r U
    have h2 := matchP_lss r (edgeU U p.2)
    have e1 : (matchL (lssOf r) U).length = (matchP r U).length := by rw [← h1, lssOf_length]
    have e2 : (matchL (lssOf r) (edgeU U p.2)).length = (matchP r (edgeU U p.2)).length := by rw [← h2, lssOf_length]
    show lssOf (matchP (p :: r) U) = matchL (p.2 :: lssOf r) U
    unfold matchP matchL
    rw [e1, e2]
    split
    · split
      · rw [← h2]; rfl
      · exact h1
    · exact h1
theorem match_skip {p : Value × List Int} {r : Pairs} {U : Nat} (h : freeB U p.2 = false) : matchP (p :: r) U = matchP r U := by
  show (if _ then _ else _) = _
  rw [if_neg (by rw [h]; exact Bool.false_ne_true)]
theorem match_with {p : Value × List Int} {r : Pairs} {U : Nat} (h : freeB U p.2 = true) (h2 : (matchP r U).length ≤ (matchP r (edgeU U p.2)).length + 1) : matchP (p :: r) U = p :: matchP r (edgeU U p.2) := by
  show (if _ then _ else _) = _
  rw [if_pos h, if_pos h2]
theorem match_wo {p : Value × List Int} {r : Pairs} {U : Nat} (h : freeB U p.2 = true) (h2 : ¬ (matchP r U).length ≤ (matchP r (edgeU U p.2)).length + 1) : matchP (p :: r) U = matchP r U := by
  show (if _ then _ else _) = _
  rw [if_pos h, if_neg h2]
theorem matchL_sub : ∀ (ps : List (List Int)) (U : Nat), List.Sublist (matchL ps U) ps
  | [], _ => List.Sublist.slnil
  | p :: r, U => by
    unfold matchL
    split
    · split
      · exact List.Sublist.cons_cons _ (matchL_sub r _)
      · exact List.Sublist.cons _ (matchL_sub r _)
    · exact List.Sublist.cons _ (matchL_sub r _)
theorem sum_pairs : ∀ L : List (List Int), (∀ e ∈ L, e.length = 2) → (L.map List.length).sum = 2 * L.length
  | [], _ => rfl
  | e :: r, h => by
    have := sum_pairs r fun x hx => h x (List.mem_cons_of_mem _ hx)
    have h2 := h e (List.mem_cons_self ..)
    simp only [List.map_cons, List.sum_cons, List.length_cons]; omega
theorem match_bound (size : Int) (rows : List Int) : (matchL (edgesL size rows) 0).length ≤ 1000 ∧ ((matchL (edgesL size rows) 0).map List.length).sum ≤ 100000 := by
  have h1 := (matchL_sub (edgesL size rows) 0).length_le
  have h2 := edgesL_length size rows
  have h3 := sum_pairs (matchL (edgesL size rows) 0) fun e he => (edges_ok (List.Sublist.subset (matchL_sub _ _) he)).1
  omega
end Go.Pw
