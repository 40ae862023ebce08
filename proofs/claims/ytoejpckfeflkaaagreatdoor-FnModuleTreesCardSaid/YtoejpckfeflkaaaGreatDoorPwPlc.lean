/- The plain mathematics of cliques, splits, edges. -/
import Derived.Test.YtoejpckfeflkaaaGreatDoorPwMod
namespace Go.Pw
open Go

theorem xor_and_nat : ∀ a : Fin 128, ∀ b : Fin 128, (a.val ^^^ (a.val &&& b.val)) + (a.val &&& b.val) = a.val := by decide +kernel
def cliqueQ (rows : List Int) (s : Int) : Prop := ∀ v, v < rows.length → hasB s (v : Nat) = true → iandnot s (rows.getD v 0) = ishl 1 v
instance (rows : List Int) (s : Int) : Decidable (cliqueQ rows s) := by unfold cliqueQ; infer_instance
def cliqueP (size : Int) (rows : List Int) (s : Int) : Prop := (IsG size rows ∧ 0 ≤ s ∧ s < ishl 1 size) ∧ cliqueQ rows s
instance (size : Int) (rows : List Int) (s : Int) : Decidable (cliqueP size rows s) := by unfold cliqueP; infer_instance
theorem clique_row {size : Int} {rows : List Int} {s : Int} (hg : IsG size rows) (hs : 0 ≤ s ∧ s < ishl 1 size) (v : Nat) : iand (rows.getD v 0) s = s - iandnot s (rows.getD v 0) := by
  obtain ⟨n, hn, hl, _, hn7⟩ := isG_size hg
  obtain ⟨S, rfl, hS, hS'⟩ := set_nat hn hn7 hs
  obtain ⟨R, h1, h2, h3⟩ := row_nat hg hn v
  have := xor_and_nat ⟨S, hS'⟩ ⟨R, h3⟩
  dsimp only at this
  rw [h1, iand_nat (by omega) (by omega), iandnot_nat (by omega), Nat.and_comm]
  omega
theorem clique_list {size : Int} {rows : List Int} {s : Int} (hg : IsG size rows) (hs : 0 ≤ s ∧ s < ishl 1 size) : cliqueQ rows s ↔ ∀ x ∈ listS s, iandnot s (rows.getD x.toNat 0) = ishl 1 x := by
  obtain ⟨n, hn, hl, _, hn7⟩ := isG_size hg
  obtain ⟨S, rfl, hS, hS'⟩ := set_nat hn hn7 hs
  constructor
  · intro h x hx
    have hlt := listS_lt hg hs x hx
    obtain ⟨_, v, rfl, hv, hb⟩ := mem_listS.1 hx
    exact h v (by omega) hb
  · intro h v hv hb
    exact h v (mem_listS.2 ⟨by omega, v, rfl, by omega, hb⟩)
/-- A split: a clique, the rest independent. -/
def splitP (size : Int) (rows : List Int) (s : Int) : Prop := cliqueP size rows s ∧ indepP size rows (ishl 1 size - 1 - s)
instance (size : Int) (rows : List Int) (s : Int) : Decidable (splitP size rows s) := by unfold splitP; infer_instance
def edgeP (size : Int) (rows : List Int) (v u : Int) : Prop := IsG size rows ∧ (0 ≤ v ∧ v < size) ∧ (0 ≤ u ∧ u < size) ∧ hasB (rows.getD v.toNat 0) u = true
instance (size : Int) (rows : List Int) (v u : Int) : Decidable (edgeP size rows v u) := by unfold edgeP; infer_instance
/-- The least set of those that hold. -/
def leastU (p : Int → Bool) (k : Nat) : Option Nat := (List.range k).find? fun s => p s
theorem leastU_succ (p : Int → Bool) (k : Nat) : leastU p (k + 1) = (leastU p k).or (if p k then some k else none) := by
  unfold leastU
  rw [List.range_succ, List.find?_append]
  congr 1
  simp [List.find?]
  cases p k <;> rfl
theorem leastU_none (p : Int → Bool) (k : Nat) : leastU p k = none ↔ ∀ s, s < k → p (s : Nat) = false := by
  unfold leastU
  rw [List.find?_eq_none]
  simp
/-- Of all sets below N, the least that holds, and whether there is one. -/
def leastX (g : Prop) [Decidable g] (p : Int → Bool) (N : Int) : Int := if g then ((leastU p N.toNat).getD 0 : Nat) else 0
def leastB (g : Prop) [Decidable g] (p : Int → Bool) (N : Int) : Bool := if g then (leastU p N.toNat).isSome else false
theorem leastU_mono {p : Int → Bool} {k m : Nat} : ∀ {n : Nat}, leastU p k = some m → k ≤ n → leastU p n = some m
  | 0, h, hk => by obtain rfl : k = 0 := by omega
                   exact h
  | n + 1, h, hk => by
    by_cases hkn : k = n + 1
    · rw [← hkn]; exact h
    · rw [leastU_succ, leastU_mono h (by omega)]; rfl
def cntS (s : Int) : Int := (listS s).length
/-- The first of the fewest. -/
def fewU (p : Int → Bool) : Nat → Int
  | 0 => -1
  | k + 1 => if (fewU p k < 0 ∨ cntS k < cntS (fewU p k)) ∧ p k = true then k else fewU p k
def fewX (g : Prop) [Decidable g] (p : Int → Bool) (N : Int) : Int := if g then fewU p N.toNat else -1
/-- All modules, in order. -/
def modsU (rows : List Int) (k : Nat) : List Int := ((List.range k).filter fun s => decide (modQ rows (s : Nat))).map Int.ofNat
def modsL (size : Int) (rows : List Int) : List Int := if IsG size rows then modsU rows (ishl 1 size).toNat else []
theorem modsU_succ (rows : List Int) (k : Nat) : modsU rows (k + 1) = if modQ rows (k : Nat) then modsU rows k ++ [(k : Int)] else modsU rows k := by
  unfold modsU
  rw [List.range_succ, List.filter_append, List.map_append, List.filter_cons, List.filter_nil]
  by_cases h : modQ rows (k : Nat)
  · rw [if_pos (decide_eq_true h), if_pos h]; rfl
  · rw [if_neg (by rw [decide_eq_false h]; exact Bool.false_ne_true), if_neg h, List.map_nil, List.append_nil]
theorem modsU_length (rows : List Int) (k : Nat) : (modsU rows k).length ≤ k := by
  unfold modsU
  rw [List.length_map]
  exact Nat.le_trans (List.length_filter_le _ _) (by simp)
theorem modsU_one (rows : List Int) : modsU rows 1 = [] := by
  have := modsU_succ rows 0
  rw [if_neg (fun h => h.1 rfl)] at this
  rw [this]; rfl
theorem shl_nat {size : Int} {rows : List Int} (hg : IsG size rows) : ∃ N : Nat, ishl 1 size = N ∧ (ishl 1 size).toNat = N ∧ 1 ≤ N ∧ N ≤ 128 := by
  obtain ⟨_, h2, h3⟩ := shl1 (n := size) ⟨by have := hg.1; omega, hg.1.2⟩
  obtain ⟨N, hN⟩ := Int.eq_ofNat_of_zero_le (show 0 ≤ ishl 1 size by omega)
  exact ⟨N, hN, by rw [hN]; rfl, by omega, by omega⟩
theorem modsL_length (size : Int) (rows : List Int) : (modsL size rows).length ≤ 128 := by
  unfold modsL
  split
  · next h => obtain ⟨N, _, h2, _, h4⟩ := shl_nat h
              rw [h2]; exact Nat.le_trans (modsU_length rows N) h4
  · simp
def primeP (size : Int) (rows : List Int) : Prop := IsG size rows ∧ 4 ≤ size ∧ ((modsL size rows).length : Int) = size + 1
instance (size : Int) (rows : List Int) : Decidable (primeP size rows) := by unfold primeP; infer_instance
/-- Twins of a vertex. -/
def twinU (rows : List Int) (v : Int) : Nat → Int
  | 0 => 0
  | k + 1 => if (k : Int) ≠ v ∧ modQ rows (ior (ishl 1 v) (ishl 1 k)) then ior (twinU rows v k) (ishl 1 k) else twinU rows v k
def twinX (size : Int) (rows : List Int) (v : Int) : Int := if IsG size rows ∧ 0 ≤ v ∧ v < size then twinU rows v size.toNat else 0
theorem or_pow_nat : ∀ k : Fin 8, ∀ a : Fin 128, a.val < 2 ^ k.val → a.val ||| 2 ^ k.val = a.val + 2 ^ k.val := by decide +kernel
theorem twinU_nat (rows : List Int) (v : Int) : ∀ k : Nat, k ≤ 7 → ∃ T : Nat, twinU rows v k = T ∧ T < 2 ^ k
  | 0, _ => ⟨0, rfl, by omega⟩
  | k + 1, hk => by
    obtain ⟨T, h1, h2⟩ := twinU_nat rows v k (by omega)
    have h3 := pow_le7 (n := k) (by omega)
    unfold twinU
    split
    · refine ⟨T ||| 2 ^ k, ?_, ?_⟩
      · rw [h1, ishl_one_nat (by omega), ior_nat (by omega) (by omega)]
      · exact Nat.or_lt_two_pow (by rw [Nat.pow_succ]; omega) (by rw [Nat.pow_succ]; omega)
    · exact ⟨T, h1, by rw [Nat.pow_succ]; omega⟩
theorem twin_add (rows : List Int) (v : Int) (k : Nat) (hk : k ≤ 6) : ior (twinU rows v k) (ishl 1 k) = twinU rows v k + ishl 1 k ∧ 0 ≤ twinU rows v k ∧ twinU rows v k ≤ 128 := by
  obtain ⟨T, h1, h2⟩ := twinU_nat rows v k (by omega)
  have h3 := pow_le7 (n := k) (by omega)
  have := or_pow_nat ⟨k, by omega⟩ ⟨T, by omega⟩ h2
  dsimp only at this
  rw [h1, ishl_one_nat (by omega), ior_nat (by omega) (by omega), this]
  omega
theorem pair_lt {size : Int} {n v u : Nat} (hn : size = n) (hn7 : n ≤ 7) (hv : v < n) (hu : u < n) : 0 ≤ ior (ishl 1 v) (ishl 1 u) ∧ ior (ishl 1 v) (ishl 1 u) < ishl 1 size := by
  have h1 := Nat.pow_lt_pow_right (a := 2) (by omega) hv
  have h2 := Nat.pow_lt_pow_right (a := 2) (by omega) hu
  have h3 := pow_le7 hn7
  have h4 := Nat.or_lt_two_pow h1 h2
  rw [hn, ishl_one_nat (by omega), ishl_one_nat (by omega), ishl_one_nat (by omega), ior_nat (by omega) (by omega)]
  omega
end Go.Pw
