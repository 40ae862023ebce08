/- The plain mathematics of cliques, splits, edges. -/
import Derived.Test.YtfphghmofeajcaaPwMod
namespace Go.Pw
open Go

theorem xor_and_nat : ∀ a : Fin 128, ∀ b : Fin 128, (a.val ^^^ (a.val &&& b.val)) + (a.val &&& b.val) = a.val := by decide +kernel
def cliqueQ (rows : List Int) (s : Int) : Prop := ∀ v, v < rows.length → hasB s (v : Nat) = true → iandnot s (rows.getD v 0) = ishl 1 v
instance (rows : List Int) (s : Int) : Decidable (cliqueQ rows s) := by unfold cliqueQ; infer_instance
def cliqueP (size : Int) (rows : List Int) (s : Int) : Prop := (IsG size rows ∧ 0 ≤ s ∧ s < ishl 1 size) ∧ cliqueQ rows s
instance (size : Int) (rows : List Int) (s : Int) : Decidable (cliqueP size rows s) := by unfold cliqueP; infer_instance
theorem clique_row {size : Int} {rows : List Int} {s : Int} (hg : IsG size rows) (hs : 0 ≤ s ∧ s < ishl 1 size) (v : Nat) : iand (rows.getD v 0) s = s - iandnot s (rows.getD v 0) := by
  obtain ⟨n, hn, hl, _, hn7⟩ := isG_size hg
  obtain ⟨S, rfl, hS, hS'⟩ := set_nat hn hn7 hs
  obtain ⟨R, h1, h2, h3⟩ := row_nat hg hn v
  have := xor_and_nat ⟨S, hS'⟩ ⟨R, h3⟩
  dsimp only at this
  rw [h1, iand_nat (by omega) (by omega), iandnot_nat (by omega), Nat.and_comm]
  omega
theorem clique_list {size : Int} {rows : List Int} {s : Int} (hg : IsG size rows) (hs : 0 ≤ s ∧ s < ishl 1 size) : cliqueQ rows s ↔ ∀ x ∈ listS s, iandnot s (rows.getD x.toNat 0) = ishl 1 x := by
  obtain ⟨n, hn, hl, _, hn7⟩ := isG_size hg
  obtain ⟨S, rfl, hS, hS'⟩ := set_nat hn hn7 hs
  constructor
  · intro h x hx
    have hlt := listS_lt hg hs x hx
    obtain ⟨_, v, rfl, hv, hb⟩ := mem_listS.1 hx
    exact h v (by omega) hb
  · intro h v hv hb
    exact h v (mem_listS.2 ⟨by omega, v, rfl, by omega, hb⟩)
/-- A split: a clique, the rest independent. -/
def splitP (size : Int) (rows : List Int) (s : Int) : Prop := cliqueP size rows s ∧ indepP size rows (ishl 1 size - 1 - s)
instance (size : Int) (rows : List Int) (s : Int) : Decidable (splitP size rows s) := by unfold splitP; infer_instance
def edgeP (size : Int) (rows : List Int) (v u : Int) : Prop := IsG size rows ∧ (0 ≤ v ∧ v < size) ∧ (0 ≤ u ∧ u < size) ∧ hasB (rows.getD v.toNat 0) u = true
instance (size : Int) (rows : List Int) (v u : Int) : Decidable (edgeP size rows v u) := by unfold edgeP; infer_instance
/-- The least set of those that hold. -/
def leastU (p : Int → Bool) (k : Nat) : Option Nat := (List.range k).find? fun s => p s
theorem leastU_succ (p : Int → Bool) (k : Nat) : leastU p (k + 1) = (leastU p k).or (if p k then some k else none) := by
  unfold leastU
  rw [List.range_succ, List.find?_append]
  congr 1
  simp [List.find?]
  cases p k <;> rfl
theorem leastU_none (p : Int → Bool) (k : Nat) : leastU p k = none ↔ ∀ s, s < k → p (s : Nat) = false := by
  unfold leastU
  rw [List.find?_eq_none]
  simp
/-- Of all sets below N, the least that holds, and whether there is one. -/
def leastX (g : Prop) [Decidable g] (p : Int → Bool) (N : Int) : Int := if g then ((leastU p N.toNat).getD 0 : Nat) else 0
def leastB (g : Prop) [Decidable g] (p : Int → Bool) (N : Int) : Bool := if g then (leastU p N.toNat).isSome else false
theorem leastU_mono {p : Int → Bool} {k m : Nat} : ∀ {n : Nat}, leastU p k = some m → k ≤ n → leastU p n = some m
  | 0, h, hk => by obtain rfl : k = 0 := by omega
                   exact h
  | n + 1, h, hk => by
    by_cases hkn : k = n + 1
    · rw [← hkn]; exact h
    · rw [leastU_succ, leastU_mono h (by omega)]; rfl
def cntS (s : Int) : Int := (listS s).length
/-- The first of the fewest. -/
def fewU (p : Int → Bool) : Nat → Int
  | 0 => -1
  | k + 1 => if (fewU p k < 0 ∨ cntS k < cntS (fewU p k)) ∧ p k = true then k else fewU p k
end Go.Pw
