/- The plain mathematics of modules and threshold weights. -/
import Derived.Test.YtoejpckfeflkaaaGreatDoorPwPlain
namespace Go.Pw
open Go

/-- A module: its vertices have the same neighbours outside. -/
def modQ (rows : List Int) (s : Int) : Prop := s ≠ 0 ∧ ∀ x ∈ listS s, iandnot (rows.getD x.toNat 0) s = iandnot (rows.getD ((listS s).getD 0 0).toNat 0) s
instance (rows : List Int) (s : Int) : Decidable (modQ rows s) := by unfold modQ; infer_instance
def modP (size : Int) (rows : List Int) (s : Int) : Prop := (IsG size rows ∧ 0 ≤ s ∧ s < ishl 1 size) ∧ modQ rows s
instance (size : Int) (rows : List Int) (s : Int) : Decidable (modP size rows s) := by unfold modP; infer_instance
theorem mem_getD {l : List Int} {x : Int} (h : x ∈ l) : ∃ i, i < l.length ∧ l.getD i 0 = x := by
  obtain ⟨i, hi, rfl⟩ := List.mem_iff_getElem.1 h
  exact ⟨i, hi, by simp [List.getD, hi]⟩
theorem getD_mem {l : List Int} {k : Nat} (h : k < l.length) : l.getD k 0 ∈ l := by simp [List.getD, h]
theorem or_sub_nat : ∀ a : Fin 128, ∀ b : Fin 128, (a.val ||| b.val) = (a.val ^^^ (a.val &&& b.val)) + b.val := by decide +kernel
theorem ior_sub {size : Int} {rows : List Int} {s : Int} (hg : IsG size rows) (hs : 0 ≤ s ∧ s < ishl 1 size) (v : Nat) :
    ior (rows.getD v 0) s - s = iandnot (rows.getD v 0) s ∧ 0 ≤ ior (rows.getD v 0) s ∧ ior (rows.getD v 0) s ≤ 127 ∧ 0 ≤ s ∧ s ≤ 127 := by
  obtain ⟨n, hn, hl, _, hn7⟩ := isG_size hg
  obtain ⟨S, rfl, hS, hS'⟩ := set_nat hn hn7 hs
  obtain ⟨R, h1, h2, h3⟩ := row_nat hg hn v
  have := or_sub_nat ⟨R, h3⟩ ⟨S, hS'⟩
  dsimp only at this
  have h4 := Nat.or_lt_two_pow (n := 7) (x := R) (y := S) (by omega) (by omega)
  rw [h1, ior_nat (by omega) (by omega), iandnot_nat (by omega)]
  omega
/-- Weights and a limit that answer a graph. -/
def weighs (rows ws : List Int) (t : Int) (v u : Nat) : Prop := hasB (rows.getD v 0) u = decide (ws.getD u 0 + ws.getD v 0 > t)
instance (rows ws : List Int) (t : Int) (v u : Nat) : Decidable (weighs rows ws t v u) := by unfold weighs; infer_instance
def weightsP (size : Int) (rows ws : List Int) (t : Int) : Prop := IsG size rows ∧ (ws.length : Int) = size ∧ (0 ≤ t ∧ t ≤ 1000000) ∧ (∀ v, v < ws.length → 0 ≤ ws.getD v 0 ∧ ws.getD v 0 ≤ 1000000) ∧
  ∀ v, v < ws.length → ∀ u, u < v → weighs rows ws t v u
instance (size : Int) (rows ws : List Int) (t : Int) : Decidable (weightsP size rows ws t) := by unfold weightsP; infer_instance
end Go.Pw
