/- Joins: what code leaves is said once, however it came about; three or four operations that may come up. -/
import Derived.Test.YtoejpckfeflkaaaGreatDoorPwAny
namespace Go.Pw
open Go Go.RowKit
def qjoin {τ : Type} (S : List (Nat × Nat)) (st : τ → List (Nat × Value)) (CC : τ → Cls) (inv : τ → Prop) (E : Env) : Post
  | .normal, E', C' => Same S E E' ∧ ∃ x, Holds E' (st x) ∧ inv x ∧ ∀ w, C' w → CC x w
  | _, _, _ => False
section
variable {P : Program} {C : Cls} {n : Nat} {E : Env} {Q : Post}
theorem qjoin_normal {τ : Type} {S : List (Nat × Nat)} {st : τ → List (Nat × Value)} {CC : τ → Cls} {inv : τ → Prop} {E' : Env} {C' : Cls}
    (hs : Same S E E') (h : ∃ x, Holds E' (st x) ∧ inv x ∧ ∀ w, C' w → CC x w) : qjoin S st CC inv E .normal E' C' := ⟨hs, h⟩
/-- What comes after is shown of any frame that differs in the slots 'S' and holds what 'st' tells. -/
theorem pwp_join {c : Code} {τ : Type} (S : List (Nat × Nat)) (st : τ → List (Nat × Value)) (CC : τ → Cls) (inv : τ → Prop) (h1 : Pwp P n c (qjoin S st CC inv E) E C)
    (h2 : ∀ (J : Env) (x : τ), inv x → Q .normal (upds (st x) (junk S J E)) (CC x)) : Pwp P n c Q E C := by
  refine ⟨fun a w hf hc => wp_mono (h1.out a w hf hc) fun e a' w' ⟨E1, C1, hf1, hc1, hq⟩ => ?_⟩
  cases e with
  | normal =>
    obtain ⟨hs, x, hh, hi, hcc⟩ := hq
    have hE : upds (st x) (junk S E1 E) = E1 := by rw [junk_of_same hs, holds_upds _ _ hh]
    have := h2 E1 x hi
    rw [hE] at this
    exact ⟨E1, CC x, hf1, hcc w' hc1, this⟩
  | _ => exact hq.elim
end
section
variable {P : Program} {n : Nat} {ops : List Oper} {B : List Nat} {C0 : Cls} {fuel : Nat} {listed : Array Bool} {Q : Post} {E : Env} {C : Cls}
theorem pxa_three (j k m : Nat) {o o' o'' : Oper} (hr : (Region.ready .any ops.toArray listed == [j, k, m]) = true) (ho : nthOp ops j = some o) (ho' : nthOp ops k = some o') (ho'' : nthOp ops m = some o'')
    (h : Px P n ops .seq [o] (qstep P n ops B C0 fuel (listed.setIfInBounds j true) Q) E C) (h' : Px P n ops .seq [o'] (qstep P n ops B C0 fuel (listed.setIfInBounds k true) Q) E C)
    (h'' : Px P n ops .seq [o''] (qstep P n ops B C0 fuel (listed.setIfInBounds m true) Q) E C) : Pxa P n ops B C0 (fuel + 1) listed Q E C := ⟨fun hcl a w hf hc => by
  have hr := eq_of_beq hr
  refine ⟨fun h0 => (by rw [hr] at h0; cases h0), fun i hi => ?_⟩
  have hi' := hi
  rw [hr] at hi
  rcases List.mem_cons.1 hi with e | hi
  · subst e; exact pxa_op ho hi' h hcl hf hc
  rcases List.mem_cons.1 hi with e | hi
  · subst e; exact pxa_op ho' hi' h' hcl hf hc
  · have e := List.mem_singleton.1 hi
    subst e
    exact pxa_op ho'' hi' h'' hcl hf hc⟩
theorem pxa_four (j k m q : Nat) {o o' o'' o3 : Oper} (hr : (Region.ready .any ops.toArray listed == [j, k, m, q]) = true) (ho : nthOp ops j = some o) (ho' : nthOp ops k = some o') (ho'' : nthOp ops m = some o'') (ho3 : nthOp ops q = some o3)
    (h : Px P n ops .seq [o] (qstep P n ops B C0 fuel (listed.setIfInBounds j true) Q) E C) (h' : Px P n ops .seq [o'] (qstep P n ops B C0 fuel (listed.setIfInBounds k true) Q) E C)
    (h'' : Px P n ops .seq [o''] (qstep P n ops B C0 fuel (listed.setIfInBounds m true) Q) E C) (h3 : Px P n ops .seq [o3] (qstep P n ops B C0 fuel (listed.setIfInBounds q true) Q) E C) : Pxa P n ops B C0 (fuel + 1) listed Q E C := ⟨fun hcl a w hf hc => by
  have hr := eq_of_beq hr
  refine ⟨fun h0 => (by rw [hr] at h0; cases h0), fun i hi => ?_⟩
  have hi' := hi
  rw [hr] at hi
  rcases List.mem_cons.1 hi with e | hi
  · subst e; exact pxa_op ho hi' h hcl hf hc
  rcases List.mem_cons.1 hi with e | hi
  · subst e; exact pxa_op ho' hi' h' hcl hf hc
  rcases List.mem_cons.1 hi with e | hi
  · subst e; exact pxa_op ho'' hi' h'' hcl hf hc
  · have e := List.mem_singleton.1 hi
    subst e
    exact pxa_op ho3 hi' h3 hcl hf hc⟩
end
attribute [irreducible] qjoin
/-- Structs of one slice, built. -/
structure BuildO (P : Program) (t : TypeId) : Prop where
  one : ∀ ao l c, P.built t [(0, .slice ao l c)] = some #[.slice ao l c]
  nil : P.built t [] = some #[.slice none 0 0]
end Go.Pw
