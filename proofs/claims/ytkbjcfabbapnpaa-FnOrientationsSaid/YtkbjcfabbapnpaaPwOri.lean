import Derived.Test.YtkbjcfabbapnpaaPwAny
import Derived.Test.YtkbjcfabbapnpaaPwBool
import Derived.Test.YtkbjcfabbapnpaaPwTurn
/- Joins: what code leaves is said once, however it came about; three or four operations that may come up. -/
namespace Go.Pw
open Go Go.RowKit
def qjoin {τ : Type} (S : List (Nat × Nat)) (st : τ → List (Nat × Value)) (CC : τ → Cls) (inv : τ → Prop) (E : Env) : Post
  | .normal, E', C' => Same S E E' ∧ ∃ x, Holds E' (st x) ∧ inv x ∧ ∀ w, C' w → CC x w
  | _, _, _ => False
section
variable {P : Program} {C : Cls} {n : Nat} {E : Env} {Q : Post}
theorem qjoin_normal {τ : Type} {S : List (Nat × Nat)} {st : τ → List (Nat × Value)} {CC : τ → Cls} {inv : τ → Prop} {E' : Env} {C' : Cls}
    (hs : Same S E E') (h : ∃ x, Holds E' (st x) ∧ inv x ∧ ∀ w, C' w → CC x w) : qjoin S st CC inv E .normal E' C' := ⟨hs, h⟩
/-- What comes after is shown of any frame that differs in the slots 'S' and holds what 'st' tells. -/
theorem pwp_join {c : Code} {τ : Type} (S : List (Nat × Nat)) (st : τ → List (Nat × Value)) (CC : τ → Cls) (inv : τ → Prop) (h1 : Pwp P n c (qjoin S st CC inv E) E C)
    (h2 : ∀ (J : Env) (x : τ), inv x → Q .normal (upds (st x) (junk S J E)) (CC x)) : Pwp P n c Q E C := by
  refine ⟨fun a w hf hc => wp_mono (h1.out a w hf hc) fun e a' w' ⟨E1, C1, hf1, hc1, hq⟩ => ?_⟩
  cases e with
  | normal =>
    obtain ⟨hs, x, hh, hi, hcc⟩ := hq
    have hE : upds (st x) (junk S E1 E) = E1 := by rw [junk_of_same hs, holds_upds _ _ hh]
    have := h2 E1 x hi
    rw [hE] at this
    exact ⟨E1, CC x, hf1, hcc w' hc1, this⟩
  | _ => exact hq.elim
end
section
variable {P : Program} {n : Nat} {ops : List Oper} {B : List Nat} {C0 : Cls} {fuel : Nat} {listed : Array Bool} {Q : Post} {E : Env} {C : Cls}
theorem pxa_three (j k m : Nat) {o o' o'' : Oper} (hr : (Region.ready .any ops.toArray listed == [j, k, m]) = true) (ho : nthOp ops j = some o) (ho' : nthOp ops k = some o') (ho'' : nthOp ops m = some o'')
    (h : Px P n ops .seq [o] (qstep P n ops B C0 fuel (listed.setIfInBounds j true) Q) E C) (h' : Px P n ops .seq [o'] (qstep P n ops B C0 fuel (listed.setIfInBounds k true) Q) E C)
    (h'' : Px P n ops .seq [o''] (qstep P n ops B C0 fuel (listed.setIfInBounds m true) Q) E C) : Pxa P n ops B C0 (fuel + 1) listed Q E C := ⟨fun hcl a w hf hc => by
  have hr := eq_of_beq hr
  refine ⟨fun h0 => (by rw [hr] at h0; cases h0), fun i hi => ?_⟩
  have hi' := hi
  rw [hr] at hi
  rcases List.mem_cons.1 hi with e | hi
  · subst e; exact pxa_op ho hi' h hcl hf hc
  rcases List.mem_cons.1 hi with e | hi
  · subst e; exact pxa_op ho' hi' h' hcl hf hc
  · have e := List.mem_singleton.1 hi
    subst e
    exact pxa_op ho'' hi' h'' hcl hf hc⟩
theorem pxa_four (j k m q : Nat) {o o' o'' o3 : Oper} (hr : (Region.ready .any ops.toArray listed == [j, k, m, q]) = true) (ho : nthOp ops j = some o) (ho' : nthOp ops k = some o') (ho'' : nthOp ops m = some o'') (ho3 : nthOp ops q = some o3)
    (h : Px P n ops .seq [o] (qstep P n ops B C0 fuel (listed.setIfInBounds j true) Q) E C) (h' : Px P n ops .seq [o'] (qstep P n ops B C0 fuel (listed.setIfInBounds k true) Q) E C)
    (h'' : Px P n ops .seq [o''] (qstep P n ops B C0 fuel (listed.setIfInBounds m true) Q) E C) (h3 : Px P n ops .seq [o3] (qstep P n ops B C0 fuel (listed.setIfInBounds q true) Q) E C) : Pxa P n ops B C0 (fuel + 1) listed Q E C := ⟨fun hcl a w hf hc => by
  have hr := eq_of_beq hr
  refine ⟨fun h0 => (by rw [hr] at h0; cases h0), fun i hi => ?_⟩
  have hi' := hi
  rw [hr] at hi
  rcases List.mem_cons.1 hi with e | hi
  · subst e; exact pxa_op ho hi' h hcl hf hc
  rcases List.mem_cons.1 hi with e | hi
  · subst e; exact pxa_op ho' hi' h' hcl hf hc
  rcases List.mem_cons.1 hi with e | hi
  · subst e; exact pxa_op ho'' hi' h'' hcl hf hc
  · have e := List.mem_singleton.1 hi
    subst e
    exact pxa_op ho3 hi' h3 hcl hf hc⟩
end
attribute [irreducible] qjoin
/-- Structs of one slice, built. -/
structure BuildO (P : Program) (t : TypeId) : Prop where
  one : ∀ ao l c, P.built t [(0, .slice ao l c)] = some #[.slice ao l c]
  nil : P.built t [] = some #[.slice none 0 0]
end Go.Pw
/- Structs of one slice, built. -/
namespace Go.Pw
open Go Go.RowKit
section
variable {P : Program} {C : Cls} {ρ : Operand → Value} {d : Option Tmp} {t ty : TypeId} {pos : String} {af : Array Edge} {g : Option (Nat × Bool)} {x : Operand}
theorem opv_buildO1 {sv : Value} {vs : List Value} (hb : BuildO P t) (hx : ρ x = sv) (hr : Rd C sv vs) : Opv P C ρ ⟨d, .build t #[(0, x)], ty, pos, af, g⟩ (.agg [sv].toArray) :=
  opv_of_run fun w hw => by
    obtain ⟨ao, l, c, rfl⟩ := arr_slice (hr.out w hw)
    have := run_build (P := P) w t #[(0, .slice ao l c)] _ (hb.one ao l c)
    simp [execOp, hx, this]
theorem opv_buildO0 (hb : BuildO P t) : Opv P C ρ ⟨d, .build t #[], ty, pos, af, g⟩ (.agg [.slice none 0 0].toArray) :=
  opv_of_run fun w hw => by
    have := run_build (P := P) w t #[] _ hb.nil
    simp [execOp, this]
end
/-- Objects found one by one. -/
def Sel (objs l : List Ob) : Prop := ∃ ks rest, pull objs ks = some (l, rest)
theorem sel_nil {objs : List Ob} : Sel objs [] := ⟨[], objs, rfl⟩
theorem sel_cons {objs l : List Ob} {o : Ob} (k : Nat) (h : nthOb objs k = some o) (hs : Sel (dropOb objs k) l) : Sel objs (o :: l) := by
  obtain ⟨ks, rest, hp⟩ := hs
  refine ⟨k :: ks, rest, ?_⟩
  rw [pull, h]
  dsimp only
  rw [hp]
theorem Cl.ofSel {X : List Nat} {w0 w : World} {objs l : List Ob} (h : Cl X w0 objs w) (hs : Sel objs l) : Cl X w0 l w := by
  obtain ⟨ks, rest, hp⟩ := hs
  exact (h.perm (pull_perm ks _ _ _ hp)).sub (List.sublist_append_left _ _)
theorem sub_two (A B : Ob) (base r1 r2 r3 : List Ob) : List.Sublist (base ++ r3) (([A] ++ (([B] ++ (base ++ r1)) ++ r2)) ++ r3) :=
  List.Sublist.append (List.Sublist.cons _ ((List.Sublist.cons _ (List.sublist_append_left base r1)).trans (List.sublist_append_left _ r2))) (List.Sublist.refl r3)
theorem sel_tail {objs l tl : List Ob} (hs : Sel objs l) : Sel (objs ++ tl) l := hs.elim fun ks ⟨rest, hp⟩ => by
  have key : ∀ (ks : List Nat) (objs l rest : List Ob), pull objs ks = some (l, rest) → Sel (objs ++ tl) l := by
    intro ks
    induction ks with
    | nil => intro objs l rest h; obtain ⟨rfl, _⟩ := Prod.mk.inj (Option.some.inj h); exact sel_nil
    | cons k ks ih =>
      intro objs l rest h
      have nn : ∀ (objs : List Ob) (k : Nat) (o : Ob), nthOb objs k = some o → nthOb (objs ++ tl) k = some o ∧ dropOb (objs ++ tl) k = dropOb objs k ++ tl := by
        intro objs
        induction objs with
        | nil => intro k o h; cases k <;> cases h
        | cons x r ihr =>
          intro k o h
          cases k with
          | zero => exact ⟨h, rfl⟩
          | succ k =>
            obtain ⟨h1, h2⟩ := ihr k o h
            exact ⟨h1, by show x :: dropOb (r ++ tl) k = x :: dropOb r k ++ tl; rw [h2]; rfl⟩
      rw [pull] at h
      cases hn : nthOb objs k with
      | none => rw [hn] at h; cases h
      | some o =>
        rw [hn] at h
        dsimp only at h
        cases hp : pull (dropOb objs k) ks with
        | none => rw [hp] at h; cases h
        | some q =>
          obtain ⟨a, r⟩ := q
          rw [hp] at h
          obtain ⟨rfl, _⟩ := Prod.mk.inj (Option.some.inj h)
          obtain ⟨h1, h2⟩ := nn objs k o hn
          exact sel_cons k h1 (by rw [h2]; exact ih _ _ _ hp)
  exact key ks objs l rest hp
end Go.Pw
