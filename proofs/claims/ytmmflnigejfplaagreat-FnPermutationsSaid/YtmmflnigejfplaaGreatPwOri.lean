/- Structs of one slice, built. -/
import Derived.Test.YtmmflnigejfplaaGreatPwJoin
import Derived.Test.YtmmflnigejfplaaGreatPwBool
import Derived.Test.YtmmflnigejfplaaGreatPwTurn
namespace Go.Pw
open Go Go.RowKit
section
variable {P : Program} {C : Cls} {ρ : Operand → Value} {d : Option Tmp} {t ty : TypeId} {pos : String} {af : Array Edge} {g : Option (Nat × Bool)} {x : Operand}
theorem opv_buildO1 {sv : Value} {vs : List Value} (hb : BuildO P t) (hx : ρ x = sv) (hr : Rd C sv vs) : Opv P C ρ ⟨d, .build t #[(0, x)], ty, pos, af, g⟩ (.agg [sv].toArray) :=
  opv_of_run fun w hw => by
    obtain ⟨ao, l, c, rfl⟩ := arr_slice (hr.out w hw)
    have := run_build (P := P) w t #[(0, .slice ao l c)] _ (hb.one ao l c)
    simp [execOp, hx, this]
theorem opv_buildO0 (hb : BuildO P t) : Opv P C ρ ⟨d, .build t #[], ty, pos, af, g⟩ (.agg [.slice none 0 0].toArray) :=
  opv_of_run fun w hw => by
    have := run_build (P := P) w t #[] _ hb.nil
    simp [execOp, this]
end
/-- Objects found one by one. -/
def Sel (objs l : List Ob) : Prop := ∃ ks rest, pull objs ks = some (l, rest)
theorem sel_nil {objs : List Ob} : Sel objs [] := ⟨[], objs, rfl⟩
theorem sel_cons {objs l : List Ob} {o : Ob} (k : Nat) (h : nthOb objs k = some o) (hs : Sel (dropOb objs k) l) : Sel objs (o :: l) := by
  obtain ⟨ks, rest, hp⟩ := hs
  refine ⟨k :: ks, rest, ?_⟩
  rw [pull, h]
  dsimp only
  rw [hp]
theorem Cl.ofSel {X : List Nat} {w0 w : World} {objs l : List Ob} (h : Cl X w0 objs w) (hs : Sel objs l) : Cl X w0 l w := by
  obtain ⟨ks, rest, hp⟩ := hs
  exact (h.perm (pull_perm ks _ _ _ hp)).sub (List.sublist_append_left _ _)
theorem sub_two (A B : Ob) (base r1 r2 r3 : List Ob) : List.Sublist (base ++ r3) (([A] ++ (([B] ++ (base ++ r1)) ++ r2)) ++ r3) :=
  List.Sublist.append (List.Sublist.cons _ ((List.Sublist.cons _ (List.sublist_append_left base r1)).trans (List.sublist_append_left _ r2))) (List.Sublist.refl r3)
theorem sel_tail {objs l tl : List Ob} (hs : Sel objs l) : Sel (objs ++ tl) l := hs.elim fun ks ⟨rest, hp⟩ => by
  have key : ∀ (ks : List Nat) (objs l rest : List Ob), pull objs ks = some (l, rest) → Sel (objs ++ tl) l := by
    intro ks
    induction ks with
    | nil => intro objs l rest h; obtain ⟨rfl, _⟩ := Prod.mk.inj (Option.some.inj h); exact sel_nil
    | cons k ks ih =>
      intro objs l rest h
      have nn : ∀ (objs : List Ob) (k : Nat) (o : Ob), nthOb objs k = some o → nthOb (objs ++ tl) k = some o ∧ dropOb (objs ++ tl) k = dropOb objs k ++ tl := by
        intro objs
        induction objs with
        | nil => intro k o h; cases k <;> cases h
        | cons x r ihr =>
          intro k o h
          cases k with
          | zero => exact ⟨h, rfl⟩
          | succ k =>
            obtain ⟨h1, h2⟩ := ihr k o h
            exact ⟨h1, by show x :: dropOb (r ++ tl) k = x :: dropOb r k ++ tl; rw [h2]; rfl⟩
      rw [pull] at h
      cases hn : nthOb objs k with
      | none => rw [hn] at h; cases h
      | some o =>
        rw [hn] at h
        dsimp only at h
        cases hp : pull (dropOb objs k) ks with
        | none => rw [hp] at h; cases h
        | some q =>
          obtain ⟨a, r⟩ := q
          rw [hp] at h
          obtain ⟨rfl, _⟩ := Prod.mk.inj (Option.some.inj h)
          obtain ⟨h1, h2⟩ := nn objs k o hn
          exact sel_cons k h1 (by rw [h2]; exact ih _ _ _ hp)
  exact key ks objs l rest hp
end Go.Pw
