/- Structs of three slices, built. -/
import Derived.Test.YtoejpckfeflkaaaGreatDoorPwBool
import Derived.Test.YtoejpckfeflkaaaGreatDoorPwTurn
namespace Go.Pw
open Go Go.RowKit
structure BuildT (P : Program) (t : TypeId) : Prop where
  one : ∀ ao l c, P.built t [(0, .slice ao l c)] = some #[.slice ao l c, .slice none 0 0, .slice none 0 0]
  nil : P.built t [] = some #[.slice none 0 0, .slice none 0 0, .slice none 0 0]
section
variable {P : Program} {C : Cls} {ρ : Operand → Value} {d : Option Tmp} {t t' ty : TypeId} {pos : String} {af : Array Edge} {g : Option (Nat × Bool)} {x y z : Operand} {m n : Int}
theorem opv_buildT1 {sv : Value} {vs : List Value} (hb : BuildT P t) (hx : ρ x = sv) (hr : Rd C sv vs) : Opv P C ρ ⟨d, .build t #[(0, x)], ty, pos, af, g⟩ (.agg [sv, .slice none 0 0, .slice none 0 0].toArray) :=
  opv_of_run fun w hw => by
    obtain ⟨ao, l, c, rfl⟩ := arr_slice (hr.out w hw)
    have := run_build (P := P) w t #[(0, .slice ao l c)] _ (hb.one ao l c)
    simp [execOp, hx, this]
theorem opv_buildT0 (hb : BuildT P t) : Opv P C ρ ⟨d, .build t #[], ty, pos, af, g⟩ (.agg [.slice none 0 0, .slice none 0 0, .slice none 0 0].toArray) :=
  opv_of_run fun w hw => by
    have := run_build (P := P) w t #[] _ hb.nil
    simp [execOp, this]
end
/-- Some of the objects, in another order (each number counts in what the ones before leave). -/
theorem Cl.pick {X : List Nat} {w0 w : World} {objs old rest : List Ob} (ks : List Nat) (h : Cl X w0 objs w) (hp : pull objs ks = some (old, rest)) : Cl X w0 old w :=
  (h.perm (pull_perm ks _ _ _ hp)).sub (List.sublist_append_left _ _)
end Go.Pw
