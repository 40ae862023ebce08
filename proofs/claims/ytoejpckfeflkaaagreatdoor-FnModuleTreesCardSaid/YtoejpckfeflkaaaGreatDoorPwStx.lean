/- Conversions between kinds of int, bytes of strings, comparisons of other kinds. -/
import Derived.Test.YtoejpckfeflkaaaGreatDoorPwMem
namespace Go.Pw
open Go Go.RowKit
section
variable {P : Program} {C : Cls} {ρ : Operand → Value} {d : Option Tmp} {t t' ty src dst : TypeId} {pos : String} {af : Array Edge} {g : Option (Nat × Bool)} {x y z : Operand} {m n : Int}
theorem opv_conv {k k' : IntKind} {s : TypeDesc} (hs : P.underlying src = some s) (hd : P.underlying dst = some (.int k)) (hx : ρ x = .int k' n) :
    Opv P C ρ ⟨d, .convert src dst x, ty, pos, af, g⟩ (.int k (k.wrap n)) :=
  opv_of_run fun w _ => by simp [execOp, go_sem, hx, convert, run_underlying hs, run_underlying hd, Conv.intToInt]
theorem opv_geq_k {k : IntKind} (hx : ρ x = .int k m) (hy : ρ y = .int k n) : Opv P C ρ ⟨d, .binOp .geq t x y t', ty, pos, af, g⟩ (.bool (decide (n ≤ m))) :=
  opv_of_run fun w _ => by simp [execOp, go_sem, hx, hy]
theorem opv_eql_k {k : IntKind} (hx : ρ x = .int k m) (hy : ρ y = .int k n) : Opv P C ρ ⟨d, .binOp .eql t x y t', ty, pos, af, g⟩ (.bool (decide (m = n))) :=
  opv_of_run fun w _ => by simp [execOp, go_sem, hx, hy]; rfl
theorem opv_index_str {k : IntKind} {s : ByteArray} {i : Nat} {b : UInt8} (ht : P.underlying t = some .string) (hx : ρ x = .string s) (hy : ρ y = .int k (i : Int)) (hb : s[i]? = some b) :
    Opv P C ρ ⟨d, .index t x y, ty, pos, af, g⟩ (.int .u8 b.toNat) :=
  opv_of_run fun w _ => by simp [execOp, go_sem, hx, hy, Instr.index, run_underlying ht, asIntOf, hb]
end
theorem qbody_ret0 {P : Program} {fn : Func} {R : Value → Cls → Prop} {E : Env} {C : Cls} (hr : fn.results = #[]) (h : R (.tuple #[]) C) : qbody P fn R .ret E C := by
  unfold qbody; exact ⟨_, fun _ _ _ _ => results_none hr _ _ _, h⟩
end Go.Pw
