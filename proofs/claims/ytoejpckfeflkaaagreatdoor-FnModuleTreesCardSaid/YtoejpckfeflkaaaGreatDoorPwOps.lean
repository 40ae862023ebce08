/- The operations that leave the world alone, a law each, over any program. -/
import Derived.Test.YtoejpckfeflkaaaGreatDoorPwCore
namespace Go.Pw
open Go Go.RowKit

/-- Go's int operations, by name. -/
def w64 (n : Int) : Int := IntKind.i64.wrap n
def iand (m n : Int) : Int := w64 ((BitVec.ofInt 64 m &&& BitVec.ofInt 64 n).toNat)
def ior (m n : Int) : Int := w64 ((BitVec.ofInt 64 m ||| BitVec.ofInt 64 n).toNat)
def ixor (m n : Int) : Int := w64 ((BitVec.ofInt 64 m ^^^ BitVec.ofInt 64 n).toNat)
def iandnot (m n : Int) : Int := w64 ((BitVec.ofInt 64 m &&& ~~~ BitVec.ofInt 64 n).toNat)
def ishl (m n : Int) : Int := w64 (m * 2 ^ min n.toNat 64)
def ishr (m n : Int) : Int := m.fdiv (2 ^ min n.toNat 64)

theorem w64_in {n : Int} (h : -9223372036854775808 ≤ n ∧ n ≤ 9223372036854775807) : w64 n = n := by
  unfold w64; rw [IntKind.wrap_i64]; omega

section
variable {P : Program} {C : Cls} {ρ : Operand → Value} {d : Option Tmp} {t t' ty : TypeId} {pos : String} {af : Array Edge} {g : Option (Nat × Bool)} {x y z : Operand} {m n : Int}

theorem opv_of_run {o : Oper} {v : Value} (h : ∀ w, C w → (execOp ρ o).run P w = .ok (.value v) w) : Opv P C ρ o v :=
  ⟨fun w hw => by rw [h w hw]; exact ⟨rfl, rfl⟩⟩

theorem opv_move {v : Value} (hx : ρ x = v) : Opv P C ρ ⟨d, .move x, ty, pos, af, g⟩ v := opv_of_run fun w _ => by simp [execOp, go_sem, hx]
theorem opv_assign {v : Value} (hx : ρ x = v) : Opv P C ρ ⟨d, .assign x, ty, pos, af, g⟩ v := opv_of_run fun w _ => by simp [execOp, go_sem, hx]

theorem hid_int {k : IntKind} {v : Value} {n : Int} (h : v = .int k n) : v = .int k n := h
theorem hid_bool {v : Value} {b : Bool} (h : v = .bool b) : v = .bool b := h
theorem hid_ptr {v : Value} {a : Option Addr} (h : v = .pointer a) : v = .pointer a := h

theorem opv_lss (hx : ρ x = .int .i64 m) (hy : ρ y = .int .i64 n) : Opv P C ρ ⟨d, .binOp .lss t x y t', ty, pos, af, g⟩ (.bool (decide (m < n))) :=
  opv_of_run fun w _ => by simp [execOp, go_sem, hx, hy]
theorem opv_leq (hx : ρ x = .int .i64 m) (hy : ρ y = .int .i64 n) : Opv P C ρ ⟨d, .binOp .leq t x y t', ty, pos, af, g⟩ (.bool (decide (m ≤ n))) :=
  opv_of_run fun w _ => by simp [execOp, go_sem, hx, hy]
theorem opv_gtr (hx : ρ x = .int .i64 m) (hy : ρ y = .int .i64 n) : Opv P C ρ ⟨d, .binOp .gtr t x y t', ty, pos, af, g⟩ (.bool (decide (n < m))) :=
  opv_of_run fun w _ => by simp [execOp, go_sem, hx, hy]
theorem opv_geq (hx : ρ x = .int .i64 m) (hy : ρ y = .int .i64 n) : Opv P C ρ ⟨d, .binOp .geq t x y t', ty, pos, af, g⟩ (.bool (decide (n ≤ m))) :=
  opv_of_run fun w _ => by simp [execOp, go_sem, hx, hy]
theorem opv_eql (hx : ρ x = .int .i64 m) (hy : ρ y = .int .i64 n) : Opv P C ρ ⟨d, .binOp .eql t x y t', ty, pos, af, g⟩ (.bool (decide (m = n))) :=
  opv_of_run fun w _ => by simp [execOp, go_sem, hx, hy]; rfl
theorem opv_neq (hx : ρ x = .int .i64 m) (hy : ρ y = .int .i64 n) : Opv P C ρ ⟨d, .binOp .neq t x y t', ty, pos, af, g⟩ (.bool (decide (¬ m = n))) :=
  opv_of_run fun w _ => by simp [execOp, go_sem, hx, hy]; by_cases h : m = n <;> simp [h]
theorem opv_eql_bool {a b : Bool} (ht : P.underlying t = some .bool) (hx : ρ x = .bool a) (hy : ρ y = .bool b) : Opv P C ρ ⟨d, .binOp .eql t x y t', ty, pos, af, g⟩ (.bool (a == b)) :=
  opv_of_run fun w _ => by simp [execOp, go_sem, hx, hy, run_eql_bool _ _ _ _ ht]
theorem opv_neq_bool {a b : Bool} (ht : P.underlying t = some .bool) (hx : ρ x = .bool a) (hy : ρ y = .bool b) : Opv P C ρ ⟨d, .binOp .neq t x y t', ty, pos, af, g⟩ (.bool (a != b)) :=
  opv_of_run fun w _ => by simp [execOp, go_sem, hx, hy, run_neq_bool _ _ _ _ ht]; cases a <;> cases b <;> rfl

theorem opv_add (hx : ρ x = .int .i64 m) (hy : ρ y = .int .i64 n) : Opv P C ρ ⟨d, .binOp .add t x y t', ty, pos, af, g⟩ (.int .i64 (w64 (m + n))) :=
  opv_of_run fun w _ => by simp [execOp, go_sem, hx, hy, w64]
theorem opv_sub (hx : ρ x = .int .i64 m) (hy : ρ y = .int .i64 n) : Opv P C ρ ⟨d, .binOp .sub t x y t', ty, pos, af, g⟩ (.int .i64 (w64 (m - n))) :=
  opv_of_run fun w _ => by simp [execOp, go_sem, hx, hy, w64]
theorem opv_mul (hx : ρ x = .int .i64 m) (hy : ρ y = .int .i64 n) : Opv P C ρ ⟨d, .binOp .mul t x y t', ty, pos, af, g⟩ (.int .i64 (w64 (m * n))) :=
  opv_of_run fun w _ => by simp [execOp, go_sem, hx, hy, w64]
theorem opv_add_in (hx : ρ x = .int .i64 m) (hy : ρ y = .int .i64 n) (h : -9223372036854775808 ≤ m + n ∧ m + n ≤ 9223372036854775807) : Opv P C ρ ⟨d, .binOp .add t x y t', ty, pos, af, g⟩ (.int .i64 (m + n)) := by
  have := opv_add (P := P) (C := C) (d := d) (t := t) (t' := t') (ty := ty) (pos := pos) (af := af) (g := g) hx hy
  rwa [w64_in h] at this
theorem opv_sub_in (hx : ρ x = .int .i64 m) (hy : ρ y = .int .i64 n) (h : -9223372036854775808 ≤ m - n ∧ m - n ≤ 9223372036854775807) : Opv P C ρ ⟨d, .binOp .sub t x y t', ty, pos, af, g⟩ (.int .i64 (m - n)) := by
  have := opv_sub (P := P) (C := C) (d := d) (t := t) (t' := t') (ty := ty) (pos := pos) (af := af) (g := g) hx hy
  rwa [w64_in h] at this
theorem opv_mul_in (hx : ρ x = .int .i64 m) (hy : ρ y = .int .i64 n) (h : -9223372036854775808 ≤ m * n ∧ m * n ≤ 9223372036854775807) : Opv P C ρ ⟨d, .binOp .mul t x y t', ty, pos, af, g⟩ (.int .i64 (m * n)) := by
  have := opv_mul (P := P) (C := C) (d := d) (t := t) (t' := t') (ty := ty) (pos := pos) (af := af) (g := g) hx hy
  rwa [w64_in h] at this
theorem opv_quo (hx : ρ x = .int .i64 m) (hy : ρ y = .int .i64 n) (h : n ≠ 0) : Opv P C ρ ⟨d, .binOp .quo t x y t', ty, pos, af, g⟩ (.int .i64 (w64 (m.tdiv n))) :=
  opv_of_run fun w _ => by simp [execOp, go_sem, hx, hy, w64, h]
theorem opv_rem (hx : ρ x = .int .i64 m) (hy : ρ y = .int .i64 n) (h : n ≠ 0) : Opv P C ρ ⟨d, .binOp .rem t x y t', ty, pos, af, g⟩ (.int .i64 (m.tmod n)) :=
  opv_of_run fun w _ => by simp [execOp, go_sem, hx, hy, h]

theorem opv_and (hx : ρ x = .int .i64 m) (hy : ρ y = .int .i64 n) : Opv P C ρ ⟨d, .binOp .and t x y t', ty, pos, af, g⟩ (.int .i64 (iand m n)) :=
  opv_of_run fun w _ => by simp [execOp, go_sem, hx, hy]; rfl
theorem opv_or (hx : ρ x = .int .i64 m) (hy : ρ y = .int .i64 n) : Opv P C ρ ⟨d, .binOp .or t x y t', ty, pos, af, g⟩ (.int .i64 (ior m n)) :=
  opv_of_run fun w _ => by simp [execOp, go_sem, hx, hy]; rfl
theorem opv_xor (hx : ρ x = .int .i64 m) (hy : ρ y = .int .i64 n) : Opv P C ρ ⟨d, .binOp .xor t x y t', ty, pos, af, g⟩ (.int .i64 (ixor m n)) :=
  opv_of_run fun w _ => by simp [execOp, go_sem, hx, hy]; rfl
theorem opv_andNot (hx : ρ x = .int .i64 m) (hy : ρ y = .int .i64 n) : Opv P C ρ ⟨d, .binOp .andNot t x y t', ty, pos, af, g⟩ (.int .i64 (iandnot m n)) :=
  opv_of_run fun w _ => by simp [execOp, go_sem, hx, hy]; rfl
theorem opv_shl (hx : ρ x = .int .i64 m) (hy : ρ y = .int .i64 n) (h : 0 ≤ n) : Opv P C ρ ⟨d, .binOp .shl t x y t', ty, pos, af, g⟩ (.int .i64 (ishl m n)) :=
  opv_of_run fun w _ => by simp [execOp, go_sem, hx, hy, Op.shift, Int.not_lt.2 h]; rfl
theorem opv_shr (hx : ρ x = .int .i64 m) (hy : ρ y = .int .i64 n) (h : 0 ≤ n) : Opv P C ρ ⟨d, .binOp .shr t x y t', ty, pos, af, g⟩ (.int .i64 (ishr m n)) :=
  opv_of_run fun w _ => by simp [execOp, go_sem, hx, hy, Op.shift, Int.not_lt.2 h]; rfl

theorem opv_not {b : Bool} (hx : ρ x = .bool b) : Opv P C ρ ⟨d, .unOp .not t x, ty, pos, af, g⟩ (.bool (!b)) :=
  opv_of_run fun w _ => by simp [execOp, go_sem, hx]
theorem opv_not_dec {p : Prop} {_inst : Decidable p} (hx : ρ x = .bool (decide p)) : Opv P C ρ ⟨d, .unOp .not t x, ty, pos, af, g⟩ (.bool (decide (¬p))) :=
  opv_of_run fun w _ => by simp [execOp, go_sem, hx]
theorem opv_neg (hx : ρ x = .int .i64 n) : Opv P C ρ ⟨d, .unOp .neg t x, ty, pos, af, g⟩ (.int .i64 (w64 (-n))) :=
  opv_of_run fun w _ => by simp [execOp, go_sem, hx, w64]
theorem opv_pick_t {v : Value} (hx : ρ x = .bool true) (hy : ρ y = v) : Opv P C ρ ⟨d, .pick x y z, ty, pos, af, g⟩ v :=
  opv_of_run fun w _ => by simp [execOp, go_sem, hx, hy]
theorem opv_pick_f {v : Value} (hx : ρ x = .bool false) (hz : ρ z = v) : Opv P C ρ ⟨d, .pick x y z, ty, pos, af, g⟩ v :=
  opv_of_run fun w _ => by simp [execOp, go_sem, hx, hz]
end
end Go.Pw
