/- Strings: joined, compared, made of bytes, cut. -/
import Derived.Test.YtoejpckfeflkaaaGreatDoorPwMem
import Derived.Laws.BytesString
import Derived.Laws.Cells
import Derived.Laws.Strings2
import Derived.Laws.Slices
import Derived.Laws.Tables
namespace Go.Pw
open Go Go.RowKit
section
variable {P : Program} {C : Cls} {ρ : Operand → Value} {d : Option Tmp} {t t' ty src dst e : TypeId} {pos : String} {af : Array Edge} {g : Option (Nat × Bool)} {x y z : Operand} {m n : Int}
theorem opv_cat {a b : ByteArray} (hx : ρ x = .string a) (hy : ρ y = .string b) (h : a.size + b.size ≤ 4611686018427387904) : Opv P C ρ ⟨d, .binOp .add t x y t', ty, pos, af, g⟩ (.string (a ++ b)) :=
  opv_of_run fun w _ => by
    have h2 : ¬ (((a.size + b.size : Nat) : Int) > IntKind.i64.max) := by
      rw [show IntKind.i64.max = 9223372036854775807 by decide]; omega
    have h3 : (Op.stringOp .add a b : Sem Value) = pure (.string (a ++ b)) := by
      unfold Op.stringOp; simp only; rw [if_neg h2]
    simp [execOp, go_sem, hx, hy, binOp, h3]
theorem opv_eql_s {a b : ByteArray} (hx : ρ x = .string a) (hy : ρ y = .string b) : Opv P C ρ ⟨d, .binOp .eql t x y t', ty, pos, af, g⟩ (.bool (a.toList == b.toList)) :=
  opv_of_run fun w _ => by simp [execOp, go_sem, hx, hy, binOp, Op.stringOp]
theorem opv_neq_s {a b : ByteArray} (hx : ρ x = .string a) (hy : ρ y = .string b) : Opv P C ρ ⟨d, .binOp .neq t x y t', ty, pos, af, g⟩ (.bool (!(a.toList == b.toList))) :=
  opv_of_run fun w _ => by simp [execOp, go_sem, hx, hy, binOp, Op.stringOp]
theorem opv_eql_s_r {a b : ByteArray} {r : Bool} (hx : ρ x = .string a) (hy : ρ y = .string b) (h : (a.toList == b.toList) = r) : Opv P C ρ ⟨d, .binOp .eql t x y t', ty, pos, af, g⟩ (.bool r) := by
  have := opv_eql_s (P := P) (C := C) (d := d) (t := t) (t' := t') (ty := ty) (pos := pos) (af := af) (g := g) hx hy
  rwa [h] at this
theorem opv_neq_s_r {a b : ByteArray} {r : Bool} (hx : ρ x = .string a) (hy : ρ y = .string b) (h : (a.toList == b.toList) = r) : Opv P C ρ ⟨d, .binOp .neq t x y t', ty, pos, af, g⟩ (.bool (!r)) := by
  have := opv_neq_s (P := P) (C := C) (d := d) (t := t) (t' := t') (ty := ty) (pos := pos) (af := af) (g := g) hx hy
  rwa [h] at this
theorem opv_rem_n {k : Nat} (hx : ρ x = .int .i64 (k : Int)) (hy : ρ y = .int .i64 10) (h : k < 10) : Opv P C ρ ⟨d, .binOp .rem t x y t', ty, pos, af, g⟩ (.int .i64 (k : Int)) := by
  have := opv_rem (P := P) (C := C) (d := d) (t := t) (t' := t') (ty := ty) (pos := pos) (af := af) (g := g) hx hy (by decide)
  rwa [Int.tmod_eq_emod_of_nonneg (by omega), show (k : Int) % 10 = k by omega] at this
theorem opv_quo_n {k : Nat} (hx : ρ x = .int .i64 (k : Int)) (hy : ρ y = .int .i64 10) (h : k < 10) : Opv P C ρ ⟨d, .binOp .quo t x y t', ty, pos, af, g⟩ (.int .i64 0) := by
  have := opv_quo (P := P) (C := C) (d := d) (t := t) (t' := t') (ty := ty) (pos := pos) (af := af) (g := g) hx hy (by decide)
  rwa [Int.tdiv_eq_ediv_of_nonneg (by omega), show (k : Int) / 10 = 0 by omega] at this
/-- A slice of one byte read as a string. -/
theorem opv_byte_str {sv : Value} {k : Int} (hs : P.underlying src = some (.slice e)) (he : P.underlying e = some (.int .u8)) (hd : P.underlying dst = some .string) (hx : ρ x = sv) (hr : Rd C sv [.int .u8 k]) :
    Opv P C ρ ⟨d, .convert src dst x, ty, pos, af, g⟩ (.string ⟨#[UInt8.ofNat k.toNat]⟩) :=
  opv_of_run fun w hw => by
    rcases (hr.out w hw).out with ⟨h0, _⟩ | ⟨b, off, cap, rfl, _, _, h4⟩
    · cases h0
    · have hl := run_loadCells_list (P := P) (w := w) (⟨b, off, none⟩ : Addr) [Value.int .u8 k] (fun j v hj => by
        have hlt := (List.getElem?_eq_some_iff.1 hj).1
        rw [← hj]
        have h5 := h4 j hlt; unfold Addr.add; by_cases hj0 : j = 0; (subst hj0; exact h5); (rw [if_neg hj0]; exact h5))
      have hb := run_bytesToString w ⟨b, off, none⟩ 1 cap [k] hl
      have hc := run_convert_bytes_string w src dst e (some ⟨b, off, none⟩) 1 cap hs he hd
      rw [hb] at hc
      simp only [List.length_cons, List.length_nil] at hx ⊢
      simp [execOp, go_sem, hx, hc]
      rfl
/-- An array's element, an array of constants. -/
theorem opv_index_arr {cs : Array Value} {i : Int} {v : Value} {len : Nat} (ht : P.underlying t = some (.array len e)) (hs : ∀ w, (sizeOf e).run P w = .ok 1 w) (hg : ∀ w, (isAgg e).run P w = .ok false w) (hx : ρ x = .agg cs) (hy : ρ y = .int .i64 i) (hi : 0 ≤ i ∧ i < len) (hp : cs[i.toNat]? = some v) :
    Opv P C ρ ⟨d, .index t x y, ty, pos, af, g⟩ v :=
  opv_of_run fun w _ => by simp [execOp, go_sem, hx, hy, Instr.index, run_underlying ht, asIntOf, hi, hs w, hg w, part, hp]
theorem opv_build_arr {parts : Array (Nat × Operand)} {vs : Array (Nat × Value)} {cells : Array Value} (hv : parts.map (fun p => (p.1, ρ p.2)) = vs) (h : P.built t vs.toList = some cells) : Opv P C ρ ⟨d, .build t parts, ty, pos, af, g⟩ (.agg cells) :=
  opv_of_run fun w _ => by
    have := run_build (P := P) w t vs cells h
    subst hv
    simp [execOp, this]
/-- A piece of a string. -/
theorem opv_slice_str {s : ByteArray} {k k' : IntKind} {i j : Int} (ht : P.underlying t = some .string) (hx : ρ x = .string s) (hy : ρ y = .int k i) (hz : ρ z = .int k' j) (h : 0 ≤ i ∧ i ≤ j ∧ j ≤ s.size) :
    Opv P C ρ ⟨d, .slice t x (some y) (some z) none, ty, pos, af, g⟩ (.string (s.extract i.toNat j.toNat)) :=
  opv_of_run fun w _ => by
    have := run_slice_string (P := P) (w := w) t s k k' i j ht h.1 h.2.1 h.2.2
    simp [execOp, go_sem, hx, hy, hz, run_sliceAt_string w t _ _ _ _ ht, this]
end
end Go.Pw
