/- Readers: pointers to structs that hold arrays, bytes. -/
import Derived.Test.YtoejpckfeflkaaaGreatDoorPwCat
import Derived.Test.YtoejpckfeflkaaaGreatDoorPwStx
import Derived.Test.YtoejpckfeflkaaaGreatDoorPwTurn
import Derived.Test.YtoejpckfeflkaaaGreatDoorPwStr
namespace Go.Pw
open Go Go.RowKit
section
variable {P : Program} {C : Cls} {ρ : Operand → Value} {d : Option Tmp} {t t' ty src dst e : TypeId} {pos : String} {af : Array Edge} {g : Option (Nat × Bool)} {x y z : Operand} {m n : Int}
theorem opv_nilcheck {a : Addr} (hx : ρ x = .pointer (some a)) : Opv P C ρ ⟨d, .nilCheck x, ty, pos, af, g⟩ (.pointer (some a)) :=
  opv_of_run fun w _ => by simp [execOp, go_sem, hx]
theorem opv_index_ptr {b o len : Nat} {i : Int} (ht : P.underlying t = some (.array len e)) (hs : ∀ w, (sizeOf e).run P w = .ok 1 w) (hx : ρ x = .pointer (some ⟨b, o, none⟩)) (hy : ρ y = .int .i64 i) (hi : 0 ≤ i ∧ i < len) :
    Opv P C ρ ⟨d, .indexAddr t x y, ty, pos, af, g⟩ (.pointer (some ⟨b, o + i.toNat, none⟩)) :=
  opv_of_run fun w _ => by
    simp [execOp, go_sem, hx, hy, Instr.indexAt, run_underlying ht, Instr.sureAddr, asIntOf, hi, hs w, Addr.add]
theorem opv_slice_ptr {b o len : Nat} {j : Int} (ht : P.underlying t = some (.array len e)) (hs : ∀ w, (sizeOf e).run P w = .ok 1 w) (hlen : 0 < len) (hx : ρ x = .pointer (some ⟨b, o, none⟩)) (hz : ρ z = .int .i64 j) (hj : 0 ≤ j ∧ j ≤ len) :
    Opv P C ρ ⟨d, .slice t x none (some z) none, ty, pos, af, g⟩ (.slice (some ⟨b, o, none⟩) j.toNat len) :=
  opv_of_run fun w _ => by
    have h0 : len ≠ 0 := by omega
    simp [execOp, hx, hz, Instr.sliceAt, run_underlying ht, Instr.sureAddr, Instr.sliceBounds, Instr.sliceBound, asIntOf, hj, hs w, h0, Addr.add]
theorem opv_leq_k {k : IntKind} (hx : ρ x = .int k m) (hy : ρ y = .int k n) : Opv P C ρ ⟨d, .binOp .leq t x y t', ty, pos, af, g⟩ (.bool (decide (m ≤ n))) :=
  opv_of_run fun w _ => by simp [execOp, go_sem, hx, hy]
theorem opv_neq_k {k : IntKind} (hx : ρ x = .int k m) (hy : ρ y = .int k n) : Opv P C ρ ⟨d, .binOp .neq t x y t', ty, pos, af, g⟩ (.bool (decide (m ≠ n))) :=
  opv_of_run fun w _ => by simp [execOp, go_sem, hx, hy]; rfl
theorem opv_sub_u8 (hx : ρ x = .int .u8 m) (hy : ρ y = .int .u8 n) (h : 0 ≤ m - n ∧ m - n ≤ 255) : Opv P C ρ ⟨d, .binOp .sub t x y t', ty, pos, af, g⟩ (.int .u8 (m - n)) :=
  opv_of_run fun w _ => by
    have hw : IntKind.u8.wrap (m - n) = m - n := by
      have h2 : (2 : Int) ^ IntKind.u8.bits = 256 := by decide
      have h3 : IntKind.u8.signed = false := rfl
      simp [IntKind.wrap, h3, h2]; omega
    simp [execOp, go_sem, hx, hy, hw]
theorem opv_shl_u8 (hx : ρ x = .int .i64 m) (hy : ρ y = .int .u8 n) (h : 0 ≤ n) : Opv P C ρ ⟨d, .binOp .shl t x y t', ty, pos, af, g⟩ (.int .i64 (ishl m n)) :=
  opv_of_run fun w _ => by simp [execOp, go_sem, hx, hy, Op.shift, Int.not_lt.2 h]; rfl
theorem opv_conv_i64 {k' : IntKind} {s : TypeDesc} (hs : P.underlying src = some s) (hd : P.underlying dst = some (.int .i64)) (hx : ρ x = .int k' n) (h : 0 ≤ n ∧ n ≤ 255) :
    Opv P C ρ ⟨d, .convert src dst x, ty, pos, af, g⟩ (.int .i64 n) := by
  have := opv_conv (P := P) (C := C) (d := d) (ty := ty) (pos := pos) (af := af) (g := g) hs hd hx
  rwa [show IntKind.i64.wrap n = n from w64_in ⟨by omega, by omega⟩] at this
theorem opv_len_str {s : ByteArray} (ht : P.underlying t = some .string) (hx : ρ x = .string s) : Opv P C ρ ⟨d, .call { callee := .builtin .len, args := #[x], argTypes := #[t] }, ty, pos, af, g⟩ (.int .i64 (s.size : Nat)) :=
  opv_of_run fun w _ => by simp [go_sem, hx, Builtin.len_, run_underlying ht]
end
/-- A call that takes its caller's objects 'old' and hands back a value and objects in their place. -/
structure GivesU (P : Program) (f : FuncId) (args : Array Value) (w : World) (old : List Ob) (R : Value → List Ob → Prop) : Prop where
  entry : Entry P f
  out : Calls P f args w (fun e w' => ∃ v new, e = .returned v ∧ R v new ∧ Cl (blocksOf old) w new w')
theorem givesU_enter {P : Program} {f : FuncId} {fn : Func} {c : Code} {args : List Value} {w : World} {old : List Ob} {R : Value → List Ob → Prop} {n : Nat} (ho : Own w old) (he : Entry P f)
    (hf : P.funcs[f]? = some fn) (hb : fn.body = some c) (hn : fn.ntmps = n) (hle : Nat.ble args.length n = true)
    (h : ∀ X, Pwp P n c (qbody P fn (fun u C' => ∃ new, R u new ∧ ∀ w', C' w' → Cl X w new w')) (envOf args) (Cl X w old)) : GivesU P f args.toArray w old R :=
  ⟨he, ((pcall_enter hf hb hn (Nat.le_of_ble_eq_true hle) (h (blocksOf old))).out w ho.start).mono fun _ w' ⟨u, _, h1, h2, new, h3, h4⟩ => ⟨u, new, h1, h3, h4 w' h2⟩⟩
section
variable {P : Program} {E : Env} {n : Nat} {d : Option Tmp} {ty : TypeId} {pos : String} {af : Array Edge} {g : Option (Nat × Bool)} {ops l : List Oper} {Q : Post} {X : List Nat} {w0 : World} {objs : List Ob}
theorem px_givesU (ks : List Nat) {f : FuncId} {args : List Operand} {ats : Array TypeId} {avs : List Value} {old rest : List Ob} {R : Value → List Ob → Prop} (hρ : ev E (.func f) = .func (.func f) #[] #[]) (ha : evl (ev E) args = avs)
    (hp : pull objs ks = some (old, rest)) (hw : wantE ops E g = true) (hd : okDst d n = true)
    (hc : ∀ w, Own w old → GivesU P f avs.toArray w old R) (h : ∀ v new, R v new → Px P n ops .seq l Q (updo E d v) (Cl X w0 (new ++ rest))) :
    Px P n ops .seq (⟨d, .call { callee := .value (.func f), args := args.toArray, argTypes := ats }, ty, pos, af, g⟩ :: l) Q E (Cl X w0 objs) := by
  have hown : ∀ w, Cl X w0 objs w → Own w old ∧ Cl X w0 (old ++ rest) w := fun w hC => by
    have := hC.perm (pull_perm ks _ _ _ hp)
    exact ⟨this.own, this⟩
  refine px_call hw hd (fun w hC => run_call (hc w (hown w hC).1).entry hρ w) fun w hC => ?_
  rw [evl_eq, ha]
  exact (hc w (hown w hC).1).out.mono fun e w' ⟨v, new, he, hR, hcl⟩ => ⟨v, _, he, (hown w hC).2.turnMany hcl, h v new hR⟩
end
section
variable {P : Program} {E : Env} {t : TypeId} {X : List Nat} {w0 : World} {objs : List Ob} {fn : Func} {R : Value → Cls → Prop}
theorem qbody_cell_tmps {p u u' : Tmp} {zs vs : List Value} {v v' : Value} {b : Nat} (k : Nat) (hr : fn.results = #[.cell p t, .tmp u, .tmp u']) (ht : StrT P t zs) (hE : E p = .pointer (some ⟨b, 0, none⟩)) (hE' : E u = v) (hE2 : E u' = v') (hn : nthOb objs k = some (.blk b vs)) (hl : vs.length = zs.length)
    (h : R (.tuple #[.agg vs.toArray, v, v']) (Cl X w0 objs)) : qbody P fn R .ret E (Cl X w0 objs) := by
  unfold qbody
  refine ⟨_, fun a w ha hC => ?_, h⟩
  obtain ⟨e, hg⟩ := Cl.holds hC _ (nthOb_mem hn)
  have h1 : a.tmps[p]?.getD undef = .pointer (some ⟨b, 0, none⟩) := by rw [← Array.getD_eq_getD_getElem?, ha p, hE]
  have h2 : a.tmps[u]?.getD undef = v := by rw [← Array.getD_eq_getD_getElem?, ha u, hE']
  have h3 : a.tmps[u']?.getD undef = v' := by rw [← Array.getD_eq_getD_getElem?, ha u', hE2]
  simp [results, hr, h1, h2, h3, asAddr, run_load_str ht hg hl]
end
theorem own_stor {w : World} {e : TypeId} {sv : Value} {vs : List Value} {l : List Ob} (h : Own w (.row e sv vs :: l)) : storable sv = true := stor_arr (arr_of_row (h.holds _ (List.mem_cons_self ..)))
end Go.Pw
