import Derived.Test.YthbhoofhenmbeaaDoorPwCat
import Derived.Test.YthbhoofhenmbeaaDoorPwStx
import Derived.Test.YthbhoofhenmbeaaDoorPwTurn
import Derived.Test.YthbhoofhenmbeaaDoorPwStr
import Derived.Test.YthbhoofhenmbeaaDoorCt
import Derived.Test.YthbhoofhenmbeaaDoorSl
import Derived.Test.YthbhoofhenmbeaaDoorPwPrd
import Derived.Test.YthbhoofhenmbeaaDoorPwDrop
/- Readers: pointers to structs that hold arrays, bytes. -/
namespace Go.Pw
open Go Go.RowKit
section
variable {P : Program} {C : Cls} {ρ : Operand → Value} {d : Option Tmp} {t t' ty src dst e : TypeId} {pos : String} {af : Array Edge} {g : Option (Nat × Bool)} {x y z : Operand} {m n : Int}
theorem opv_nilcheck {a : Addr} (hx : ρ x = .pointer (some a)) : Opv P C ρ ⟨d, .nilCheck x, ty, pos, af, g⟩ (.pointer (some a)) :=
  opv_of_run fun w _ => by simp [execOp, go_sem, hx]
theorem opv_index_ptr {b o len : Nat} {i : Int} (ht : P.underlying t = some (.array len e)) (hs : ∀ w, (sizeOf e).run P w = .ok 1 w) (hx : ρ x = .pointer (some ⟨b, o, none⟩)) (hy : ρ y = .int .i64 i) (hi : 0 ≤ i ∧ i < len) :
    Opv P C ρ ⟨d, .indexAddr t x y, ty, pos, af, g⟩ (.pointer (some ⟨b, o + i.toNat, none⟩)) :=
  opv_of_run fun w _ => by
    simp [execOp, go_sem, hx, hy, Instr.indexAt, run_underlying ht, Instr.sureAddr, asIntOf, hi, hs w, Addr.add]
theorem opv_slice_ptr {b o len : Nat} {j : Int} (ht : P.underlying t = some (.array len e)) (hs : ∀ w, (sizeOf e).run P w = .ok 1 w) (hlen : 0 < len) (hx : ρ x = .pointer (some ⟨b, o, none⟩)) (hz : ρ z = .int .i64 j) (hj : 0 ≤ j ∧ j ≤ len) :
    Opv P C ρ ⟨d, .slice t x none (some z) none, ty, pos, af, g⟩ (.slice (some ⟨b, o, none⟩) j.toNat len) :=
  opv_of_run fun w _ => by
    have h0 : len ≠ 0 := by omega
    simp [execOp, hx, hz, Instr.sliceAt, run_underlying ht, Instr.sureAddr, Instr.sliceBounds, Instr.sliceBound, asIntOf, hj, hs w, h0, Addr.add]
theorem opv_leq_k {k : IntKind} (hx : ρ x = .int k m) (hy : ρ y = .int k n) : Opv P C ρ ⟨d, .binOp .leq t x y t', ty, pos, af, g⟩ (.bool (decide (m ≤ n))) :=
  opv_of_run fun w _ => by simp [execOp, go_sem, hx, hy]
theorem opv_neq_k {k : IntKind} (hx : ρ x = .int k m) (hy : ρ y = .int k n) : Opv P C ρ ⟨d, .binOp .neq t x y t', ty, pos, af, g⟩ (.bool (decide (m ≠ n))) :=
  opv_of_run fun w _ => by simp [execOp, go_sem, hx, hy]; rfl
theorem opv_sub_u8 (hx : ρ x = .int .u8 m) (hy : ρ y = .int .u8 n) (h : 0 ≤ m - n ∧ m - n ≤ 255) : Opv P C ρ ⟨d, .binOp .sub t x y t', ty, pos, af, g⟩ (.int .u8 (m - n)) :=
  opv_of_run fun w _ => by
    have hw : IntKind.u8.wrap (m - n) = m - n := by
      have h2 : (2 : Int) ^ IntKind.u8.bits = 256 := by decide
      have h3 : IntKind.u8.signed = false := rfl
      simp [IntKind.wrap, h3, h2]; omega
    simp [execOp, go_sem, hx, hy, hw]
theorem opv_shl_u8 (hx : ρ x = .int .i64 m) (hy : ρ y = .int .u8 n) (h : 0 ≤ n) : Opv P C ρ ⟨d, .binOp .shl t x y t', ty, pos, af, g⟩ (.int .i64 (ishl m n)) :=
  opv_of_run fun w _ => by simp [execOp, go_sem, hx, hy, Op.shift, Int.not_lt.2 h]; rfl
theorem opv_conv_i64 {k' : IntKind} {s : TypeDesc} (hs : P.underlying src = some s) (hd : P.underlying dst = some (.int .i64)) (hx : ρ x = .int k' n) (h : 0 ≤ n ∧ n ≤ 255) :
    Opv P C ρ ⟨d, .convert src dst x, ty, pos, af, g⟩ (.int .i64 n) := by
  have := opv_conv (P := P) (C := C) (d := d) (ty := ty) (pos := pos) (af := af) (g := g) hs hd hx
  rwa [show IntKind.i64.wrap n = n from w64_in ⟨by omega, by omega⟩] at this
theorem opv_len_str {s : ByteArray} (ht : P.underlying t = some .string) (hx : ρ x = .string s) : Opv P C ρ ⟨d, .call { callee := .builtin .len, args := #[x], argTypes := #[t] }, ty, pos, af, g⟩ (.int .i64 (s.size : Nat)) :=
  opv_of_run fun w _ => by simp [go_sem, hx, Builtin.len_, run_underlying ht]
end
/-- A call that takes its caller's objects 'old' and hands back a value and objects in their place. -/
structure GivesU (P : Program) (f : FuncId) (args : Array Value) (w : World) (old : List Ob) (R : Value → List Ob → Prop) : Prop where
  entry : Entry P f
  out : Calls P f args w (fun e w' => ∃ v new, e = .returned v ∧ R v new ∧ Cl (blocksOf old) w new w')
theorem givesU_enter {P : Program} {f : FuncId} {fn : Func} {c : Code} {args : List Value} {w : World} {old : List Ob} {R : Value → List Ob → Prop} {n : Nat} (ho : Own w old) (he : Entry P f)
    (hf : P.funcs[f]? = some fn) (hb : fn.body = some c) (hn : fn.ntmps = n) (hle : Nat.ble args.length n = true)
    (h : ∀ X, Pwp P n c (qbody P fn (fun u C' => ∃ new, R u new ∧ ∀ w', C' w' → Cl X w new w')) (envOf args) (Cl X w old)) : GivesU P f args.toArray w old R :=
  ⟨he, ((pcall_enter hf hb hn (Nat.le_of_ble_eq_true hle) (h (blocksOf old))).out w ho.start).mono fun _ w' ⟨u, _, h1, h2, new, h3, h4⟩ => ⟨u, new, h1, h3, h4 w' h2⟩⟩
section
variable {P : Program} {E : Env} {n : Nat} {d : Option Tmp} {ty : TypeId} {pos : String} {af : Array Edge} {g : Option (Nat × Bool)} {ops l : List Oper} {Q : Post} {X : List Nat} {w0 : World} {objs : List Ob}
theorem px_givesU (ks : List Nat) {f : FuncId} {args : List Operand} {ats : Array TypeId} {avs : List Value} {old rest : List Ob} {R : Value → List Ob → Prop} (hρ : ev E (.func f) = .func (.func f) #[] #[]) (ha : evl (ev E) args = avs)
    (hp : pull objs ks = some (old, rest)) (hw : wantE ops E g = true) (hd : okDst d n = true)
    (hc : ∀ w, Own w old → GivesU P f avs.toArray w old R) (h : ∀ v new, R v new → Px P n ops .seq l Q (updo E d v) (Cl X w0 (new ++ rest))) :
    Px P n ops .seq (⟨d, .call { callee := .value (.func f), args := args.toArray, argTypes := ats }, ty, pos, af, g⟩ :: l) Q E (Cl X w0 objs) := by
  have hown : ∀ w, Cl X w0 objs w → Own w old ∧ Cl X w0 (old ++ rest) w := fun w hC => by
    have := hC.perm (pull_perm ks _ _ _ hp)
    exact ⟨this.own, this⟩
  refine px_call hw hd (fun w hC => run_call (hc w (hown w hC).1).entry hρ w) fun w hC => ?_
  rw [evl_eq, ha]
  exact (hc w (hown w hC).1).out.mono fun e w' ⟨v, new, he, hR, hcl⟩ => ⟨v, _, he, (hown w hC).2.turnMany hcl, h v new hR⟩
end
section
variable {P : Program} {E : Env} {t : TypeId} {X : List Nat} {w0 : World} {objs : List Ob} {fn : Func} {R : Value → Cls → Prop}
theorem qbody_cell_tmps {p u u' : Tmp} {zs vs : List Value} {v v' : Value} {b : Nat} (k : Nat) (hr : fn.results = #[.cell p t, .tmp u, .tmp u']) (ht : StrT P t zs) (hE : E p = .pointer (some ⟨b, 0, none⟩)) (hE' : E u = v) (hE2 : E u' = v') (hn : nthOb objs k = some (.blk b vs)) (hl : vs.length = zs.length)
    (h : R (.tuple #[.agg vs.toArray, v, v']) (Cl X w0 objs)) : qbody P fn R .ret E (Cl X w0 objs) := by
  unfold qbody
  refine ⟨_, fun a w ha hC => ?_, h⟩
  obtain ⟨e, hg⟩ := Cl.holds hC _ (nthOb_mem hn)
  have h1 : a.tmps[p]?.getD undef = .pointer (some ⟨b, 0, none⟩) := by rw [← Array.getD_eq_getD_getElem?, ha p, hE]
  have h2 : a.tmps[u]?.getD undef = v := by rw [← Array.getD_eq_getD_getElem?, ha u, hE']
  have h3 : a.tmps[u']?.getD undef = v' := by rw [← Array.getD_eq_getD_getElem?, ha u', hE2]
  simp [results, hr, h1, h2, h3, asAddr, run_load_str ht hg hl]
end
theorem own_stor {w : World} {e : TypeId} {sv : Value} {vs : List Value} {l : List Ob} (h : Own w (.row e sv vs :: l)) : storable sv = true := stor_arr (arr_of_row (h.holds _ (List.mem_cons_self ..)))
end Go.Pw
/- The program's reader of a cograph's tree. -/
namespace Go.Proofs.YthbhoofhenmbeaaDoor
open Go Go.RowKit Go.Pw
theorem ui_str : ∃ i, Tryd.prog.info? 9 = some i ∧ i.size = 1 := by
  have h : (Tryd.prog.info? 9).map (fun i => i.size) = some 1 := by kernel_rfl
  cases h2 : Tryd.prog.info? 9 with
  | none => rw [h2] at h; cases h
  | some i => rw [h2] at h; exact ⟨i, rfl, Option.some.inj h⟩
theorem sz_int (w : World) : (sizeOf 3).run Tryd.prog w = .ok 1 w := by
  obtain ⟨i, h1, _, h2, _⟩ := info_parts info_int
  simp [sizeOf, typeInfo, h1, h2]
theorem sc_strR : Scalar Tryd.prog 9 := scalar_string Tryd.underlying9
theorem sc_boolR : Scalar Tryd.prog 4 := scalar_bool Tryd.underlying4
theorem co_boolR : Tryd.prog.cellsOf 4 = 1 := by kernel_rfl
theorem fld_R0 : Fld Tryd.prog 63 0 0 := ⟨by obtain ⟨i, h1, h2⟩ := ui_str; exact ⟨_, _, i, Tryd.underlying63, rfl, rfl, h1, by omega⟩⟩
theorem fld_R1 : Fld Tryd.prog 63 1 1 := ⟨by obtain ⟨i, h1, _, h2, _⟩ := info_parts info_int; exact ⟨_, _, i, Tryd.underlying63, rfl, rfl, h1, by omega⟩⟩
theorem ui_arr : ∃ i, Tryd.prog.info? 61 = some i ∧ i.size = 7 := by
  have h : (Tryd.prog.info? 61).map (fun i => i.size) = some 7 := by kernel_rfl
  cases h2 : Tryd.prog.info? 61 with
  | none => rw [h2] at h; cases h
  | some i => rw [h2] at h; exact ⟨i, rfl, Option.some.inj h⟩
theorem ui_bool : ∃ i, Tryd.prog.info? 4 = some i ∧ i.size = 1 := by
  have h : (Tryd.prog.info? 4).map (fun i => i.size) = some 1 := by kernel_rfl
  cases h2 : Tryd.prog.info? 4 with
  | none => rw [h2] at h; cases h
  | some i => rw [h2] at h; exact ⟨i, rfl, Option.some.inj h⟩
theorem fld_R2 : Fld Tryd.prog 63 2 2 := ⟨by obtain ⟨i, h1, h2⟩ := ui_arr; exact ⟨_, _, i, Tryd.underlying63, rfl, rfl, h1, by omega⟩⟩
theorem fld_R3 : Fld Tryd.prog 63 3 9 := ⟨by obtain ⟨i, h1, h2⟩ := ui_bool; exact ⟨_, _, i, Tryd.underlying63, rfl, rfl, h1, by omega⟩⟩
theorem en_x_loop_example_g02081_impl_cotreeReader_next : Entry Tryd.prog 61 := ⟨_, Tryd.func61, by kernel_rfl, rfl⟩
theorem x_next_c (s : ByteArray) (b : Nat) (st : RSt) (w : World) (ho : Own w [.blk b (cellsR s st)]) (hs : s.size ≤ 100) (ha : st.1 ≤ s.size) :
    Turns Tryd.prog 61 #[.pointer (some ⟨b, 0, none⟩)] w [.blk b (cellsR s st)] [.blk b (cellsR s (nextI s st).2)] (.int .u8 ((nextI s st).1 : Nat)) := by
  refine turns_enter (args := [_]) ho en_x_loop_example_g02081_impl_cotreeReader_next Tryd.func61 rfl Tryd.ntmps61 rfl (fun X => ?_)
  obtain ⟨a, r, bad⟩ := st
  dsimp only at ha
  by_cases he : a = s.size
  · rw [nextI_end he]
    repeat' (first | apply pwp_seq | apply pwp_region | (apply px_run; (first | (apply opv_nilcheck; rfl) | (apply opv_field fld_R0; rfl) | (apply opv_field fld_R1; rfl) | (apply opv_field fld_R3; rfl) | (apply opv_load_blk 0 sc_strR; rfl; rfl; rfl) | (apply opv_load_blk 0 sc_int; rfl; rfl; rfl) | (apply opv_len_str ty_str; rfl) | (apply opv_move; first | exact hid_ptr rfl) | (apply opv_assign; first | exact hid_int rfl) | (apply opv_eql <;> rfl)); rfl; rfl) | apply px_nil | apply qseq_normal | apply qseq_ret | apply pwp_ret | (apply pwp_region_mix; kernel_rfl; decide +kernel; exact Cl.stable _ _ _) | (apply pwp_cond_dec; rfl; all_goals (intro hc; try (first | (exfalso; omega)))) | (apply px_store_blk 0 co_boolR; rfl; rfl; rfl; (intro w hw; rfl); rfl; rfl))
    refine qbody_ret1 (v := .int _ _) rfl rfl ⟨rfl, fun w' h => ?_⟩
    exact h
  · rw [nextI_in he]
    have hb := byteAt_get (s := s) (i := a) (by omega)
    have hi : ((a : Int) + 1 - 1) = a := by omega
    repeat' (first | apply pwp_seq | apply pwp_region | (apply px_run; (first | (apply opv_nilcheck; rfl) | (apply opv_field fld_R0; rfl) | (apply opv_field fld_R1; rfl) | (apply opv_load_blk 0 sc_strR; rfl; rfl; rfl) | (apply opv_load_blk 0 sc_int; rfl; rfl; rfl) | (apply opv_len_str ty_str; rfl) | (apply opv_index_str ty_str; rfl; exact congrArg (Value.int .i64) hi; exact hb) | (apply opv_move; first | exact hid_ptr rfl) | (apply opv_assign; first | exact hid_int rfl) | (apply opv_eql <;> rfl) | (apply opv_add_in; rfl; rfl; omega) | (apply opv_sub_in; rfl; rfl; omega)); rfl; rfl) | apply px_nil | apply qseq_normal | apply pwp_skip | apply pwp_ret | (apply pwp_region_mix; kernel_rfl; decide +kernel; exact Cl.stable _ _ _) | (apply pwp_cond_dec; rfl; all_goals (intro hc; try (first | (exfalso; omega)))) | (apply px_store_blk 0 co_int; rfl; rfl; rfl; (intro w hw; rfl); rfl; rfl))
    refine qbody_ret1 (v := .int _ _) rfl rfl ⟨rfl, fun w' h => ?_⟩
    exact h
theorem en_x_loop_example_g02081_impl_cotreeReader_set : Entry Tryd.prog 38 := ⟨_, Tryd.func38, by kernel_rfl, rfl⟩
set_option maxHeartbeats 1600000 in
theorem x_set_c (s : ByteArray) (b : Nat) (hs : s.size ≤ 100) : ∀ (f : Nat) (st : RSt) (w : World), Own w [.blk b (cellsR s st)] → st.1 ≤ s.size → s.size - st.1 < f → BdR st →
    Turns Tryd.prog 38 #[.pointer (some ⟨b, 0, none⟩)] w [.blk b (cellsR s st)] [.blk b (cellsR s (setI s f st).2)] (.int .i64 ((setI s f st).1 : Nat)) := by
  intro f
  induction f with
  | zero => intro st w _ _ h; omega
  | succ f ih =>
    intro st w ho ha hf hbd
    refine turns_enter (args := [_]) ho en_x_loop_example_g02081_impl_cotreeReader_set Tryd.func38 rfl Tryd.ntmps38 rfl (fun X => ?_)
    obtain ⟨n1, n2, n3, n4⟩ := nextI_ok ha hbd
    have k1 := fun w' ho' => x_next_c s b st w' ho' hs ha
    have hset : setI s (f + 1) st = if (nextI s st).1 = 40 then loopI s (setI s f) (nextI s (nextI s st).2).1 (s.size + 1) (nextI s (nextI s st).2).2 0
      else if (nextI s st).2.2.2 = true ∨ ¬ (48 ≤ (nextI s st).1 ∧ (nextI s st).1 ≤ 54) then (0, ((nextI s st).2.1, (nextI s st).2.2.1, true)) else (2 ^ ((nextI s st).1 - 48), (nextI s st).2) := rfl
    have hpr := nextI_pos s st
    rw [hset]
    clear hset
    generalize nextI s st = a at *
    by_cases h40 : a.1 = 40
    · rw [if_pos h40]
      have ha1 := hpr (by omega)
      have k2 := fun w' ho' => x_next_c s b a.2 w' ho' hs n2
      obtain ⟨m1, m2, m3, m4⟩ := nextI_ok n2 n3
      generalize nextI s a.2 = d at *
      repeat' (first | apply pwp_seq | apply pwp_region | (apply px_run; (first | (apply opv_neq_k; rfl; rfl) | (apply opv_move; first | exact hid_int rfl | exact hid_ptr rfl) | (apply opv_assign; first | exact hid_int rfl)); rfl; rfl) | apply px_nil | apply qseq_normal | apply pwp_block | apply pwp_skip | (apply pwp_cond_ndec; rfl; all_goals (intro hc; try (first | (exfalso; omega)))) | (apply px_turns [0]; rfl; rfl; rfl; rfl; rfl; exact fun w ho => k1 _ ho) | (apply px_turns [0]; rfl; rfl; rfl; rfl; rfl; exact fun w ho => k2 _ ho))
      refine pwp_loop (τ := Nat × RSt × Nat) [(5,7), (35,89)] (fun x => [(5, .int .i64 (x.2.2 : Nat))]) (fun x => Cl X w [.blk b (cellsR s x.2.1)])
        (fun x => d.2.1 ≤ x.2.1.1 ∧ x.2.1.1 ≤ s.size ∧ BdR x.2.1 ∧ x.2.2 < 128 ∧ s.size < x.1 + x.2.1.1 ∧ loopI s (setI s f) d.1 (s.size + 1) d.2 0 = loopI s (setI s f) d.1 x.1 x.2.1 x.2.2) (fun x => x.1) (s.size + 1, d.2, 0)
        ⟨rfl, trivial⟩ ⟨Nat.le_refl _, m2, m3, by show 0 < 128; omega, by dsimp only; omega, rfl⟩ (fun w' h => by exact Cl.sub (by assumption) (by repeat (first | exact List.Sublist.slnil | exact List.Sublist.refl _ | apply List.Sublist.cons_cons | exact List.sublist_append_left _ _ | exact List.sublist_append_right _ _ | apply List.Sublist.cons))) (fun J x hx => ?_)
      obtain ⟨k, q, out⟩ := x
      obtain ⟨i1, i2, i3, i4, i5, i6⟩ := hx
      dsimp only at i1 i2 i3 i4 i5 i6 ⊢
      obtain ⟨k', rfl⟩ : ∃ k', k = k' + 1 := ⟨k - 1, by omega⟩
      cases hq : q.2.2 with
      | true =>
        have hr : loopI s (setI s f) d.1 (k' + 1) q out = (out, q) := by rw [loopI, if_pos hq]
        rw [i6, hr]
        have h9 : (cellsR s q)[9]? = some (.bool true) := by rw [← hq]; rfl
        repeat' (first | apply pwp_seq | apply pwp_region | (apply px_run; (first | (apply opv_nilcheck; rfl) | (apply opv_field fld_R3; rfl) | (apply opv_load_blk 0 sc_boolR; rfl; rfl; exact h9) | (apply opv_move; first | exact hid_int rfl | exact hid_bool rfl | exact hid_ptr rfl) | (apply opv_assign; first | exact hid_int rfl) | (apply opv_pick_f <;> rfl) | (apply opv_not <;> rfl)); rfl; rfl) | apply px_nil | (apply px_skip; rfl; rfl) | apply qseq_normal | apply qseq_exit | (apply qblock_exit_same; rfl) | apply pwp_exit | apply pwp_ret | apply qround_exit | (apply pwp_cond_f; rfl))
        refine qbody_ret1 (v := .int _ _) rfl rfl ⟨rfl, fun w' h => h⟩
      | false =>
        have h9 : (cellsR s q)[9]? = some (.bool false) := by rw [← hq]; rfl
        have k3 := fun w' ho' => x_next_c s b q w' ho' hs i2
        obtain ⟨e1, e2, e3, e4⟩ := nextI_ok i2 i3
        have hpq := nextI_pos s q
        have hr : loopI s (setI s f) d.1 (k' + 1) q out = if (nextI s q).1 = 32 then loopI s (setI s f) d.1 k' ((setI s f (nextI s q).2).2.1, joinK d.1 out (setI s f (nextI s q).2).1 (setI s f (nextI s q).2).2.2.1 7, (setI s f (nextI s q).2).2.2.2) (out ||| (setI s f (nextI s q).2).1)
          else (out, (nextI s q).2) := by rw [loopI, if_neg (by rw [hq]; exact Bool.false_ne_true)]
        rw [hr] at i6
        clear hr
        generalize nextI s q = e at *
        by_cases h32 : e.1 = 32
        · rw [if_pos h32] at i6
          have hpq1 := hpq (by omega)
          have kS := fun w' ho' => ih e.2 w' ho' e2 (by omega) e3
          obtain ⟨g1, g2, g3, g4⟩ := setI_ok s f e.2 e2 e3
          have i6' := i6
          generalize setI s f e.2 = gg at *
          repeat' (first | apply pwp_seq | apply pwp_region | (apply px_run; (first | (apply opv_nilcheck; rfl) | (apply opv_field fld_R3; rfl) | (apply opv_load_blk 0 sc_boolR; rfl; rfl; exact h9) | (apply opv_eql_k; rfl; rfl) | (apply opv_move; first | exact hid_int rfl | exact hid_bool rfl | exact hid_ptr rfl) | (apply opv_assign; first | exact hid_int rfl) | (apply opv_pick_t <;> rfl) | (apply opv_not <;> rfl)); rfl; rfl) | apply px_nil | apply qseq_normal | apply pwp_block | apply pwp_skip | (apply px_guard_not; rfl; rfl; rfl; all_goals (intro hc; try (first | contradiction))) | (apply pwp_cond_dec; rfl; all_goals (intro hc; try (first | (exfalso; omega)))) | (apply px_turns [0]; rfl; rfl; rfl; rfl; rfl; exact fun w ho => k3 _ ho) | (apply px_turns [0]; rfl; rfl; rfl; rfl; rfl; exact fun w ho => kS _ ho))
          refine pwp_loop (τ := Nat) [(7,7), (47,86)] (fun v => [(47, .int .i64 (v : Int))]) (fun v => Cl X w [.blk b (cellsR s (gg.2.1, joinK d.1 out gg.1 gg.2.2.1 v, gg.2.2.2))]) (fun v => v ≤ 7) (fun v => 7 - v) 0
            ⟨rfl, trivial⟩ (by omega) (fun w' h => by rw [joinK_zero]; exact h) (fun J2 v hv => ?_)
          by_cases hv7 : v < 7
          · have hJ := joinK_lt (sign := d.1) (k := v) i4 g4 g3
            have hat := joinK_at d.1 out gg.1 gg.2.2.1 v
            have hrw := cellsR_row (s := s) (st := (gg.2.1, joinK d.1 out gg.1 gg.2.2.1 v, gg.2.2.2)) hv7
            have hrw2 : ∀ z, ((cellsR s (gg.2.1, joinK d.1 out gg.1 gg.2.2.1 v, gg.2.2.2)).set (2 + v) z)[2 + v]? = some z := fun z => List.getElem?_set_self (show 2 + v < 10 by omega)
            have hbl : Nat.blt (2 + v) 10 = true := by rw [Nat.blt_eq]; omega
            have hbl2 : ∀ z, Nat.blt (2 + v) ((cellsR s (gg.2.1, joinK d.1 out gg.1 gg.2.2.1 v, gg.2.2.2)).set (2 + v) z).length = true := fun z => by rw [List.length_set]; exact hbl
            have kp : ∀ w', Pure Tryd.prog 62 #[.int .i64 (gg.1 : Nat), .int .i64 (v : Int)] w' (.bool (gg.1.testBit v)) := fun w' => by
              have := i_has_c (gg.1 : Nat) (v : Int) w' (by omega)
              rw [hasB_nat (by omega) (by omega)] at this; exact this
            have ko : ∀ w', Pure Tryd.prog 62 #[.int .i64 (out : Nat), .int .i64 (v : Int)] w' (.bool (out.testBit v)) := fun w' => by
              have := i_has_c (out : Nat) (v : Int) w' (by omega)
              rw [hasB_nat (by omega) (by omega)] at this; exact this
            by_cases h42 : d.1 = 42
            · have hj : joinK d.1 out gg.1 gg.2.2.1 (v + 1) = updR (joinK d.1 out gg.1 gg.2.2.1 v) v (joinK d.1 out gg.1 gg.2.2.1 v v ||| (if gg.1.testBit v then out else 0) ||| (if out.testBit v then gg.1 else 0)) := by
                rw [hat, h42]; exact joinK_succ out gg.1 gg.2.2.1 v
              have s1 := fun x (hx : x < 128) => cellsR_or1 (s := s) (a := gg.2.1) (b := gg.2.2.2) hv7 hJ hx
              have s2 := fun x y (hx : x < 128) (hy : y < 128) => cellsR_or2 (s := s) (a := gg.2.1) (b := gg.2.2.2) hv7 hJ hx hy
              clear hat
              generalize hgJ : joinK d.1 out gg.1 gg.2.2.1 v = Jr at *
              cases hp : gg.1.testBit v with
              | true =>
                rw [hp] at kp hj
                cases hq2 : out.testBit v with
                | true =>
                  rw [hq2] at ko hj
                  repeat' (first | apply pwp_seq | apply pwp_region | (apply px_run; (first | (apply opv_nilcheck; rfl) | (apply opv_field fld_R2; rfl) | (apply opv_index_ptr Tryd.underlying61 sz_int; rfl; rfl; omega) | (apply opv_load_blk 0 sc_int; rfl; rfl; (first | exact hrw | exact hrw2 _)) | (apply opv_eql_k; rfl; rfl) | (apply opv_move; first | exact hid_int rfl | exact hid_bool rfl | exact hid_ptr rfl) | (apply opv_assign; first | exact hid_int rfl) | (apply opv_lss <;> rfl) | (apply opv_or <;> rfl) | (apply opv_pick_t <;> rfl) | (apply opv_add_in; rfl; rfl; omega) | (apply opv_call; rfl; rfl; exact Cl.stable _ _ _; exact fun w hw => kp _) | (apply opv_call; rfl; rfl; exact Cl.stable _ _ _; exact fun w hw => ko _)); rfl; rfl) | apply px_nil | apply qseq_normal | apply pwp_block | apply qblock_normal | apply pwp_skip | (apply pwp_cond_t; rfl) | (apply pwp_region_tail [0, 1, 6] [2, 3, 4, 5, 7, 8, 9, 10] [11]; kernel_rfl; decide +kernel; exact Cl.stable _ _ _) | apply qtail_normal | apply qnorm_normal | (apply px_guard_dec; rfl; rfl; rfl; all_goals (intro hc; try (first | contradiction | (exfalso; omega)))) | (apply pwp_cond_dec; rfl; all_goals (intro hc; try (first | (exfalso; omega)))) | (apply px_store_blk 0 co_int; rfl; rfl; rfl; (intro w hw; rfl); (first | exact hbl | exact hbl2 _); rfl))
                  refine qround_normal ?_ ⟨v + 1, ⟨rfl, trivial⟩, by (try dsimp only); omega, by (try dsimp only); omega, fun w' h => ?_⟩
                  · repeat (first | exact same_refl | refine same_upd rfl ?_ | refine same_junk rfl ?_)
                  · rw [hj]
                    have e := s2 out gg.1 i4 g4
                    rw [if_pos rfl, if_pos rfl, ← e]
                    exact h
                | false =>
                  rw [hq2] at ko hj
                  repeat' (first | apply pwp_seq | apply pwp_region | (apply px_run; (first | (apply opv_nilcheck; rfl) | (apply opv_field fld_R2; rfl) | (apply opv_index_ptr Tryd.underlying61 sz_int; rfl; rfl; omega) | (apply opv_load_blk 0 sc_int; rfl; rfl; (first | exact hrw)) | (apply opv_eql_k; rfl; rfl) | (apply opv_move; first | exact hid_int rfl | exact hid_bool rfl | exact hid_ptr rfl) | (apply opv_assign; first | exact hid_int rfl) | (apply opv_lss <;> rfl) | (apply opv_or <;> rfl) | (apply opv_pick_t <;> rfl) | (apply opv_add_in; rfl; rfl; omega) | (apply opv_call; rfl; rfl; exact Cl.stable _ _ _; exact fun w hw => kp _) | (apply opv_call; rfl; rfl; exact Cl.stable _ _ _; exact fun w hw => ko _)); rfl; rfl) | apply px_nil | apply qseq_normal | apply pwp_block | apply qblock_normal | apply pwp_skip | (apply pwp_cond_t; rfl) | (apply pwp_cond_f; rfl) | (apply pwp_region_tail [0, 1, 6] [2, 3, 4, 5, 7, 8, 9, 10] [11]; kernel_rfl; decide +kernel; exact Cl.stable _ _ _) | apply qtail_normal | apply qnorm_normal | (apply px_guard_dec; rfl; rfl; rfl; all_goals (intro hc; try (first | contradiction | (exfalso; omega)))) | (apply pwp_cond_dec; rfl; all_goals (intro hc; try (first | (exfalso; omega)))) | (apply px_store_blk 0 co_int; rfl; rfl; rfl; (intro w hw; rfl); (first | exact hbl); rfl))
                  refine qround_normal ?_ ⟨v + 1, ⟨rfl, trivial⟩, by (try dsimp only); omega, by (try dsimp only); omega, fun w' h => ?_⟩
                  · repeat (first | exact same_refl | refine same_upd rfl ?_ | refine same_junk rfl ?_)
                  · rw [hj]
                    have e := s1 out i4
                    rw [if_pos rfl, if_neg Bool.false_ne_true, Nat.or_zero, ← e]
                    exact h
              | false =>
                rw [hp] at kp hj
                cases hq2 : out.testBit v with
                | true =>
                  rw [hq2] at ko hj
                  repeat' (first | apply pwp_seq | apply pwp_region | (apply px_run; (first | (apply opv_nilcheck; rfl) | (apply opv_field fld_R2; rfl) | (apply opv_index_ptr Tryd.underlying61 sz_int; rfl; rfl; omega) | (apply opv_load_blk 0 sc_int; rfl; rfl; (first | exact hrw)) | (apply opv_eql_k; rfl; rfl) | (apply opv_move; first | exact hid_int rfl | exact hid_bool rfl | exact hid_ptr rfl) | (apply opv_assign; first | exact hid_int rfl) | (apply opv_lss <;> rfl) | (apply opv_or <;> rfl) | (apply opv_pick_t <;> rfl) | (apply opv_add_in; rfl; rfl; omega) | (apply opv_call; rfl; rfl; exact Cl.stable _ _ _; exact fun w hw => kp _) | (apply opv_call; rfl; rfl; exact Cl.stable _ _ _; exact fun w hw => ko _)); rfl; rfl) | apply px_nil | apply qseq_normal | apply pwp_block | apply qblock_normal | apply pwp_skip | (apply pwp_cond_t; rfl) | (apply pwp_cond_f; rfl) | (apply pwp_region_tail [0, 1, 6] [2, 3, 4, 5, 7, 8, 9, 10] [11]; kernel_rfl; decide +kernel; exact Cl.stable _ _ _) | apply qtail_normal | apply qnorm_normal | (apply px_guard_dec; rfl; rfl; rfl; all_goals (intro hc; try (first | contradiction | (exfalso; omega)))) | (apply pwp_cond_dec; rfl; all_goals (intro hc; try (first | (exfalso; omega)))) | (apply px_store_blk 0 co_int; rfl; rfl; rfl; (intro w hw; rfl); (first | exact hbl); rfl))
                  refine qround_normal ?_ ⟨v + 1, ⟨rfl, trivial⟩, by (try dsimp only); omega, by (try dsimp only); omega, fun w' h => ?_⟩
                  · repeat (first | exact same_refl | refine same_upd rfl ?_ | refine same_junk rfl ?_)
                  · rw [hj]
                    have e := s1 gg.1 g4
                    rw [if_neg Bool.false_ne_true, if_pos rfl, Nat.or_zero, ← e]
                    exact h
                | false =>
                  rw [hq2] at ko hj
                  repeat' (first | apply pwp_seq | apply pwp_region | (apply px_run; (first | (apply opv_eql_k; rfl; rfl) | (apply opv_move; first | exact hid_int rfl | exact hid_bool rfl) | (apply opv_assign; first | exact hid_int rfl) | (apply opv_lss <;> rfl) | (apply opv_pick_t <;> rfl) | (apply opv_add_in; rfl; rfl; omega) | (apply opv_call; rfl; rfl; exact Cl.stable _ _ _; exact fun w hw => kp _) | (apply opv_call; rfl; rfl; exact Cl.stable _ _ _; exact fun w hw => ko _)); rfl; rfl) | apply px_nil | apply qseq_normal | apply pwp_block | apply qblock_normal | apply pwp_skip | (apply pwp_cond_f; rfl) | (apply px_guard_dec; rfl; rfl; rfl; all_goals (intro hc; try (first | contradiction | (exfalso; omega)))) | (apply pwp_cond_dec; rfl; all_goals (intro hc; try (first | (exfalso; omega)))))
                  refine qround_normal ?_ ⟨v + 1, ⟨rfl, trivial⟩, by (try dsimp only); omega, by (try dsimp only); omega, fun w' h => ?_⟩
                  · repeat (first | exact same_refl | refine same_upd rfl ?_ | refine same_junk rfl ?_)
                  · rw [hj]
                    rw [if_neg Bool.false_ne_true, if_neg Bool.false_ne_true, Nat.or_zero, Nat.or_zero, updR_self]
                    exact h
            · have hj : joinK d.1 out gg.1 gg.2.2.1 (v + 1) = joinK d.1 out gg.1 gg.2.2.1 v := by rw [joinK_no h42, joinK_no h42]
              repeat' (first | apply pwp_seq | apply pwp_region | (apply px_run; (first | (apply opv_eql_k; rfl; rfl) | (apply opv_move; first | exact hid_int rfl | exact hid_bool rfl) | (apply opv_assign; first | exact hid_int rfl) | (apply opv_lss <;> rfl) | (apply opv_pick_f <;> rfl) | (apply opv_add_in; rfl; rfl; omega)); rfl; rfl) | apply px_nil | (apply px_skip; rfl; rfl) | apply qseq_normal | apply pwp_block | apply qblock_normal | apply pwp_skip | (apply pwp_cond_f; rfl) | (apply px_guard_dec; rfl; rfl; rfl; all_goals (intro hc; try (first | contradiction | (exfalso; omega)))) | (apply pwp_cond_dec; rfl; all_goals (intro hc; try (first | (exfalso; omega)))))
              refine qround_normal ?_ ⟨v + 1, ⟨rfl, trivial⟩, by (try dsimp only); omega, by (try dsimp only); omega, fun w' h => ?_⟩
              · repeat (first | exact same_refl | refine same_upd rfl ?_ | refine same_junk rfl ?_)
              · rw [hj]
                exact h
          · obtain rfl : v = 7 := by omega
            have hor : ior (out : Nat) (gg.1 : Nat) = ((out ||| gg.1 : Nat) : Int) := ior_nat (by omega) (by omega)
            repeat' (first | apply pwp_seq | apply pwp_region | (apply px_run; (first | (apply opv_move; first | exact hid_int rfl) | (apply opv_assign; first | exact hid_int rfl) | (apply opv_lss <;> rfl) | (apply opv_or <;> rfl)); rfl; rfl) | apply px_nil | apply qseq_normal | apply qseq_exit | apply qblock_normal | (apply qblock_exit_same; rfl) | apply pwp_exit | apply qround_exit | (apply pwp_cond_f; rfl))
            refine qround_normal ?_ ⟨(k', (gg.2.1, joinK d.1 out gg.1 gg.2.2.1 7, gg.2.2.2), out ||| gg.1), ⟨congrArg (Value.int .i64) hor, trivial⟩, ⟨by dsimp only; omega, g2, joinK_lt i4 g4 g3, or_lt128 i4 g4, by dsimp only; omega, i6⟩, by dsimp only; omega, fun w' h => h⟩
            repeat (first | exact same_refl | refine same_upd rfl ?_ | refine same_junk rfl ?_)
        · rw [if_neg h32] at i6
          rw [i6]
          repeat' (first | apply pwp_seq | apply pwp_region | (apply px_run; (first | (apply opv_nilcheck; rfl) | (apply opv_field fld_R3; rfl) | (apply opv_load_blk 0 sc_boolR; rfl; rfl; exact h9) | (apply opv_eql_k; rfl; rfl) | (apply opv_move; first | exact hid_int rfl | exact hid_bool rfl | exact hid_ptr rfl) | (apply opv_assign; first | exact hid_int rfl) | (apply opv_pick_t <;> rfl) | (apply opv_not <;> rfl)); rfl; rfl) | apply px_nil | apply qseq_normal | apply qseq_exit | (apply qblock_exit_same; rfl) | apply pwp_exit | apply pwp_ret | apply qround_exit | (apply px_guard_not; rfl; rfl; rfl; all_goals (intro hc; try (first | contradiction))) | (apply pwp_cond_dec; rfl; all_goals (intro hc; try (first | (exfalso; omega)))) | (apply px_turns [0]; rfl; rfl; rfl; rfl; rfl; exact fun w ho => k3 _ ho))
          refine qbody_ret1 (v := .int _ _) rfl rfl ⟨rfl, fun w' h => h⟩
    · rw [if_neg h40]
      cases hbad : a.2.2.2 with
      | true =>
        rw [if_pos (Or.inl rfl)]
        have h9 : (cellsR s a.2)[9]? = some (.bool true) := by rw [← hbad]; rfl
        repeat' (first | apply pwp_seq | apply pwp_region | (apply px_run; (first | (apply opv_nilcheck; rfl) | (apply opv_field fld_R3; rfl) | (apply opv_load_blk 0 sc_boolR; rfl; rfl; (first | exact h9 | rfl)) | (apply opv_neq_k; rfl; rfl) | (apply opv_move; first | exact hid_int rfl | exact hid_bool rfl | exact hid_ptr rfl) | (apply opv_assign; first | exact hid_int rfl) | (apply opv_pick_t <;> rfl)); rfl; rfl) | apply px_nil | (apply px_skip; rfl; rfl) | apply qseq_normal | apply qseq_ret | apply pwp_ret | (apply pwp_cond_t; rfl) | (apply pwp_cond_ndec; rfl; all_goals (intro hc; try (first | (exfalso; omega)))) | (apply px_store_blk 0 co_boolR; rfl; rfl; rfl; (intro w hw; rfl); rfl; rfl) | (apply px_turns [0]; rfl; rfl; rfl; rfl; rfl; exact fun w ho => k1 _ ho))
        all_goals (refine qbody_ret1 (v := .int _ _) rfl rfl ⟨rfl, fun w' h => h⟩)
      | false =>
        have h9 : (cellsR s a.2)[9]? = some (.bool false) := by rw [← hbad]; rfl
        have h99 : ∀ z, ((cellsR s a.2).set 9 z)[9]? = some z := fun z => rfl
        by_cases hr : 48 ≤ a.1 ∧ a.1 ≤ 54
        · rw [if_neg (fun hh => by rcases hh with hh | hh; exact Bool.false_ne_true hh; exact hh hr)]
          have he : cellsR s a.2 = (cellsR s a.2).set 9 (.bool false) := by
            show [_, _, _, _, _, _, _, _, _, Value.bool a.2.2.2] = [_, _, _, _, _, _, _, _, _, Value.bool false]
            rw [hbad]
          have kW : ∀ w', Pure Tryd.prog 45 #[.int .i64 ((a.1 : Int) - 48), .int .i64 0, .int .i64 6] w' (.bool true) := fun w' => by
            have := i_within_c ((a.1 : Int) - 48) 0 6 w'
            rw [decide_eq_true (by omega)] at this; exact this
          have hv : ishl 1 ((a.1 : Int) - 48) = ((2 ^ (a.1 - 48) : Nat) : Int) := by
            rw [show (a.1 : Int) - 48 = ((a.1 - 48 : Nat) : Int) by omega, ishl_one_nat (by omega)]
          repeat' (first | apply pwp_seq | apply pwp_region | (apply px_run; (first | (apply opv_nilcheck; rfl) | (apply opv_field fld_R3; rfl) | (apply opv_load_blk 0 sc_boolR; rfl; rfl; (first | exact h9 | rfl)) | (apply opv_neq_k; rfl; rfl) | (apply opv_conv_i64 Tryd.underlying5 Tryd.underlying3; rfl; omega) | (apply opv_sub_u8; rfl; rfl; omega) | (apply opv_shl_u8; rfl; rfl; omega) | (apply opv_move; first | exact hid_int rfl | exact hid_bool rfl | exact hid_ptr rfl) | (apply opv_assign; first | exact hid_int rfl) | (apply opv_pick_f <;> rfl) | (apply opv_not <;> rfl) | (apply opv_sub_in; rfl; rfl; omega) | (apply opv_call; rfl; rfl; exact Cl.stable _ _ _; exact fun w hw => kW _)); rfl; rfl) | apply px_nil | apply qseq_normal | apply qseq_ret | apply pwp_skip | apply pwp_ret | (apply pwp_cond_f; rfl) | (apply pwp_cond_ndec; rfl; all_goals (intro hc; try (first | (exfalso; omega)))) | (apply px_store_blk 0 co_boolR; rfl; rfl; rfl; (intro w hw; rfl); rfl; rfl) | (apply px_turns [0]; rfl; rfl; rfl; rfl; rfl; exact fun w ho => k1 _ ho))
          all_goals (refine qbody_ret1 (v := .int _ _) rfl rfl ⟨congrArg (Value.int .i64) hv, fun w' h => by rw [he]; exact h⟩)
        · rw [if_pos (Or.inr hr)]
          have kW : ∀ w', Pure Tryd.prog 45 #[.int .i64 ((a.1 : Int) - 48), .int .i64 0, .int .i64 6] w' (.bool false) := fun w' => by
            have := i_within_c ((a.1 : Int) - 48) 0 6 w'
            rw [decide_eq_false (by omega)] at this; exact this
          repeat' (first | apply pwp_seq | apply pwp_region | (apply px_run; (first | (apply opv_nilcheck; rfl) | (apply opv_field fld_R3; rfl) | (apply opv_load_blk 0 sc_boolR; rfl; rfl; (first | exact h9 | rfl)) | (apply opv_neq_k; rfl; rfl) | (apply opv_conv_i64 Tryd.underlying5 Tryd.underlying3; rfl; omega) | (apply opv_move; first | exact hid_int rfl | exact hid_bool rfl | exact hid_ptr rfl) | (apply opv_assign; first | exact hid_int rfl) | (apply opv_pick_f <;> rfl) | (apply opv_not <;> rfl) | (apply opv_sub_in; rfl; rfl; omega) | (apply opv_call; rfl; rfl; exact Cl.stable _ _ _; exact fun w hw => kW _)); rfl; rfl) | apply px_nil | apply qseq_normal | apply qseq_ret | apply pwp_ret | (apply pwp_cond_t; rfl) | (apply pwp_cond_ndec; rfl; all_goals (intro hc; try (first | (exfalso; omega)))) | (apply px_store_blk 0 co_boolR; rfl; rfl; rfl; (intro w hw; rfl); rfl; rfl) | (apply px_turns [0]; rfl; rfl; rfl; rfl; rfl; exact fun w ho => k1 _ ho))
          all_goals (refine qbody_ret1 (v := .int _ _) rfl rfl ⟨rfl, fun w' h => h⟩)
theorem arr_reader {X : List Nat} {w0 w : World} {objs : List Ob} {s : ByteArray} {st : RSt} {b n k : Nat} (h : Cl X w0 objs w) (hn : nthOb objs k = some (.blk b (cellsR s st))) (h7 : n ≤ 7) : Arr w (.slice (some ⟨b, 2, none⟩) n 7) (ints (rowsI n st.2.1)) := by
  have hl : (ints (rowsI n st.2.1)).length = n := by rw [ints_length, rowsI_length]
  have hfit : fitsB (.slice (some ⟨b, 2, none⟩) n 7) = true := Nat.ble_eq_true_of_le h7
  refine ⟨hfit, ?_⟩
  by_cases h0 : n = 0
  · subst h0
    exact .inl ⟨rfl, some ⟨b, 2, none⟩, 7, rfl, fun h => by cases h⟩
  · refine .inr ⟨b, 2, 7, by rw [hl], by rw [hl]; omega, by rw [hl]; simp only [maxLen]; omega, fun i hi => ?_⟩
    rw [hl] at hi
    rw [h.blkCell hn, cellsR_row (by omega)]
    simp [ints, rowsI, hi]
theorem built_R (s : ByteArray) : Tryd.prog.built 63 [(0, .string s)] = some (cellsR s (0, fun _ => 0, false)).toArray := by kernel_rfl
theorem en_i_GraphOfCotree : Entry Tryd.prog 17 := ⟨_, Tryd.func17, by kernel_rfl, rfl⟩
set_option maxRecDepth 100000 in
set_option maxHeartbeats 1600000 in
theorem i_GraphOfCotree_c (s : ByteArray) (w : World) :
    Gives Tryd.prog 17 #[.string s] w (fun v objs => ∃ sv, v = .tuple #[.agg #[.int .i64 (gocZ s), sv], .bool (gocB s)] ∧ objs = [.row 3 sv (ints (gocL s))]) := by
  refine gives_enter (args := [_]) en_i_GraphOfCotree Tryd.func17 rfl Tryd.ntmps17 rfl ?_
  by_cases hs : s.size ≤ 100
  case neg =>
    have hB : gocB s = false := by unfold gocB; rw [decide_eq_false hs]; rfl
    have hZ : gocZ s = 0 := by unfold gocZ; rw [if_neg (by rw [hB]; exact Bool.false_ne_true)]
    have hL : gocL s = [] := by unfold gocL; rw [if_neg (by rw [hB]; exact Bool.false_ne_true)]
    repeat' (first | apply pwp_seq | apply pwp_region | (apply px_run; (first | (apply opv_len_str ty_str; rfl) | (apply opv_build_arr (cells := (cellsR s (0, fun _ => 0, false)).toArray) rfl; simp only [List.map_toArray, List.map_cons, List.map_nil, List.toList_toArray]; exact built_R s) | (apply opv_move; first | rfl) | (apply opv_assign; first | exact hid_bool rfl | exact hid_ptr rfl) | (apply opv_gtr <;> rfl) | (apply opv_build0 bl_G)); rfl; rfl) | apply px_nil | apply qseq_normal | apply qseq_ret | apply pwp_ret | (apply pwp_cond_dec; rfl; all_goals (intro hc; try (first | (exfalso; omega)))) | (apply px_box; rfl; rfl; rfl; rfl; intro bk) | (apply px_alloc st_G; rfl; rfl; rfl; intro bk) | (apply px_store_str 1 st_G; rfl; rfl; rfl; rfl; rfl; (intro w hw; (first | refine all2 rfl ?_ ?_) <;> (first | rfl)); rfl))
    refine qbody_cell_tmp 1 rfl st_G rfl rfl rfl rfl ⟨_, ⟨_, by rw [hZ, hB]; rfl, rfl⟩, fun w' h => ?_⟩
    rw [hL]
    exact (h.sub (List.nil_sublist _)).nilRow _
  obtain ⟨a1, a2, a3⟩ := gocA_ok s
  have hn7 : gocN s ≤ 7 := cntN_le7 _
  have hB : gocB s = (!(gocA s).2.2.2 && (cogb (gocN s) (gocR s) && decide (cotX (gocN s) (gocR s) = s))) := by unfold gocB; rw [decide_eq_true hs]; rfl
  have hZ : gocZ s = if gocB s = true then (gocN s : Int) else 0 := rfl
  have hL : gocL s = if gocB s = true then gocR s else [] := rfl
  have hR : gocR s = rowsI (gocN s) (gocA s).2.2.1 := rfl
  have kS := fun b w' ho => x_set_c s b hs 101 (0, fun _ => 0, false) w' ho (Nat.zero_le _) (by dsimp only; omega) (fun v => by show 0 < 128; omega)
  have kC : ∀ w', Pure Tryd.prog 37 #[.int .i64 ((gocA s).1 : Nat)] w' (.int .i64 (gocN s : Nat)) := fun w' => by
    have := i_CountSet_c ((gocA s).1 : Nat) w'
    rw [cntS_nat a3] at this; exact this
  have hA : setI s 101 (0, fun _ => 0, false) = gocA s := rfl
  rw [hA] at kS
  have kL : ∀ sv w', Arr w' sv (ints (gocR s)) → Pure Tryd.prog 14 #[.agg #[.int .i64 (gocN s : Nat), sv]] w' (.tuple #[.string (cotX (gocN s) (gocR s)), .bool (cogb (gocN s) (gocR s))]) := fun sv w' h => i_CotreeOf_c (gocN s : Nat) sv (gocR s) w' h
  have hrl : (gocR s).length = gocN s := rowsI_length _ _
  clear hA
  generalize gocA s = A at *
  generalize gocN s = n at *
  generalize gocR s = R at *
  subst hR
  have hrl5 : (rowsI n A.2.2.1).length ≤ 1048576 := by rw [rowsI_length]; omega
  have hE := toList_beq (cotX n (rowsI n A.2.2.1)) s
  generalize cogb (n : Int) (rowsI n A.2.2.1) = cg at *
  generalize cotX (n : Int) (rowsI n A.2.2.1) = T at *
  generalize decide (T = s) = eb at *
  cases hbad : A.2.2.2 with
  | true =>
    rw [hbad] at hB
    have hB' : gocB s = false := hB
    rw [if_neg (by rw [hB']; exact Bool.false_ne_true)] at hZ hL
    have h9 : (cellsR s A.2)[9]? = some (.bool true) := by rw [← hbad]; rfl
    repeat' (first | apply pwp_seq | apply pwp_region | (apply px_run; (first | (apply opv_len_str ty_str; rfl) | (apply opv_build_arr (cells := (cellsR s (0, fun _ => 0, false)).toArray) rfl; simp only [List.map_toArray, List.map_cons, List.map_nil, List.toList_toArray]; exact built_R s) | (apply opv_nilcheck; rfl) | (apply opv_field fld_R2; rfl) | (apply opv_field fld_R3; rfl) | (apply opv_slice_ptr Tryd.underlying61 sz_int (by decide); rfl; rfl; omega) | (first | (apply opv_load_blk 2 sc_boolR; rfl; rfl; exact h9)) | (apply opv_move; first | exact hid_int rfl | exact hid_bool rfl | exact hid_ptr rfl | rfl) | (apply opv_assign; first | exact hid_int rfl | exact hid_bool rfl | exact hid_ptr rfl | rfl) | (apply opv_gtr <;> rfl) | (apply opv_pick_t <;> rfl) | (apply opv_load_str 0 st_G; rfl; rfl; rfl) | (apply opv_build2 bl_G; rfl; rfl; (first | exact rd_row 0 rfl)) | (apply opv_build0 bl_G) | (apply opv_extract; rfl; rfl) | (apply opv_call; rfl; rfl; exact Cl.stable _ _ _; exact fun w hw => kC _) | (apply opv_call; rfl; rfl; exact Cl.stable _ _ _; exact fun w hw => kL _ _ (by first | exact hw.rowArr (k := 1) rfl))); rfl; rfl) | apply px_nil | (apply px_skip; rfl; rfl) | apply qseq_normal | apply qseq_ret | apply pwp_skip | apply pwp_ret | (apply pwp_cond_t; rfl) | (apply pwp_cond_dec; rfl; all_goals (intro hc; try (first | (exfalso; omega)))) | (apply px_box; rfl; rfl; rfl; rfl; intro bk) | (apply px_alloc st_G; rfl; rfl; rfl; intro bk) | (apply px_store_str 0 st_G; rfl; rfl; rfl; rfl; rfl; (intro w hw; (first | refine all2 rfl ?_ ?_) <;> (first | rfl | exact stor_row 1 hw rfl)); rfl) | (apply px_store_str 3 st_G; rfl; rfl; rfl; rfl; rfl; (intro w hw; (first | refine all2 rfl ?_ ?_) <;> (first | rfl)); rfl) | (apply px_turns [0]; rfl; rfl; rfl; rfl; rfl; exact fun w ho => kS _ _ ho) | (apply px_gives; rfl; rfl; rfl; rfl; rfl; exact fun w hw => x_Clone_c _ _ _ (by first | exact arr_reader hw (k := 0) rfl hn7) hrl5; rintro cv _ rfl))
    refine qbody_cell_tmp 3 rfl st_G rfl rfl rfl rfl ⟨_, ⟨_, by rw [hZ, hB']; rfl, rfl⟩, fun w' h => ?_⟩
    rw [hL]
    exact (h.sub (List.nil_sublist _)).nilRow _
  | false =>
    rw [hbad] at hB
    have h9 : (cellsR s A.2)[9]? = some (.bool false) := by rw [← hbad]; rfl
    cases cg with
    | false =>
      have hB' : gocB s = false := hB
      rw [if_neg (by rw [hB']; exact Bool.false_ne_true)] at hZ hL
      repeat' (first | apply pwp_seq | apply pwp_region | (apply px_run; (first | (apply opv_len_str ty_str; rfl) | (apply opv_build_arr (cells := (cellsR s (0, fun _ => 0, false)).toArray) rfl; simp only [List.map_toArray, List.map_cons, List.map_nil, List.toList_toArray]; exact built_R s) | (apply opv_nilcheck; rfl) | (apply opv_field fld_R2; rfl) | (apply opv_field fld_R3; rfl) | (apply opv_slice_ptr Tryd.underlying61 sz_int (by decide); rfl; rfl; omega) | (first | (apply opv_load_blk 2 sc_boolR; rfl; rfl; exact h9)) | (apply opv_move; first | exact hid_int rfl | exact hid_bool rfl | exact hid_ptr rfl | rfl) | (apply opv_assign; first | exact hid_int rfl | exact hid_bool rfl | exact hid_ptr rfl | rfl) | (apply opv_gtr <;> rfl) | (apply opv_pick_t <;> rfl) | (apply opv_pick_f <;> rfl) | (apply opv_not <;> rfl) | (apply opv_load_str 0 st_G; rfl; rfl; rfl) | (apply opv_build2 bl_G; rfl; rfl; (first | exact rd_row 0 rfl)) | (apply opv_build0 bl_G) | (apply opv_extract; rfl; rfl) | (apply opv_call; rfl; rfl; exact Cl.stable _ _ _; exact fun w hw => kC _) | (apply opv_call; rfl; rfl; exact Cl.stable _ _ _; exact fun w hw => kL _ _ (by first | exact hw.rowArr (k := 1) rfl))); rfl; rfl) | apply px_nil | (apply px_skip; rfl; rfl) | apply qseq_normal | apply qseq_ret | apply pwp_skip | apply pwp_ret | (apply pwp_cond_t; rfl) | (apply pwp_cond_dec; rfl; all_goals (intro hc; try (first | (exfalso; omega)))) | (apply px_box; rfl; rfl; rfl; rfl; intro bk) | (apply px_alloc st_G; rfl; rfl; rfl; intro bk) | (apply px_store_str 0 st_G; rfl; rfl; rfl; rfl; rfl; (intro w hw; (first | refine all2 rfl ?_ ?_) <;> (first | rfl | exact stor_row 1 hw rfl)); rfl) | (apply px_store_str 3 st_G; rfl; rfl; rfl; rfl; rfl; (intro w hw; (first | refine all2 rfl ?_ ?_) <;> (first | rfl)); rfl) | (apply px_turns [0]; rfl; rfl; rfl; rfl; rfl; exact fun w ho => kS _ _ ho) | (apply px_gives; rfl; rfl; rfl; rfl; rfl; exact fun w hw => x_Clone_c _ _ _ (by first | exact arr_reader hw (k := 0) rfl hn7) hrl5; rintro cv _ rfl))
      refine qbody_cell_tmp 3 rfl st_G rfl rfl rfl rfl ⟨_, ⟨_, by rw [hZ, hB']; rfl, rfl⟩, fun w' h => ?_⟩
      rw [hL]
      exact (h.sub (List.nil_sublist _)).nilRow _
    | true =>
      cases eb with
      | false =>
        have hB' : gocB s = false := hB
        rw [if_neg (by rw [hB']; exact Bool.false_ne_true)] at hZ hL
        repeat' (first | apply pwp_seq | apply pwp_region | (apply px_run; (first | (apply opv_len_str ty_str; rfl) | (apply opv_build_arr (cells := (cellsR s (0, fun _ => 0, false)).toArray) rfl; simp only [List.map_toArray, List.map_cons, List.map_nil, List.toList_toArray]; exact built_R s) | (apply opv_nilcheck; rfl) | (apply opv_field fld_R2; rfl) | (apply opv_field fld_R3; rfl) | (apply opv_slice_ptr Tryd.underlying61 sz_int (by decide); rfl; rfl; omega) | (first | (apply opv_load_blk 2 sc_boolR; rfl; rfl; exact h9)) | (apply opv_neq_s_r; rfl; rfl; exact hE) | (apply opv_move; first | exact hid_int rfl | exact hid_bool rfl | exact hid_ptr rfl | rfl) | (apply opv_assign; first | exact hid_int rfl | exact hid_bool rfl | exact hid_ptr rfl | rfl) | (apply opv_gtr <;> rfl) | (apply opv_pick_f <;> rfl) | (apply opv_not <;> rfl) | (apply opv_load_str 0 st_G; rfl; rfl; rfl) | (apply opv_build2 bl_G; rfl; rfl; (first | exact rd_row 0 rfl)) | (apply opv_build0 bl_G) | (apply opv_extract; rfl; rfl) | (apply opv_call; rfl; rfl; exact Cl.stable _ _ _; exact fun w hw => kC _) | (apply opv_call; rfl; rfl; exact Cl.stable _ _ _; exact fun w hw => kL _ _ (by first | exact hw.rowArr (k := 1) rfl))); rfl; rfl) | apply px_nil | apply qseq_normal | apply qseq_ret | apply pwp_skip | apply pwp_ret | (apply pwp_cond_t; rfl) | (apply pwp_cond_dec; rfl; all_goals (intro hc; try (first | (exfalso; omega)))) | (apply px_box; rfl; rfl; rfl; rfl; intro bk) | (apply px_alloc st_G; rfl; rfl; rfl; intro bk) | (apply px_store_str 0 st_G; rfl; rfl; rfl; rfl; rfl; (intro w hw; (first | refine all2 rfl ?_ ?_) <;> (first | rfl | exact stor_row 1 hw rfl)); rfl) | (apply px_store_str 3 st_G; rfl; rfl; rfl; rfl; rfl; (intro w hw; (first | refine all2 rfl ?_ ?_) <;> (first | rfl)); rfl) | (apply px_turns [0]; rfl; rfl; rfl; rfl; rfl; exact fun w ho => kS _ _ ho) | (apply px_gives; rfl; rfl; rfl; rfl; rfl; exact fun w hw => x_Clone_c _ _ _ (by first | exact arr_reader hw (k := 0) rfl hn7) hrl5; rintro cv _ rfl))
        refine qbody_cell_tmp 3 rfl st_G rfl rfl rfl rfl ⟨_, ⟨_, by rw [hZ, hB']; rfl, rfl⟩, fun w' h => ?_⟩
        rw [hL]
        exact (h.sub (List.nil_sublist _)).nilRow _
      | true =>
        have hB' : gocB s = true := hB
        rw [if_pos hB'] at hZ hL
        repeat' (first | apply pwp_seq | apply pwp_region | (apply px_run; (first | (apply opv_len_str ty_str; rfl) | (apply opv_build_arr (cells := (cellsR s (0, fun _ => 0, false)).toArray) rfl; simp only [List.map_toArray, List.map_cons, List.map_nil, List.toList_toArray]; exact built_R s) | (apply opv_nilcheck; rfl) | (apply opv_field fld_R2; rfl) | (apply opv_field fld_R3; rfl) | (apply opv_slice_ptr Tryd.underlying61 sz_int (by decide); rfl; rfl; omega) | (first | (apply opv_load_blk 2 sc_boolR; rfl; rfl; exact h9)) | (apply opv_neq_s_r; rfl; rfl; exact hE) | (apply opv_move; first | exact hid_int rfl | exact hid_bool rfl | exact hid_ptr rfl | rfl) | (apply opv_assign; first | exact hid_int rfl | exact hid_bool rfl | exact hid_ptr rfl | rfl) | (apply opv_gtr <;> rfl) | (apply opv_pick_f <;> rfl) | (apply opv_not <;> rfl) | (apply opv_load_str 0 st_G; rfl; rfl; rfl) | (apply opv_build2 bl_G; rfl; rfl; (first | exact rd_row 0 rfl)) | (apply opv_extract; rfl; rfl) | (apply opv_call; rfl; rfl; exact Cl.stable _ _ _; exact fun w hw => kC _) | (apply opv_call; rfl; rfl; exact Cl.stable _ _ _; exact fun w hw => kL _ _ (by first | exact hw.rowArr (k := 1) rfl))); rfl; rfl) | apply px_nil | apply qseq_normal | apply pwp_skip | apply pwp_ret | (apply pwp_cond_f; rfl) | (apply pwp_cond_dec; rfl; all_goals (intro hc; try (first | (exfalso; omega)))) | (apply px_box; rfl; rfl; rfl; rfl; intro bk) | (apply px_alloc st_G; rfl; rfl; rfl; intro bk) | (apply px_store_str 0 st_G; rfl; rfl; rfl; rfl; rfl; (intro w hw; (first | refine all2 rfl ?_ ?_) <;> (first | rfl | exact stor_row 1 hw rfl)); rfl) | (apply px_store_str 3 st_G; rfl; rfl; rfl; rfl; rfl; (intro w hw; (first | refine all2 rfl ?_ ?_) <;> (first | rfl | exact stor_row 1 hw rfl)); rfl) | (apply px_turns [0]; rfl; rfl; rfl; rfl; rfl; exact fun w ho => kS _ _ ho) | (apply px_gives; rfl; rfl; rfl; rfl; rfl; exact fun w hw => x_Clone_c _ _ _ (by first | exact arr_reader hw (k := 0) rfl hn7) hrl5; rintro cv _ rfl))
        refine qbody_cell_tmp 3 rfl st_G rfl rfl rfl rfl ⟨_, ⟨_, by rw [hZ, hB']; rfl, rfl⟩, fun w' h => ?_⟩
        rw [hL]
        exact Cl.sub (by assumption) (by repeat (first | exact List.Sublist.slnil | exact List.Sublist.refl _ | apply List.Sublist.cons_cons | exact List.sublist_append_left _ _ | exact List.sublist_append_right _ _ | apply List.Sublist.cons))
end Go.Proofs.YthbhoofhenmbeaaDoor
