/- Structs in blocks of the call's own: zero values, fields, wholes, results. -/
import Derived.Test.YtoejpckfeflkaaaGreatDoorPwMem
namespace Go.Pw
open Go Go.RowKit

structure StrT (P : Program) (t : TypeId) (zs : List Value) : Prop where
  und : ∃ fs, P.underlying t = some (.struct fs)
  info : (P.info? t).map (fun i => (i.zero, i.size)) = some (some (.agg zs.toArray), zs.length)
theorem StrT.size {P : Program} {t : TypeId} {zs : List Value} (h : StrT P t zs) : (P.info? t).map (·.size) = some zs.length := by
  have := h.info
  cases hi : P.info? t with
  | none => rw [hi] at this; cases this
  | some i => rw [hi] at this; simp at this; simp [this.2]

section
variable {P : Program} {C : Cls} {ρ : Operand → Value} {X : List Nat} {w0 : World} {objs : List Ob} {d : Option Tmp} {t ty : TypeId} {pos : String} {af : Array Edge} {g : Option (Nat × Bool)} {x y : Operand}

theorem run_load_str {zs vs : List Value} {b : Nat} {w : World} (ht : StrT P t zs) {e : TypeId} (hg : w.heap[b]? = some (.cells vs.toArray e (0, 0))) (hl : vs.length = zs.length) : (loadVar t ⟨b, 0, none⟩).run P w = .ok (.agg vs.toArray) w := by
  obtain ⟨fs, hu⟩ := ht.und
  exact run_loadVar_row w b e t vs.toArray (0, 0) _ hg hu rfl (by rw [ht.size]; simp [hl])

theorem opv_load_str {zs vs : List Value} {b : Nat} (k : Nat) (ht : StrT P t zs) (hx : ρ x = .pointer (some ⟨b, 0, none⟩)) (hn : nthOb objs k = some (.blk b vs)) (hl : vs.length = zs.length) :
    Opv P (Cl X w0 objs) ρ ⟨d, .load t x, ty, pos, af, g⟩ (.agg vs.toArray) := opv_of_run fun w hC => by
  obtain ⟨e, hg⟩ := hC.holds _ (nthOb_mem hn)
  simp [execOp, hx, Instr.loadAt, Instr.sureAddr, run_load_str ht hg hl]
end

section
variable {P : Program} {n : Nat} {ops : List Oper} {l : List Oper} {Q : Post} {E : Env} {X : List Nat} {w0 : World} {objs : List Ob} {d : Option Nat} {t ty e : TypeId} {pos : String} {af : Array Edge} {g : Option (Nat × Bool)} {x y z : Operand}

theorem px_alloc {md : Md} {zs : List Value} (ht : StrT P t zs) (hmd : mdOk md (.alloc t) = true) (hw : wantE ops E g = true) (hd : okDst d n = true)
    (h : ∀ b, Px P n ops md l Q (updo E d (.pointer (some ⟨b, 0, none⟩))) (Cl X w0 (.blk b zs :: objs))) : Px P n ops md (⟨d, .alloc t, ty, pos, af, g⟩ :: l) Q E (Cl X w0 objs) :=
  px_opN hmd hw hd fun w hC => ⟨_, w.alloc (.cells zs.toArray t), Cl X w0 (.blk w.heap.size zs :: objs), by
      have hz : (zeroValue t).run P w = .ok (.agg zs.toArray) w := by
        have := ht.info
        cases hi : P.info? t with
        | none => rw [hi] at this; cases this
        | some i => rw [hi] at this; simp at this; simp [zeroValue, typeInfo, hi, this.1]
      simp [execOp, Instr.alloc, hz, newVar, newRow, go_sem],
    hC.push (below_alloc w _) _ ⟨t, heap_alloc_new w _⟩ (fun k hk => by obtain rfl := Option.some.inj hk; exact Nat.le_refl _), fun w hw => hw.sub (List.sublist_cons_self _ _), h w.heap.size⟩

theorem cells_sizeOf {w : World} (h : P.cellsOf t = 1) : (sizeOf t).run P w = .ok 1 w := by
  unfold Program.cellsOf at h
  cases hi : P.info? t with
  | none => rw [hi] at h; cases h
  | some ti => rw [hi] at h; simp at h; simp [sizeOf, typeInfo, hi, h]

/-- A store of one cell into a block of the call's own. -/
theorem px_store_blk {b i : Nat} {v : Value} {vs : List Value} (k : Nat) (hsz : P.cellsOf t = 1) (hx : ev E x = .pointer (some ⟨b, i, none⟩)) (hy : ev E y = v) (hn : nthOb objs k = some (.blk b vs)) (h1 : ∀ w, Cl X w0 objs w → storable v = true) (hi : Nat.blt i vs.length = true)
    (hw : wantE ops E g = true) (h : Px P n ops .seq l Q E (Cl X w0 (setOb objs k (.blk b (vs.set i v))))) : Px P n ops .seq (⟨none, .store t x y, ty, pos, af, g⟩ :: l) Q E (Cl X w0 objs) :=
  px_op_skip hw rfl fun w hC => by
    have hi' : i < vs.length := by simpa [Nat.blt_eq] using hi
    obtain ⟨e, hg⟩ := hC.holds _ (nthOb_mem hn)
    have hc : w.cell? ⟨b, i, none⟩ = some vs[i] := by rw [cell_of_row w b i _ e (0, 0) hg]; simp [hi']
    have hfz : w.frozen? ⟨b, i, none⟩ = false := by simp [World.frozen?, hg]
    refine ⟨w.setCell ⟨b, i, none⟩ v, _, ?_, ?_, h⟩
    · simp only [execOp, hx, hy, Instr.storeAt, Instr.sureAddr, Sem.run_bind, Sem.run_pure, Result.andThen_ok, storeVar, cells_sizeOf hsz, storable_cells (h1 w hC)]
      simp [run_storeCells_one (P := P) (h1 w hC) hc hfz]
    · refine hC.turnAt hn (by rw [World.setCell]; simp) rfl rfl rfl (fun j hj hne => Below.heap_setCell _ _ _ _ fun e => hne (by rw [e]; rfl)) ⟨e, ?_⟩ (fun j hj => .inl hj)
      simp [World.setCell, Array.getElem?_modify, hg]

theorem all1 {us : List Value} {a : Value} (h : us = [a]) (ha : storable a = true) : us.all storable = true := by subst h; simp [ha]
theorem all2 {us : List Value} {a b : Value} (h : us = [a, b]) (ha : storable a = true) (hb : storable b = true) : us.all storable = true := by subst h; simp [ha, hb]
theorem all3 {us : List Value} {a b c : Value} (h : us = [a, b, c]) (ha : storable a = true) (hb : storable b = true) (hc : storable c = true) : us.all storable = true := by subst h; simp [ha, hb, hc]

/-- A store of a whole struct. -/
theorem px_store_str {zs : List Value} {b : Nat} {vs us : List Value} (k : Nat) (ht : StrT P t zs) (hx : ev E x = .pointer (some ⟨b, 0, none⟩)) (hy : ev E y = .agg us.toArray) (hn : nthOb objs k = some (.blk b vs)) (hl : vs.length = zs.length) (hl' : us.length = zs.length)
    (h1 : ∀ w, Cl X w0 objs w → us.all storable = true) (hw : wantE ops E g = true) (h : Px P n ops .seq l Q E (Cl X w0 (setOb objs k (.blk b us)))) : Px P n ops .seq (⟨none, .store t x y, ty, pos, af, g⟩ :: l) Q E (Cl X w0 objs) :=
  px_op_skip hw rfl fun w hC => by
    obtain ⟨e, hg⟩ := hC.holds _ (nthOb_mem hn)
    have hr := run_storeVar_row (P := P) w b e t vs.toArray us.toArray hg (by rw [ht.size]; simp [hl']) (by simp [hl, hl']) (by
      simp only [List.all_toArray']
      refine List.all_eq_true.2 fun u hu => ?_
      have := List.all_eq_true.1 (h1 w hC) u hu
      cases u <;> first | rfl | cases this)
    refine ⟨w.setRow b us.toArray, _, ?_, ?_, h⟩
    · simp [execOp, hx, hy, Instr.storeAt, Instr.sureAddr, hr]
    · refine hC.turnAt hn (by simp [World.setRow]) rfl rfl rfl (fun j hj hne => setRow_other w b j _ (fun e => hne (by rw [e]; rfl))) ⟨e, ?_⟩ (fun j hj => .inl hj)
      exact setRow_heap w b _ _ e _ hg

variable {fn : Func} {R : Value → Cls → Prop} {C : Cls}
theorem qbody_cell {p : Tmp} {zs vs : List Value} {b : Nat} (k : Nat) (hr : fn.results = #[.cell p t]) (ht : StrT P t zs) (hE : E p = .pointer (some ⟨b, 0, none⟩)) (hn : nthOb objs k = some (.blk b vs)) (hl : vs.length = zs.length)
    (h : R (.agg vs.toArray) (Cl X w0 objs)) : qbody P fn R .ret E (Cl X w0 objs) := by
  unfold qbody
  refine ⟨_, fun a w ha hC => ?_, h⟩
  obtain ⟨e, hg⟩ := Cl.holds hC _ (nthOb_mem hn)
  have ha' : a.tmps[p]?.getD undef = .pointer (some ⟨b, 0, none⟩) := by rw [← Array.getD_eq_getD_getElem?, ha p, hE]
  simp [results, hr, ha', asAddr, run_load_str ht hg hl]
theorem qbody_cell_tmp {p u : Tmp} {zs vs : List Value} {v : Value} {b : Nat} (k : Nat) (hr : fn.results = #[.cell p t, .tmp u]) (ht : StrT P t zs) (hE : E p = .pointer (some ⟨b, 0, none⟩)) (hE' : E u = v) (hn : nthOb objs k = some (.blk b vs)) (hl : vs.length = zs.length)
    (h : R (.tuple #[.agg vs.toArray, v]) (Cl X w0 objs)) : qbody P fn R .ret E (Cl X w0 objs) := by
  unfold qbody
  refine ⟨_, fun a w ha hC => ?_, h⟩
  obtain ⟨e, hg⟩ := Cl.holds hC _ (nthOb_mem hn)
  rw [results_cell_tmp hr, ha p, ha u, hE, hE']
  simp [asAddr, run_load_str ht hg hl]
end
end Go.Pw
