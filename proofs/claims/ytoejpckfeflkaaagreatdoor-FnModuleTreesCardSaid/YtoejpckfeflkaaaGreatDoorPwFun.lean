/- Calls of function values; pairs; boxes of one cell. -/
import Derived.Test.YtoejpckfeflkaaaGreatDoorPwTurn
namespace Go.Pw
open Go Go.RowKit

section
variable {P : Program} {C : Cls} {ρ : Operand → Value} {d : Option Tmp} {t ty : TypeId} {pos : String} {af : Array Edge} {g : Option (Nat × Bool)} {x y : Operand} {m n : Int}

theorem run_callx {f : FuncId} {cs : List Value} {args : Array Operand} {ats : Array TypeId} (hf : Entry P f) (hρ : ρ x = .func (.func f) #[] cs.toArray) (w : World) :
    (execOp ρ ⟨d, .call { callee := .value x, args := args, argTypes := ats }, ty, pos, af, g⟩).run P w = .ok (.enter f (args.map ρ ++ cs.toArray)) w := by
  obtain ⟨fn, h1, h2, h3⟩ := hf
  have h3' : fn.body ≠ none := by intro e; rw [e] at h3; cases h3
  simp only [beq_eq_false_iff_ne, ne_eq] at h2
  simp [execOp, go_sem, resolve, hρ, Deferred.ofValue, invoke, callFunc, h1, h2, h3']

/-- A call of a function value that hands back one value. -/
theorem opv_callx {f : FuncId} {cs : List Value} {args : List Operand} {ats : Array TypeId} {avs : List Value} {v : Value} (hρ : ρ x = .func (.func f) #[] cs.toArray) (ha : evl ρ args = avs) (hS : Stable C) (h : ∀ w, C w → Pure P f (avs ++ cs).toArray w v) :
    Opv P C ρ ⟨d, .call { callee := .value x, args := args.toArray, argTypes := ats }, ty, pos, af, g⟩ v := by
  refine ⟨fun w hw => ?_⟩
  rw [run_callx (h w hw).entry hρ]
  refine ⟨rfl, ?_⟩
  rw [evl_eq, ha]
  have := (h w hw).out
  simp only [List.append_toArray] at this ⊢
  exact this.mono fun e w' ⟨he, hb⟩ => ⟨he, hS _ _ hw hb⟩

theorem opv_extract {vs : List Value} {i : Nat} {v : Value} (hx : ρ x = .tuple vs.toArray) (hi : vs[i]? = some v) : Opv P C ρ ⟨d, .extract x i, ty, pos, af, g⟩ v :=
  opv_of_run fun w _ => by simp [execOp, go_sem, hx, Instr.extract, hi]
theorem opv_make_func {fn : Fn} {cs : List Operand} {vs : List Value} (hc : evl ρ cs = vs) : Opv P C ρ ⟨d, .makeFunc fn #[] cs.toArray, ty, pos, af, g⟩ (.func fn #[] vs.toArray) :=
  opv_of_run fun w _ => by
    have := evl_eq ρ cs
    rw [hc] at this
    simp only [List.map_toArray] at this
    simp [execOp, go_sem, Instr.makeFunc, this]
end

section
variable {P : Program} {n : Nat} {ops : List Oper} {l : List Oper} {Q : Post} {E : Env} {X : List Nat} {w0 : World} {objs : List Ob} {d : Option Nat} {t ty e : TypeId} {pos : String} {af : Array Edge} {g : Option (Nat × Bool)} {x : Operand}
/-- A box of one cell. -/
theorem px_box1 {md : Md} {v : Value} (hx : ev E x = v) (hv : ∀ w, Cl X w0 objs w → storable v = true) (hmd : mdOk md (.box t x) = true) (hw : wantE ops E g = true) (hd : okDst d n = true)
    (h : ∀ b, Px P n ops md l Q (updo E d (.pointer (some ⟨b, 0, Option.none⟩))) (Cl X w0 (.blk b [v] :: objs))) : Px P n ops md (⟨d, .box t x, ty, pos, af, g⟩ :: l) Q E (Cl X w0 objs) :=
  px_opN hmd hw hd fun w hC => ⟨_, w.alloc (.cells #[v] t), Cl X w0 (.blk w.heap.size [v] :: objs), by have hs := hv w hC; cases v <;> first | (cases hs; done) | simp [execOp, go_sem, hx],
    hC.push (below_alloc w _) _ ⟨t, heap_alloc_new w _⟩ (fun k hk => by obtain rfl := Option.some.inj hk; exact Nat.le_refl _), fun w hw => hw.sub (List.sublist_cons_self _ _), h w.heap.size⟩
end

/-- A block that was there before the call. -/
structure Bk (w : World) (b : Nat) (vs : List Value) : Prop where
  out : (Ob.blk b vs).holds w
theorem Bk.below {w w' : World} {b : Nat} {vs : List Value} (h : Bk w b vs) (hb : Below w.heap.size w w') : Bk w' b vs :=
  ⟨Ob.kept h.out fun k hk => hb.block k (Ob.lt h.out k hk)⟩
theorem Cl.bk {X : List Nat} {w0 w : World} {objs : List Ob} (h : Cl X w0 objs w) {k : Nat} {b : Nat} {vs : List Value} (hn : nthOb objs k = some (.blk b vs)) : Bk w b vs := ⟨h.holds _ (nthOb_mem hn)⟩
theorem Cl.oldBk {w0 w : World} {objs : List Ob} {b : Nat} {vs : List Value} (h : Cl [] w0 objs w) (hb : Bk w0 b vs) : Bk w b vs := hb.below h.below
theorem Bk.cell {w : World} {b : Nat} {vs : List Value} (h : Bk w b vs) (i : Nat) : w.cell? ⟨b, i, Option.none⟩ = vs[i]? := by
  obtain ⟨e, h1⟩ := h.out
  rw [cell_of_row w b i _ e (0, 0) h1]
  simp
section
variable {P : Program} {ρ : Operand → Value} {d : Option Tmp} {t ty : TypeId} {pos : String} {af : Array Edge} {g : Option (Nat × Bool)} {x : Operand} {w0 : World} {objs : List Ob}
theorem opv_load_old {v : Value} {b i : Nat} {vs : List Value} (ht : Scalar P t) (hx : ρ x = .pointer (some ⟨b, i, none⟩)) (h : Bk w0 b vs) (hi : vs[i]? = some v) :
    Opv P (Cl [] w0 objs) ρ ⟨d, .load t x, ty, pos, af, g⟩ v := opv_load ht hx fun _ hw => by rw [(hw.oldBk h).cell, hi]
theorem opv_load_old_str {zs vs : List Value} {b : Nat} (ht : StrT P t zs) (hx : ρ x = .pointer (some ⟨b, 0, none⟩)) (h : Bk w0 b vs) (hl : vs.length = zs.length) :
    Opv P (Cl [] w0 objs) ρ ⟨d, .load t x, ty, pos, af, g⟩ (.agg vs.toArray) := opv_of_run fun w hC => by
  obtain ⟨e, hg⟩ := (hC.oldBk h).out
  simp [execOp, hx, Instr.loadAt, Instr.sureAddr, run_load_str ht hg hl]
end
end Go.Pw
