/- What a call owns: boxes and rows of one-cell elements; what it reads. -/
import Derived.Test.YtoejpckfeflkaaaGreatDoorPwOps
namespace Go.Pw
open Go Go.RowKit

def fitsB : Value → Bool
  | .slice _ l c => Nat.ble l c
  | _ => true
/-- A slice of one-cell elements that reads as a list of cells. -/
structure Arr (w : World) (sv : Value) (vs : List Value) : Prop where
  fits : fitsB sv = true
  out : (vs = [] ∧ ∃ ao cap, sv = .slice ao 0 cap ∧ (ao = none → cap = 0)) ∨
    ∃ b off cap, sv = .slice (some ⟨b, off, none⟩) vs.length cap ∧ 0 < vs.length ∧ vs.length ≤ maxLen ∧ ∀ i, i < vs.length → w.cell? ⟨b, off + i, none⟩ = vs[i]?

theorem Arr.below {w w' : World} {sv : Value} {vs : List Value} (h : Arr w sv vs) (hb : Below w.heap.size w w') : Arr w' sv vs := by
  have h0 := h.fits
  rcases h.out with h | ⟨b, off, cap, h1, h2, h3, h4⟩
  · exact ⟨h0, .inl h⟩
  · refine ⟨h0, .inr ⟨b, off, cap, h1, h2, h3, fun i hi => ?_⟩⟩
    have hlt : b < w.heap.size := World.block_lt_of_cell? w ⟨b, off + i, none⟩ (u := vs[i]) (by rw [h4 i hi]; simp [hi])
    rw [hb.cell hlt]; exact h4 i hi

section
variable {P : Program}
def storable : Value → Bool
  | .int _ _ | .bool _ | .slice _ _ _ | .string _ | .pointer _ | .func _ _ _ | .nilFunc => true
  | _ => false
theorem storable_cells {v : Value} (h : storable v = true) : v.cells = #[v] := by cases v <;> first | rfl | cases h
theorem run_storeCells_one {w : World} {a : Addr} {u v : Value} (h : storable v = true) (hc : w.cell? a = some u) (hfz : w.frozen? a = false) : (storeCells a [v]).run P w = .ok () (w.setCell a v) := by
  have h1 : v.oneCell' = true := by cases v <;> first | rfl | cases h
  have h2 : (store a v).run P w = .ok () (w.setCell a v) := by rw [run_store P w a v _ h1, hc]; simp [hfz]
  have h3 : a.add 0 = a := by simp [Addr.add]
  simp [storeCells, h3, h2]

end

/-- What the call owns. -/
inductive Ob where
  | blk (b : Nat) (vs : List Value)
  | row (e : TypeId) (sv : Value) (vs : List Value)

def Ob.block : Ob → Option Nat
  | .blk b _ => some b
  | .row _ sv _ => sv.ownBlock

def Ob.holds (w : World) : Ob → Prop
  | .blk b vs => ∃ e, w.heap[b]? = some (.cells vs.toArray e (0, 0))
  | .row e sv vs => w.ownsRow 0 e 1 sv vs.length vs

def Ob.apart (a b : Ob) : Prop := a.block = none ∨ b.block = none ∨ a.block ≠ b.block

theorem Ob.lt {w : World} {o : Ob} (h : o.holds w) : ∀ k, o.block = some k → k < w.heap.size := by
  intro k hk
  cases o with
  | blk b vs =>
    obtain rfl := Option.some.inj hk
    obtain ⟨e, h2⟩ := h
    exact (Array.getElem?_eq_some_iff.1 h2).1
  | row e sv vs => exact (World.ownsRow.lt h k hk).2

/-- An object stays where its block does. -/
theorem Ob.kept {w w' : World} {o : Ob} (h : o.holds w) (hk : ∀ k, o.block = some k → w'.heap[k]? = w.heap[k]?) : o.holds w' := by
  cases o with
  | blk b vs =>
    obtain ⟨e, h2⟩ := h
    exact ⟨e, by rw [hk b rfl]; exact h2⟩
  | row e sv vs =>
    obtain ⟨h1, h2⟩ := h
    refine ⟨h1, ?_⟩
    rcases h2 with h2 | ⟨g, cap, cur, rfl, h3, h4, h5⟩
    · exact .inl h2
    · exact .inr ⟨g, cap, cur, rfl, h3, by rw [hk g rfl]; exact h4, h5⟩

/-- 'w' is 'w0' with new blocks; of the old ones only those of X may have turned; the objects hold, in blocks of X or new ones, each in its own. -/
structure Cl (X : List Nat) (w0 : World) (objs : List Ob) (w : World) : Prop where
  os : w.os = w0.os
  tape : w.tape = w0.tape
  output : w.output = w0.output
  size : w0.heap.size ≤ w.heap.size
  frame : ∀ k, k < w0.heap.size → k ∉ X → w.heap[k]? = w0.heap[k]?
  holds : ∀ o ∈ objs, o.holds w
  fresh : ∀ o ∈ objs, ∀ k, o.block = some k → k ∈ X ∨ w0.heap.size ≤ k
  apart : objs.Pairwise Ob.apart

theorem Cl.start (w : World) : Cl [] w [] w := ⟨rfl, rfl, rfl, Nat.le_refl _, fun _ _ _ => rfl, fun _ h => (List.not_mem_nil h).elim, fun _ h => (List.not_mem_nil h).elim, .nil⟩

theorem Cl.below {w0 w : World} {objs : List Ob} (h : Cl [] w0 objs w) : Below w0.heap.size w0 w := ⟨h.os, h.tape, h.output, h.size, fun k hk => h.frame k hk (List.not_mem_nil)⟩

theorem Cl.stable (X : List Nat) (w0 : World) (objs : List Ob) : Stable (Cl X w0 objs) := fun _ _ h hb =>
  ⟨hb.os.trans h.os, hb.tape.trans h.tape, hb.output.trans h.output, Nat.le_trans h.size hb.size, fun k hk hx => (hb.block k (Nat.lt_of_lt_of_le hk h.size)).trans (h.frame k hk hx),
    fun o ho => Ob.kept (h.holds o ho) fun k hk => hb.block k (Ob.lt (h.holds o ho) k hk), h.fresh, h.apart⟩

/-- New objects in new blocks. -/
theorem Cl.app {X : List Nat} {w0 w w' : World} {objs objs' : List Ob} (h : Cl X w0 objs w) (h' : Cl [] w objs' w') : Cl X w0 (objs' ++ objs) w' := by
  have h1 := Cl.stable X w0 objs w w' h h'.below
  refine ⟨h1.os, h1.tape, h1.output, h1.size, h1.frame, fun x hx => ?_, fun x hx k hk => ?_, ?_⟩
  · rcases List.mem_append.1 hx with hx | hx
    · exact h'.holds x hx
    · exact h1.holds x hx
  · rcases List.mem_append.1 hx with hx | hx
    · rcases h'.fresh x hx k hk with h2 | h2
      · exact (List.not_mem_nil h2).elim
      · exact .inr (Nat.le_trans h.size h2)
    · exact h.fresh x hx k hk
  · refine List.pairwise_append.2 ⟨h'.apart, h.apart, fun a ha b hb => ?_⟩
    cases hak : a.block with
    | none => exact .inl hak
    | some k =>
      cases hbk : b.block with
      | none => exact .inr (.inl hbk)
      | some j =>
        have h2 := Ob.lt (h.holds b hb) j hbk
        rcases h'.fresh a ha k hak with h3 | h3
        · exact (List.not_mem_nil h3).elim
        · refine .inr (.inr ?_)
          rw [hak, hbk]
          intro e
          have := Option.some.inj e
          omega

theorem Cl.one {w w' : World} (hb : Below w.heap.size w w') (o : Ob) (ho : o.holds w') (hf : ∀ k, o.block = some k → w.heap.size ≤ k) : Cl [] w [o] w' :=
  ⟨hb.os, hb.tape, hb.output, hb.size, fun k hk _ => hb.block k hk, fun x hx => by obtain rfl := List.mem_singleton.1 hx; exact ho, fun x hx k hk => by obtain rfl := List.mem_singleton.1 hx; exact .inr (hf k hk), List.pairwise_singleton _ _⟩
theorem Cl.none {w w' : World} (hb : Below w.heap.size w w') : Cl [] w [] w' :=
  ⟨hb.os, hb.tape, hb.output, hb.size, fun k hk _ => hb.block k hk, fun _ h => (List.not_mem_nil h).elim, fun _ h => (List.not_mem_nil h).elim, .nil⟩

/-- A new object in a new block. -/
theorem Cl.push {X : List Nat} {w0 w w' : World} {objs : List Ob} (h : Cl X w0 objs w) (hb : Below w.heap.size w w') (o : Ob) (ho : o.holds w') (hf : ∀ k, o.block = some k → w.heap.size ≤ k) : Cl X w0 (o :: objs) w' :=
  h.app (Cl.one hb o ho hf)

theorem Cl.sub {X : List Nat} {w0 w : World} {objs objs' : List Ob} (h : Cl X w0 objs w) (hs : List.Sublist objs' objs) : Cl X w0 objs' w :=
  ⟨h.os, h.tape, h.output, h.size, h.frame, fun o ho => h.holds o (hs.subset ho), fun o ho => h.fresh o (hs.subset ho), h.apart.sublist hs⟩

theorem Cl.perm {X : List Nat} {w0 w : World} {objs objs' : List Ob} (h : Cl X w0 objs w) (hs : List.Perm objs objs') : Cl X w0 objs' w :=
  ⟨h.os, h.tape, h.output, h.size, h.frame, fun o ho => h.holds o (hs.mem_iff.2 ho), fun o ho => h.fresh o (hs.mem_iff.2 ho),
    (hs.pairwise_iff (fun {a b} hab => by rcases hab with h | h | h; exact .inr (.inl h); exact .inl h; exact .inr (.inr fun e => h e.symm))).1 h.apart⟩

/-- The first object turns; its block stays, or is new. -/
theorem Cl.turn {X : List Nat} {w0 w w' : World} {o o' : Ob} {objs : List Ob} (h : Cl X w0 (o :: objs) w) (hsz : w.heap.size ≤ w'.heap.size) (hos : w'.os = w.os) (htp : w'.tape = w.tape) (hout : w'.output = w.output)
    (hb : ∀ k, k < w.heap.size → some k ≠ o.block → w'.heap[k]? = w.heap[k]?) (ho : o'.holds w') (hf : ∀ k, o'.block = some k → o.block = some k ∨ w.heap.size ≤ k) : Cl X w0 (o' :: objs) w' := by
  have hh := h.holds o (List.mem_cons_self ..)
  have hap := List.pairwise_cons.1 h.apart
  refine ⟨hos.trans h.os, htp.trans h.tape, hout.trans h.output, Nat.le_trans h.size hsz, fun k hk hx => (hb k (Nat.lt_of_lt_of_le hk h.size) fun e => ?_).trans (h.frame k hk hx), fun x hx => ?_, fun x hx k hk => ?_, ?_⟩
  · rcases h.fresh o (List.mem_cons_self ..) k e.symm with h1 | h1
    · exact hx h1
    · omega
  · rcases List.mem_cons.1 hx with rfl | hx
    · exact ho
    · refine Ob.kept (h.holds x (List.mem_cons_of_mem _ hx)) fun k hk => hb k (Ob.lt (h.holds x (List.mem_cons_of_mem _ hx)) k hk) fun e => ?_
      rcases hap.1 x hx with h1 | h1 | h1
      · rw [h1] at e; cases e
      · rw [h1] at hk; cases hk
      · exact h1 (by rw [hk, e])
  · rcases List.mem_cons.1 hx with rfl | hx
    · rcases hf k hk with h1 | h1
      · exact h.fresh o (List.mem_cons_self ..) k h1
      · exact .inr (Nat.le_trans h.size h1)
    · exact h.fresh x (List.mem_cons_of_mem _ hx) k hk
  · refine List.pairwise_cons.2 ⟨fun x hx => ?_, hap.2⟩
    cases hbk : o'.block with
    | none => exact .inl hbk
    | some k =>
      cases hxk : x.block with
      | none => exact .inr (.inl hxk)
      | some j =>
        refine .inr (.inr ?_)
        rw [hbk, hxk]
        intro e
        obtain rfl := Option.some.inj e
        rcases hf k hbk with h1 | h1
        · rcases hap.1 x hx with h2 | h2 | h2
          · rw [h2] at h1; cases h1
          · rw [h2] at hxk; cases hxk
          · exact h2 (by rw [h1, hxk])
        · have := Ob.lt (h.holds x (List.mem_cons_of_mem _ hx)) k hxk
          omega

/-- Object number k. -/
def nthOb : List Ob → Nat → Option Ob
  | [], _ => Option.none
  | o :: _, 0 => some o
  | _ :: r, k + 1 => nthOb r k
def setOb : List Ob → Nat → Ob → List Ob
  | [], _, _ => []
  | _ :: r, 0, o => o :: r
  | x :: r, k + 1, o => x :: setOb r k o
theorem nthOb_mem : ∀ {l : List Ob} {k : Nat} {o : Ob}, nthOb l k = some o → o ∈ l
  | x :: r, 0, o, h => by obtain rfl := Option.some.inj h; exact List.mem_cons_self ..
  | x :: r, k + 1, o, h => List.mem_cons_of_mem _ (nthOb_mem (l := r) h)
def dropOb : List Ob → Nat → List Ob
  | [], _ => []
  | _ :: r, 0 => r
  | x :: r, k + 1 => x :: dropOb r k
theorem setOb_perm : ∀ (l : List Ob) (k : Nat) (o o' : Ob), nthOb l k = some o → List.Perm (setOb l k o') (o' :: dropOb l k) ∧ List.Perm l (o :: dropOb l k)
  | x :: r, 0, o, o', h => by obtain rfl := Option.some.inj h; exact ⟨List.Perm.refl _, List.Perm.refl _⟩
  | x :: r, k + 1, o, o', h => by
    obtain ⟨h1, h2⟩ := setOb_perm r k o o' h
    exact ⟨(h1.cons x).trans (.swap _ _ _), (h2.cons x).trans (.swap _ _ _)⟩

theorem Cl.turnAt {X : List Nat} {w0 w w' : World} {o o' : Ob} {objs : List Ob} {k : Nat} (h : Cl X w0 objs w) (hn : nthOb objs k = some o) (hsz : w.heap.size ≤ w'.heap.size) (hos : w'.os = w.os) (htp : w'.tape = w.tape) (hout : w'.output = w.output)
    (hb : ∀ k, k < w.heap.size → some k ≠ o.block → w'.heap[k]? = w.heap[k]?) (ho : o'.holds w') (hf : ∀ k, o'.block = some k → o.block = some k ∨ w.heap.size ≤ k) : Cl X w0 (setOb objs k o') w' :=
  ((h.perm (setOb_perm objs k o o' hn).2).turn hsz hos htp hout hb ho hf).perm (setOb_perm objs k o o' hn).1.symm

theorem Cl.arr {w0 w : World} {objs : List Ob} (h : Cl [] w0 objs w) {sv : Value} {vs : List Value} (ha : Arr w0 sv vs) : Arr w sv vs := ha.below h.below

theorem arr_of_row {w : World} {e : TypeId} {sv : Value} {vs : List Value} (h : (Ob.row e sv vs).holds w) : Arr w sv vs := by
  obtain ⟨h1, h2⟩ := h
  rcases h2 with ⟨h2, h3⟩ | ⟨g, cap, cur, rfl, h3, h4, h5, h6, h7, h8⟩
  · exact ⟨by subst h2; rfl, .inl ⟨List.eq_nil_of_length_eq_zero h3, Option.none, 0, h2, fun _ => rfl⟩⟩
  have hfit : fitsB (.slice (some ⟨g, 0, Option.none⟩) vs.length cap) = true := Nat.ble_eq_true_of_le (by omega)
  by_cases h0 : vs.length = 0
  · exact ⟨hfit, .inl ⟨List.eq_nil_of_length_eq_zero h0, some ⟨g, 0, Option.none⟩, cap, by rw [h0], fun h => by cases h⟩⟩
  · refine ⟨hfit, .inr ⟨g, 0, cap, rfl, by omega, by omega, fun i hi => ?_⟩⟩
    rw [Nat.zero_add, cell_of_row w g i cur e (0, 0) h4, ← h8]
    rw [List.getElem?_take, if_pos (by omega)]
    simp
theorem Cl.rowArr {X : List Nat} {w0 w : World} {objs : List Ob} (h : Cl X w0 objs w) {k : Nat} {e : TypeId} {sv : Value} {vs : List Value} (hn : nthOb objs k = some (.row e sv vs)) : Arr w sv vs :=
  arr_of_row (h.holds _ (nthOb_mem hn))

theorem stor_arr {w : World} {sv : Value} {vs : List Value} (h : Arr w sv vs) : storable sv = true := by
  rcases h.out with ⟨_, ao, cap, rfl, _⟩ | ⟨b, off, cap, rfl, _⟩ <;> rfl
theorem stor_row {X : List Nat} {w0 w : World} {objs : List Ob} (k : Nat) (h : Cl X w0 objs w) {e : TypeId} {sv : Value} {vs : List Value} (hn : nthOb objs k = some (.row e sv vs)) : storable sv = true := stor_arr (h.rowArr hn)

theorem Cl.blkCell {X : List Nat} {w0 w : World} {objs : List Ob} (h : Cl X w0 objs w) {k : Nat} {b : Nat} {vs : List Value} (hn : nthOb objs k = some (.blk b vs)) (i : Nat) : w.cell? ⟨b, i, Option.none⟩ = vs[i]? := by
  obtain ⟨e, h1⟩ := h.holds _ (nthOb_mem hn)
  rw [cell_of_row w b i _ e (0, 0) h1]
  simp

/-- What reads as a list in every world of a class. -/
structure Rd (C : Cls) (sv : Value) (vs : List Value) : Prop where
  out : ∀ w, C w → Arr w sv vs
theorem rd_old {w0 : World} {objs : List Ob} {sv : Value} {vs : List Value} (h : Arr w0 sv vs) : Rd (Cl [] w0 objs) sv vs := ⟨fun _ hw => hw.arr h⟩
theorem rd_row {X : List Nat} {w0 : World} {objs : List Ob} (k : Nat) {e : TypeId} {sv : Value} {vs : List Value} (hn : nthOb objs k = some (.row e sv vs)) : Rd (Cl X w0 objs) sv vs := ⟨fun _ hw => hw.rowArr hn⟩

def ints (l : List Int) : List Value := l.map (Value.int .i64)
@[simp] theorem ints_length (l : List Int) : (ints l).length = l.length := by simp [ints]
theorem ints_get (l : List Int) (i : Nat) (h : i < l.length) : (ints l)[i]? = some (.int .i64 (l.getD i 0)) := by
  simp [ints, h]

theorem Arr.len {w : World} {sv : Value} {l : List Int} (hr : Arr w sv (ints l)) : l.length ≤ 9223372036854775807 := by
  rcases hr.out with ⟨h, _⟩ | ⟨_, _, _, _, _, h, _⟩
  · have := congrArg List.length h; simp at this; simp [this]
  · simpa [maxLen] using h
theorem ret_false {b : Bool} {p : Prop} [Decidable p] (hb : b = false) (h : ¬p) : Value.bool b = Value.bool (decide p) := by
  subst hb; rw [decide_eq_false h]
theorem ret_true {b : Bool} {p : Prop} [Decidable p] (hb : b = true) (h : p) : Value.bool b = Value.bool (decide p) := by
  subst hb; rw [decide_eq_true h]

theorem stor_ints {l : List Int} : ∀ u ∈ ints l, storable u = true := by
  intro u hu
  obtain ⟨n, _, rfl⟩ := List.mem_map.1 hu
  rfl
theorem ints_snoc (l : List Int) (x : Int) : ints l ++ [Value.int .i64 x] = ints (l ++ [x]) := by simp [ints]
theorem ints_app (l m : List Int) : ints l ++ ints m = ints (l ++ m) := by simp [ints]

def addrOf (sv : Value) (i : Nat) : Addr := match sv with | .slice (some a) _ _ => ⟨a.block, a.off + i, none⟩ | _ => ⟨0, 0, none⟩

def Scalar (P : Program) (t : TypeId) : Prop := ∀ w, (isAgg t).run P w = .ok false w
theorem scalar_int {P : Program} {t : TypeId} {k : IntKind} (h : P.underlying t = some (.int k)) : Scalar P t := fun w => by simp [isAgg, run_underlying h]
theorem scalar_bool {P : Program} {t : TypeId} (h : P.underlying t = some .bool) : Scalar P t := fun w => by simp [isAgg, run_underlying h]
theorem scalar_string {P : Program} {t : TypeId} (h : P.underlying t = some .string) : Scalar P t := fun w => by simp [isAgg, run_underlying h]
theorem scalar_slice {P : Program} {t e : TypeId} (h : P.underlying t = some (.slice e)) : Scalar P t := fun w => by simp [isAgg, run_underlying h]
theorem scalar_func {P : Program} {t : TypeId} {a b : Array TypeId} {c : Bool} (h : P.underlying t = some (.func a b c)) : Scalar P t := fun w => by simp [isAgg, run_underlying h]

/-- The element type of a slice type, of one cell. -/
structure Elem1 (P : Program) (t e : TypeId) : Prop where
  und : P.underlying t = some (.slice e)
  info : ∃ i, P.info? e = some i ∧ i.size = 1

/-- A field's place. -/
structure Fld (P : Program) (t : TypeId) (f off : Nat) : Prop where
  out : ∃ fs fd i, P.underlying t = some (.struct fs) ∧ fs[f]? = some fd ∧ fd.offset = off ∧ P.info? fd.type = some i ∧ i.size ≠ 0

/-- A function that can be entered. -/
structure Entry (P : Program) (f : FuncId) : Prop where
  out : ∃ fn, P.funcs[f]? = some fn ∧ (fn.name == "runtime.NumGoroutine") = false ∧ fn.body.isNone = false

section
variable {P : Program} {C : Cls} {ρ : Operand → Value} {d : Option Tmp} {t t' ty : TypeId} {pos : String} {af : Array Edge} {g : Option (Nat × Bool)} {x y z : Operand} {m n : Int}

theorem opv_field {f off b o : Nat} (hF : Fld P t f off) (hx : ρ x = .pointer (some ⟨b, o, none⟩)) : Opv P C ρ ⟨d, .fieldAddr t x f, ty, pos, af, g⟩ (.pointer (some ⟨b, o + off, none⟩)) := by
  obtain ⟨fs, fd, i, h1, h2, rfl, h4, h5⟩ := hF
  exact opv_of_run fun w _ => by simp [execOp, go_sem, hx, run_underlying h1, h2, Instr.fieldAt, Instr.sureAddr, fieldPlace, sizeOf, typeInfo, h4, h5]

theorem opv_load {v : Value} {a : Addr} (ht : Scalar P t) (hx : ρ x = .pointer (some a)) (hc : ∀ w, C w → w.cell? a = some v) : Opv P C ρ ⟨d, .load t x, ty, pos, af, g⟩ v :=
  opv_of_run fun w hw => by simp [execOp, go_sem, hx, ht w, hc w hw]

theorem opv_load_blk {X : List Nat} {w0 : World} {objs : List Ob} {v : Value} {b i : Nat} {vs : List Value} (k : Nat) (ht : Scalar P t) (hx : ρ x = .pointer (some ⟨b, i, none⟩)) (hn : nthOb objs k = some (.blk b vs)) (hi : vs[i]? = some v) :
    Opv P (Cl X w0 objs) ρ ⟨d, .load t x, ty, pos, af, g⟩ v := opv_load ht hx fun _ hw => by rw [hw.blkCell hn, hi]

theorem opv_index {sv : Value} {vs : List Value} {e : TypeId} (ht : Elem1 P t e) (hx : ρ x = sv) (hy : ρ y = .int .i64 n) (hr : Rd C sv vs) (h0 : 0 ≤ n) (hn : n < vs.length) :
    Opv P C ρ ⟨d, .indexAddr t x y, ty, pos, af, g⟩ (.pointer (some (addrOf sv n.toNat))) := by
  obtain ⟨h1, i, h2, h3⟩ := ht
  refine opv_of_run fun w hw => ?_
  rcases (hr.out w hw).out with ⟨rfl, ao, cap, rfl, _⟩ | ⟨b, off, cap, rfl, _⟩
  · simp at hn; omega
  · simp [execOp, go_sem, hx, hy, run_underlying h1, h2, h3, h0, hn, Instr.indexAt, sizeOf, typeInfo, addrOf]
theorem opv_index_nat {sv : Value} {vs : List Value} {e : TypeId} {k : Nat} (ht : Elem1 P t e) (hx : ρ x = sv) (hy : ρ y = .int .i64 (k : Int)) (hr : Rd C sv vs) (hn : k < vs.length) :
    Opv P C ρ ⟨d, .indexAddr t x y, ty, pos, af, g⟩ (.pointer (some (addrOf sv k))) := by
  have := opv_index (P := P) (C := C) (d := d) (ty := ty) (pos := pos) (af := af) (g := g) ht hx hy hr (by omega) (by omega)
  rwa [Int.toNat_natCast] at this

/-- The first k places of a slice. -/
def takeV (sv : Value) (k : Nat) : Value := match sv with | .slice a _ c => .slice a k c | v => v
theorem arr_take {w : World} {sv : Value} {vs : List Value} {k : Nat} (h : Arr w sv vs) (hk : k ≤ vs.length) : Arr w (takeV sv k) (vs.take k) := by
  have h0 := h.fits
  rcases h.out with ⟨rfl, ao, cap, rfl, hz⟩ | ⟨b, off, cap, rfl, h2, h3, h4⟩
  · obtain rfl : k = 0 := by simpa using hk
    exact ⟨rfl, .inl ⟨by simp, ao, cap, rfl, hz⟩⟩
  · have hf : fitsB (.slice (some ⟨b, off, none⟩) k cap) = true := Nat.ble_eq_true_of_le (by have := Nat.le_of_ble_eq_true h0; omega)
    by_cases hk0 : k = 0
    · subst hk0
      exact ⟨hf, .inl ⟨by simp, some ⟨b, off, none⟩, cap, rfl, fun h => by cases h⟩⟩
    · have hl : (vs.take k).length = k := by rw [List.length_take]; omega
      refine ⟨hf, .inr ⟨b, off, cap, by rw [hl]; rfl, by omega, by omega, fun i hi => ?_⟩⟩
      rw [hl] at hi
      rw [h4 i (by omega), List.getElem?_take, if_pos hi]
theorem ints_take (l : List Int) (k : Nat) : (ints l).take k = ints (l.take k) := by simp [ints, List.map_take]
theorem arr_take_ints {w : World} {sv : Value} {l : List Int} {k : Nat} (h : Arr w sv (ints l)) (hk : k ≤ l.length) : Arr w (takeV sv k) (ints (l.take k)) := by
  rw [← ints_take]; exact arr_take h (by simpa using hk)
theorem rd_take {sv : Value} {l : List Int} {k : Nat} (hr : Rd C sv (ints l)) (hk : k ≤ l.length) : Rd C (takeV sv k) (ints (l.take k)) := ⟨fun w hw => arr_take_ints (hr.out w hw) hk⟩
/-- 's[:k]'. -/
theorem opv_take {sv : Value} {vs : List Value} {e : TypeId} {k : Nat} (ht : Elem1 P t e) (hx : ρ x = sv) (hy : ρ y = .int .i64 (k : Int)) (hr : Rd C sv vs) (hk : k ≤ vs.length) :
    Opv P C ρ ⟨d, .slice t x none (some y) none, ty, pos, af, g⟩ (takeV sv k) := by
  obtain ⟨h1, i, h2, h3⟩ := ht
  refine opv_of_run fun w hw => ?_
  have h0 := (hr.out w hw).fits
  rcases (hr.out w hw).out with ⟨rfl, ao, cap, rfl, _⟩ | ⟨b, off, cap, rfl, _⟩
  · obtain rfl : k = 0 := by simpa using hk
    simp [execOp, go_sem, hx, hy, run_underlying h1, h2, h3, Instr.sliceAt, Instr.slice, Instr.sliceBounds, Instr.sliceBound, sizeOf, typeInfo, takeV]
    try (split <;> simp)
  · have hkc : k ≤ cap := by have := Nat.le_of_ble_eq_true h0; omega
    simp [execOp, go_sem, hx, hy, run_underlying h1, h2, h3, hkc, Instr.sliceAt, Instr.slice, Instr.sliceBounds, Instr.sliceBound, sizeOf, typeInfo, takeV]
    try (split <;> simp)

theorem opv_load_arr {sv v : Value} {vs : List Value} {i : Nat} (ht : Scalar P t) (hx : ρ x = .pointer (some (addrOf sv i))) (hr : Rd C sv vs) (hi : vs[i]? = some v) : Opv P C ρ ⟨d, .load t x, ty, pos, af, g⟩ v :=
  opv_load ht hx fun w hw => by
    have hlt := (List.getElem?_eq_some_iff.1 hi).1
    rcases (hr.out w hw).out with ⟨rfl, _⟩ | ⟨b, off, cap, rfl, _, _, h4⟩
    · simp at hlt
    · rw [← hi]; exact h4 i hlt
theorem opv_load_ints {sv : Value} {l : List Int} {i : Nat} (ht : Scalar P t) (hx : ρ x = .pointer (some (addrOf sv i))) (hr : Rd C sv (ints l)) (hi : i < l.length) : Opv P C ρ ⟨d, .load t x, ty, pos, af, g⟩ (.int .i64 (l.getD i 0)) :=
  opv_load_arr ht hx hr (ints_get l i hi)

theorem opv_len {sv : Value} {vs : List Value} {e : TypeId} (ht : Elem1 P t e) (hx : ρ x = sv) (hr : Rd C sv vs) : Opv P C ρ ⟨d, .call { callee := .builtin .len, args := #[x], argTypes := #[t] }, ty, pos, af, g⟩ (.int .i64 (vs.length : Nat)) := by
  refine opv_of_run fun w hw => ?_
  rcases (hr.out w hw).out with ⟨rfl, ao, cap, rfl, _⟩ | ⟨b, off, cap, rfl, _⟩
  · simp [go_sem, hx, Builtin.len_, run_underlying ht.und]
  · simp [go_sem, hx, Builtin.len_, run_underlying ht.und]
theorem opv_len_ints {sv : Value} {l : List Int} {e : TypeId} (ht : Elem1 P t e) (hx : ρ x = sv) (hr : Rd C sv (ints l)) : Opv P C ρ ⟨d, .call { callee := .builtin .len, args := #[x], argTypes := #[t] }, ty, pos, af, g⟩ (.int .i64 (l.length : Nat)) := by
  have := opv_len (P := P) (C := C) (d := d) (ty := ty) (pos := pos) (af := af) (g := g) ht hx hr
  rwa [ints_length] at this

/-- The values of a call's arguments. -/
def evl (ρ : Operand → Value) : List Operand → List Value
  | [] => []
  | x :: r => ρ x :: evl ρ r
theorem evl_eq (ρ : Operand → Value) : ∀ l : List Operand, l.toArray.map ρ = (evl ρ l).toArray
  | [] => by simp [evl]
  | x :: r => by have := evl_eq ρ r; simp only [List.map_toArray, evl, List.map_cons] at this ⊢; rw [List.toArray_inj this]

theorem run_call {f : FuncId} {args : Array Operand} {ats : Array TypeId} (hf : Entry P f) (hρ : ρ (.func f) = .func (.func f) #[] #[]) (w : World) :
    (execOp ρ ⟨d, .call { callee := .value (.func f), args := args, argTypes := ats }, ty, pos, af, g⟩).run P w = .ok (.enter f (args.map ρ)) w := by
  obtain ⟨fn, h1, h2, h3⟩ := hf
  have h3' : fn.body ≠ none := by intro e; rw [e] at h3; cases h3
  simp only [beq_eq_false_iff_ne, ne_eq] at h2
  simp [execOp, go_sem, resolve, hρ, Deferred.ofValue, invoke, callFunc, h1, h2, h3']

/-- A call that hands back a value and leaves all that was there as it was. -/
structure Pure (P : Program) (f : FuncId) (args : Array Value) (w : World) (v : Value) : Prop where
  entry : Entry P f
  out : Calls P f args w (fun e w' => e = .returned v ∧ Below w.heap.size w w')

theorem opv_call {f : FuncId} {args : List Operand} {ats : Array TypeId} {avs : List Value} {v : Value} (hρ : ρ (.func f) = .func (.func f) #[] #[]) (ha : evl ρ args = avs) (hS : Stable C) (h : ∀ w, C w → Pure P f avs.toArray w v) :
    Opv P C ρ ⟨d, .call { callee := .value (.func f), args := args.toArray, argTypes := ats }, ty, pos, af, g⟩ v := by
  refine ⟨fun w hw => ?_⟩
  rw [run_call (h w hw).entry hρ]
  refine ⟨rfl, ?_⟩
  rw [evl_eq, ha]
  exact (h w hw).out.mono fun e w' ⟨he, hb⟩ => ⟨he, hS _ _ hw hb⟩
end

section
variable {P : Program} {n : Nat} {ops : List Oper} {l : List Oper} {Q : Post} {E : Env} {X : List Nat} {w0 : World} {objs : List Ob} {d : Option Nat} {t ty e : TypeId} {pos : String} {af : Array Edge} {g : Option (Nat × Bool)} {x y z : Operand}

theorem below_alloc (w : World) (o : Obj) : Below w.heap.size w (w.alloc o) := (Below.refl _ _).alloc (Nat.le_refl _) o
theorem below_grown {w w' : World} (h : w.grownBy w' Option.none) : Below w.heap.size w w' := ⟨h.os, h.tape, h.output, h.size, fun k hk => h.block k hk (fun e => by cases e)⟩

theorem px_box {md : Md} {vs : List Value} (hx : ev E x = .agg vs.toArray) (hmd : mdOk md (.box t x) = true) (hw : wantE ops E g = true) (hd : okDst d n = true)
    (h : ∀ b, Px P n ops md l Q (updo E d (.pointer (some ⟨b, 0, Option.none⟩))) (Cl X w0 (.blk b vs :: objs))) : Px P n ops md (⟨d, .box t x, ty, pos, af, g⟩ :: l) Q E (Cl X w0 objs) :=
  px_opN hmd hw hd fun w hC => ⟨_, w.alloc (.cells vs.toArray t), Cl X w0 (.blk w.heap.size vs :: objs), by simp [execOp, go_sem, hx],
    hC.push (below_alloc w _) _ ⟨t, heap_alloc_new w _⟩ (fun k hk => by obtain rfl := Option.some.inj hk; exact Nat.le_refl _), fun w hw => hw.sub (List.sublist_cons_self _ _), h w.heap.size⟩

/-- A one-cell element type: its zero. -/
structure ElemZ (P : Program) (t e : TypeId) (z : Value) (bytes : Nat) : Prop where
  und : P.underlying t = some (.slice e)
  info : (P.info? e).map (fun i => (i.zero, i.size, i.bytes)) = some (some z, 1, bytes)
  cell : z.cells = #[z]

theorem px_make {md : Md} {k : IntKind} {N : Nat} {zv : Value} {bytes : Nat} (he : ElemZ P t e zv bytes) (hx : ev E x = .int k (N : Int)) (hy : ev E y = .int k (N : Int)) (hmd : mdOk md (.makeSlice t x y) = true) (hw : wantE ops E g = true) (hd : okDst d n = true) (hb : bytes * N ≤ 281474976710656) (hm : N ≤ maxLen)
    (h : ∀ sv, Px P n ops md l Q (updo E d sv) (Cl X w0 (.row e sv (List.replicate N zv) :: objs))) : Px P n ops md (⟨d, .makeSlice t x y, ty, pos, af, g⟩ :: l) Q E (Cl X w0 objs) :=
  px_opN hmd hw hd fun w hC => by
    obtain ⟨i, hi, h1, h2, h3⟩ := info_parts he.info
    obtain ⟨w', hr, ho, hg⟩ := run_make_full (P := P) w 0 t e i zv 1 he.und hi h1 h2 k k N (by rw [h3]; exact hb) hm (Nat.zero_le _)
    rw [he.cell, Nat.mul_one, toList_madeCells_one] at ho
    refine ⟨_, w', Cl X w0 (.row e (.slice (some ⟨w.heap.size, 0, Option.none⟩) N N) (List.replicate N zv) :: objs), by simp [execOp, go_sem, hx, hy, hr], hC.push (below_grown hg) _ ?_ ?_, fun w hw => hw.sub (List.sublist_cons_self _ _), h _⟩
    · show World.ownsRow _ _ _ _ _ (List.replicate N zv).length _
      rw [List.length_replicate]; exact ho
    · intro k hk
      obtain rfl := Option.some.inj hk
      exact Nat.le_refl _

/-- A store into a row of the call's own. -/
theorem px_store_row {sv v : Value} {vs : List Value} {i : Nat} (k : Nat) (hsz : P.cellsOf t = 1) (hx : ev E x = .pointer (some (addrOf sv i))) (hy : ev E y = v) (hn : nthOb objs k = some (.row e sv vs)) (h1 : ∀ w, Cl X w0 objs w → storable v = true) (hi : i < vs.length)
    (hw : wantE ops E g = true) (h : Px P n ops .seq l Q E (Cl X w0 (setOb objs k (.row e sv (vs.set i v))))) : Px P n ops .seq (⟨Option.none, .store t x y, ty, pos, af, g⟩ :: l) Q E (Cl X w0 objs) :=
  px_op_skip hw rfl fun w hC => by
    have hh := hC.holds _ (nthOb_mem hn)
    have hh' : w.ownsRow 0 e 1 sv vs.length vs := hh
    obtain ⟨hl, h2⟩ := hh'
    rcases h2 with ⟨_, h3⟩ | ⟨b, cap, cur, rfl, h3, h4, h5, h6, h7, h8⟩
    · omega
    have hst := World.ownsRow.stored (w := w) (base := 0) (e := e) (size := 1) (g := b) (n := vs.length) (cap := cap) (xs := vs) ⟨hl, .inr ⟨b, cap, cur, rfl, h3, h4, h5, h6, h7, h8⟩⟩ i v
    have hc : w.cell? ⟨b, i, Option.none⟩ = some vs[i] := by
      rw [World.ownsRow.cellAt (w := w) (base := 0) (e := e) (size := 1) ⟨hl, .inr ⟨b, cap, cur, rfl, h3, h4, h5, h6, h7, h8⟩⟩ i (by omega)]
      simp
    have hfz : w.frozen? ⟨b, i, Option.none⟩ = false := World.ownsRow.frozenAt (w := w) (base := 0) (e := e) (size := 1) (n := vs.length) (cap := cap) (xs := vs) ⟨hl, .inr ⟨b, cap, cur, rfl, h3, h4, h5, h6, h7, h8⟩⟩ i
    refine ⟨w.setCell ⟨b, i, Option.none⟩ v, _, ?_, ?_, h⟩
    · have hx' : ev E x = .pointer (some ⟨b, i, Option.none⟩) := by rw [hx]; simp [addrOf]
      have hcells := storable_cells (h1 w hC)
      have hsz' : ∀ w, (sizeOf t).run P w = .ok 1 w := fun w => by
        unfold Program.cellsOf at hsz
        cases hi : P.info? t with
        | none => rw [hi] at hsz; cases hsz
        | some ti => rw [hi] at hsz; simp at hsz; simp [sizeOf, typeInfo, hi, hsz]
      have hst' := run_storeCells_one (P := P) (h1 w hC) hc hfz
      clear hst h
      simp only [execOp, hx', hy, Instr.storeAt, Instr.sureAddr, Sem.run_bind, Sem.run_pure, Result.andThen_ok, storeVar, hsz', hcells]
      simp [hst']
    · refine hC.turnAt hn (by rw [World.setCell]; simp) rfl rfl rfl (fun j hj hne => Below.heap_setCell _ _ _ _ fun e => hne (by rw [e]; rfl)) ?_ (fun j hj => .inl hj)
      have h9 := hst.1
      show World.ownsRow _ _ _ _ _ (vs.set i v).length _
      rw [List.length_set]; exact h9

/-- Where an append's row lies: in the old one's block, or in a new one. -/
theorem append_block {w w' : World} {i : TypeInfo} {zv sv v' : Value} {vs ys : List Value} {a : Addr} {c : Nat} (hu : P.underlying t = some (.slice e)) (hi : P.info? e = some i) (z1 : i.zero = some zv) (z2 : i.size = 1) (zc : zv.cells = #[zv])
    (hown : w.ownsRow 0 e 1 sv vs.length vs) (hnews : ∀ j u, ys[j]? = some u → w.cell? (a.add j) = some u) (h1 : ∀ u ∈ ys, u.oneCell' = true) (h63 : vs.length + ys.length ≤ maxLen) (hbytes : (vs.length + ys.length) * i.bytes ≤ 140737488355328)
    (hr : (Builtin.append_ #[t, t] ty #[sv, .slice (some a) ys.length c]).run P w = .ok v' w') : ∀ j, v'.ownBlock = some j → sv.ownBlock = some j ∨ w.heap.size ≤ j := by
  intro j hj
  rcases hown.2 with ⟨rfl, h0⟩ | ⟨b, cap, cur, rfl, hb, hg, hnc, hcm, hcs, htake⟩
  · right
    have hvs : vs = [] := List.eq_nil_of_length_eq_zero h0
    subst hvs
    obtain ⟨v2, w2, h2, h3, _, _⟩ := run_append_own (P := P) w w.heap.size t ty e i zv 1 i.bytes hu hi z1 z2 rfl (by rw [zc]; rfl) (by omega) (.slice none 0 0) 0 [] (World.ownsRow_nil w _ e 1) a ys.length c ys (by omega) hnews h1 (by simpa using h63) (by simpa using hbytes) (Nat.le_refl _)
    have h4 := hr.symm.trans h2
    obtain ⟨rfl, rfl⟩ := Result.ok.inj h4
    exact (World.ownsRow.lt h3 j hj).1
  · by_cases hroom : vs.length + ys.length ≤ cap
    · obtain ⟨w2, h2, _, _⟩ := run_append_fits (P := P) w 0 t ty e i 1 hu hi z2 b vs.length cap vs hown a ys.length c ys (Nat.mul_one _).symm hnews h1 hroom
      have h3 := hr.symm.trans h2
      obtain rfl := (Result.ok.inj h3).1
      exact .inl hj
    · have holds : ∀ j u, vs[j]? = some u → w.cell? ((⟨b, 0, none⟩ : Addr).add j) = some u := World.ownsRow.cells hown (g := b) rfl
      have e1 : vs.length = vs.length * i.size := by rw [z2, Nat.mul_one]
      have e2 : ys.length = ys.length * i.size := by rw [z2, Nat.mul_one]
      have e3 : ((vs.length + ys.length : Nat) : Int) ≤ 9223372036854775807 := by simp only [maxLen] at h63; omega
      have e4 : cap < vs.length + ys.length := by omega
      have h2 := run_append_grow (P := P) w t ty e i zv hu hi z1 ⟨b, 0, none⟩ vs.length cap vs e1 holds a ys.length c ys e2 hnews e4 e3 (growslice_fits e4 hbytes)
      have h3 := hr.symm.trans h2
      obtain rfl := (Result.ok.inj h3).1
      obtain rfl := Option.some.inj hj
      exact .inr (Nat.le_refl _)

/-- 'append(s, x...)' on a row of the call's own; x reads as a list. -/
theorem px_append {sv xv zv : Value} {vs ys : List Value} {bytes : Nat} (k : Nat) (he : ElemZ P t e zv bytes) (hx : ev E x = sv) (hy : ev E y = xv) (hn : nthOb objs k = some (.row e sv vs)) (hr : Rd (Cl X w0 objs) xv ys) (h1 : ∀ w, Cl X w0 objs w → ∀ u ∈ ys, storable u = true)
    (hm : (vs.length + ys.length) * bytes ≤ 140737488355328) (hb : 0 < bytes) (hw : wantE ops E g = true) (hd : okDst d n = true) (h : ∀ sv', Px P n ops .seq l Q (updo E d sv') (Cl X w0 (setOb objs k (.row e sv' (vs ++ ys))))) :
    Px P n ops .seq (⟨d, .call { callee := .builtin .append, args := #[x, y], argTypes := #[t, t] }, ty, pos, af, g⟩ :: l) Q E (Cl X w0 objs) :=
  px_op hw hd fun w hC => by
    obtain ⟨i, hi, z1, z2, z3⟩ := info_parts he.info
    have hown : w.ownsRow 0 e 1 sv vs.length vs := hC.holds _ (nthOb_mem hn)
    have hlen : vs.length + ys.length ≤ 140737488355328 := Nat.le_trans (Nat.le_mul_of_pos_right _ hb) hm
    have hone : ∀ u ∈ ys, u.oneCell' = true := fun u hu => by have := h1 w hC u hu; cases u <;> first | rfl | cases this
    have key : ∀ (a : Addr) (m c : Nat), xv = .slice (some a) m c → m = ys.length → (∀ j u, ys[j]? = some u → w.cell? (a.add j) = some u) →
        ∃ v w' C', (execOp (ev E) ⟨d, .call { callee := .builtin .append, args := #[x, y], argTypes := #[t, t] }, ty, pos, af, g⟩).run P w = .ok (.value v) w' ∧ C' w' ∧ Px P n ops .seq l Q (updo E d v) C' := by
      intro a m c hxv hmm hcells
      subst hmm
      have hml : vs.length + ys.length ≤ maxLen := by simp only [maxLen]; omega
      have hm' : (vs.length + ys.length) * i.bytes ≤ 140737488355328 := by rw [z3]; exact hm
      obtain ⟨v', w', hr', ho, hg, _⟩ := run_append_own (P := P) w 0 t ty e i zv 1 bytes he.und hi z1 z2 z3 (by rw [he.cell]; rfl) (by omega) sv vs.length vs hown a ys.length c ys (by omega) hcells hone (by simp only [maxLen]; omega) hm (Nat.zero_le _)
      refine ⟨v', w', _, ?_, ?_, h v'⟩
      · subst hxv
        simp [execOp, resolve, invoke, builtin, hx, hy, hr']
      · refine hC.turnAt hn hg.size hg.os hg.tape hg.output (fun j hj hne => hg.block j hj hne) ?_ ?_
        · show World.ownsRow _ _ _ _ _ (vs ++ ys).length _
          rw [List.length_append]; exact ho
        · exact append_block (ty := ty) he.und hi z1 z2 he.cell hown hcells hone hml hm' hr'
    rcases (hr.out w hC).out with ⟨rfl, ao, cap, rfl, hz⟩ | ⟨b, off, cap, rfl, _, _, hc⟩
    · cases ao with
      | some a => exact key a 0 cap rfl rfl (fun j u hu => by simp at hu)
      | none =>
        obtain rfl := hz rfl
        have hr' := run_append_owned_none (P := P) w 0 t ty e i 1 he.und hi sv vs.length vs hown
        refine ⟨sv, w, _, ?_, ?_, h sv⟩
        · simp [execOp, resolve, invoke, builtin, hx, hy, hr']
        · refine hC.turnAt hn (Nat.le_refl _) rfl rfl rfl (fun _ _ _ => rfl) ?_ (fun j hj => .inl hj)
          rw [List.append_nil]; exact hown
    · refine key ⟨b, off, Option.none⟩ ys.length cap rfl rfl (fun j u hu => ?_)
      have hlt := (List.getElem?_eq_some_iff.1 hu).1
      rw [Addr.add_lit, hc j hlt, hu]

theorem row_lit (w : World) (e : TypeId) (vs : List Value) (h : vs.length ≤ 1000) : (Ob.row e (.slice (some ⟨w.heap.size, 0, Option.none⟩) vs.length vs.length) vs).holds (w.alloc (.cells vs.toArray e)) :=
  ⟨by omega, .inr ⟨w.heap.size, vs.length, vs.toArray, rfl, Nat.zero_le _, heap_alloc_new w _, Nat.le_refl _, by simp only [maxLen]; omega, by simp, by simp [List.take_of_length_le]⟩⟩
theorem px_lit0 {md : Md} {zv : Value} {bytes : Nat} (he : ElemZ P t e zv bytes) (hmd : mdOk md (.buildSlice t 0 #[]) = true) (hw : wantE ops E g = true) (hd : okDst d n = true)
    (h : ∀ sv, Px P n ops md l Q (updo E d sv) (Cl X w0 (.row e sv [] :: objs))) :
    Px P n ops md (⟨d, .buildSlice t 0 #[], ty, pos, af, g⟩ :: l) Q E (Cl X w0 objs) :=
  px_opN hmd hw hd fun w hC => by
    obtain ⟨i, hi, z1, z2, z3⟩ := info_parts he.info
    have hsz : ∀ w, (sizeOf e).run P w = .ok 1 w := fun w => by simp [sizeOf, typeInfo, hi, z2]
    have hzero : ∀ w, (zeroValue e).run P w = .ok zv w := fun w => by simp [zeroValue, typeInfo, hi, z1]
    have hcell := he.cell
    refine ⟨.slice (some ⟨w.heap.size, 0, Option.none⟩) 0 0, w.alloc (.cells #[] e), _, ?_, hC.push (below_alloc w _) (.row e (.slice (some ⟨w.heap.size, 0, Option.none⟩) 0 0) []) (row_lit w e [] (by simp)) (fun k hk => by obtain rfl := Option.some.inj hk; exact Nat.le_refl _), fun w hw => hw.sub (List.sublist_cons_self _ _), h _⟩
    simp [execOp, Instr.buildSlice, Instr.fill, run_underlying he.und, hsz, newRow, go_sem]

theorem px_lit1 {md : Md} {zv : Value} {bytes : Nat} {x0 : Operand} {v0 : Value} (he : ElemZ P t e zv bytes) (h0 : ev E x0 = v0) (s0 : ∀ w, Cl X w0 objs w → storable v0 = true) (hmd : mdOk md (.buildSlice t 1 #[(0, x0)]) = true) (hw : wantE ops E g = true) (hd : okDst d n = true)
    (h : ∀ sv, Px P n ops md l Q (updo E d sv) (Cl X w0 (.row e sv [v0] :: objs))) :
    Px P n ops md (⟨d, .buildSlice t 1 #[(0, x0)], ty, pos, af, g⟩ :: l) Q E (Cl X w0 objs) :=
  px_opN hmd hw hd fun w hC => by
    obtain ⟨i, hi, z1, z2, z3⟩ := info_parts he.info
    have hsz : ∀ w, (sizeOf e).run P w = .ok 1 w := fun w => by simp [sizeOf, typeInfo, hi, z2]
    have hzero : ∀ w, (zeroValue e).run P w = .ok zv w := fun w => by simp [zeroValue, typeInfo, hi, z1]
    have hcell := he.cell
    have c0 := storable_cells (s0 w hC)
    refine ⟨.slice (some ⟨w.heap.size, 0, Option.none⟩) 1 1, w.alloc (.cells #[v0] e), _, ?_, hC.push (below_alloc w _) (.row e (.slice (some ⟨w.heap.size, 0, Option.none⟩) 1 1) [v0]) (row_lit w e [v0] (by simp)) (fun k hk => by obtain rfl := Option.some.inj hk; exact Nat.le_refl _), fun w hw => hw.sub (List.sublist_cons_self _ _), h _⟩
    simp [execOp, Instr.buildSlice, Instr.fill, run_underlying he.und, hsz, hzero, hcell, newRow, h0, c0]
    rw [show Array.range 1 = #[0] by decide]
    simp

theorem px_lit2 {md : Md} {zv : Value} {bytes : Nat} {x0 x1 : Operand} {v0 v1 : Value} (he : ElemZ P t e zv bytes) (h0 : ev E x0 = v0) (s0 : ∀ w, Cl X w0 objs w → storable v0 = true) (h1 : ev E x1 = v1) (s1 : ∀ w, Cl X w0 objs w → storable v1 = true) (hmd : mdOk md (.buildSlice t 2 #[(0, x0), (1, x1)]) = true) (hw : wantE ops E g = true) (hd : okDst d n = true)
    (h : ∀ sv, Px P n ops md l Q (updo E d sv) (Cl X w0 (.row e sv [v0, v1] :: objs))) :
    Px P n ops md (⟨d, .buildSlice t 2 #[(0, x0), (1, x1)], ty, pos, af, g⟩ :: l) Q E (Cl X w0 objs) :=
  px_opN hmd hw hd fun w hC => by
    obtain ⟨i, hi, z1, z2, z3⟩ := info_parts he.info
    have hsz : ∀ w, (sizeOf e).run P w = .ok 1 w := fun w => by simp [sizeOf, typeInfo, hi, z2]
    have hzero : ∀ w, (zeroValue e).run P w = .ok zv w := fun w => by simp [zeroValue, typeInfo, hi, z1]
    have hcell := he.cell
    have c0 := storable_cells (s0 w hC)
    have c1 := storable_cells (s1 w hC)
    refine ⟨.slice (some ⟨w.heap.size, 0, Option.none⟩) 2 2, w.alloc (.cells #[v0, v1] e), _, ?_, hC.push (below_alloc w _) (.row e (.slice (some ⟨w.heap.size, 0, Option.none⟩) 2 2) [v0, v1]) (row_lit w e [v0, v1] (by simp)) (fun k hk => by obtain rfl := Option.some.inj hk; exact Nat.le_refl _), fun w hw => hw.sub (List.sublist_cons_self _ _), h _⟩
    simp [execOp, Instr.buildSlice, Instr.fill, run_underlying he.und, hsz, hzero, hcell, newRow, h0, c0, h1, c1]
    rw [show Array.range 2 = #[0, 1] by decide]
    simp

theorem px_lit4 {md : Md} {zv : Value} {bytes : Nat} {x0 x1 x2 x3 : Operand} {v0 v1 v2 v3 : Value} (he : ElemZ P t e zv bytes) (h0 : ev E x0 = v0) (s0 : ∀ w, Cl X w0 objs w → storable v0 = true) (h1 : ev E x1 = v1) (s1 : ∀ w, Cl X w0 objs w → storable v1 = true) (h2 : ev E x2 = v2) (s2 : ∀ w, Cl X w0 objs w → storable v2 = true) (h3 : ev E x3 = v3) (s3 : ∀ w, Cl X w0 objs w → storable v3 = true) (hmd : mdOk md (.buildSlice t 4 #[(0, x0), (1, x1), (2, x2), (3, x3)]) = true) (hw : wantE ops E g = true) (hd : okDst d n = true)
    (h : ∀ sv, Px P n ops md l Q (updo E d sv) (Cl X w0 (.row e sv [v0, v1, v2, v3] :: objs))) :
    Px P n ops md (⟨d, .buildSlice t 4 #[(0, x0), (1, x1), (2, x2), (3, x3)], ty, pos, af, g⟩ :: l) Q E (Cl X w0 objs) :=
  px_opN hmd hw hd fun w hC => by
    obtain ⟨i, hi, z1, z2, z3⟩ := info_parts he.info
    have hsz : ∀ w, (sizeOf e).run P w = .ok 1 w := fun w => by simp [sizeOf, typeInfo, hi, z2]
    have hzero : ∀ w, (zeroValue e).run P w = .ok zv w := fun w => by simp [zeroValue, typeInfo, hi, z1]
    have hcell := he.cell
    have c0 := storable_cells (s0 w hC)
    have c1 := storable_cells (s1 w hC)
    have c2 := storable_cells (s2 w hC)
    have c3 := storable_cells (s3 w hC)
    refine ⟨.slice (some ⟨w.heap.size, 0, Option.none⟩) 4 4, w.alloc (.cells #[v0, v1, v2, v3] e), _, ?_, hC.push (below_alloc w _) (.row e (.slice (some ⟨w.heap.size, 0, Option.none⟩) 4 4) [v0, v1, v2, v3]) (row_lit w e [v0, v1, v2, v3] (by simp)) (fun k hk => by obtain rfl := Option.some.inj hk; exact Nat.le_refl _), fun w hw => hw.sub (List.sublist_cons_self _ _), h _⟩
    simp [execOp, Instr.buildSlice, Instr.fill, run_underlying he.und, hsz, hzero, hcell, newRow, h0, c0, h1, c1, h2, c2, h3, c3]
    rw [show Array.range 4 = #[0, 1, 2, 3] by decide]
    simp

/-- A pure function's contract, out of its body. -/
theorem pure_enter {f : FuncId} {fn : Func} {c : Code} {args : List Value} {w : World} {v : Value} {n : Nat} (he : Entry P f)
    (hf : P.funcs[f]? = some fn) (hb : fn.body = some c) (hn : fn.ntmps = n) (hle : Nat.ble args.length n = true)
    (h : Pwp P n c (qbody P fn (fun u C' => u = v ∧ ∀ w', C' w' → Below w.heap.size w w')) (envOf args) (Cl [] w [])) : Pure P f args.toArray w v :=
  ⟨he, ((pcall_enter hf hb hn (Nat.le_of_ble_eq_true hle) h).out w (Cl.start w)).mono fun e w' ⟨u, C', h1, h2, h3, h4⟩ => ⟨by rw [h1, h3], h4 w' h2⟩⟩

/-- A call that hands back a value, with new objects. -/
structure Gives (P : Program) (f : FuncId) (args : Array Value) (w : World) (R : Value → List Ob → Prop) : Prop where
  entry : Entry P f
  out : Calls P f args w (fun e w' => ∃ v objs, e = .returned v ∧ R v objs ∧ Cl [] w objs w')

theorem gives_enter {f : FuncId} {fn : Func} {c : Code} {args : List Value} {w : World} {R : Value → List Ob → Prop} {n : Nat} (he : Entry P f)
    (hf : P.funcs[f]? = some fn) (hb : fn.body = some c) (hn : fn.ntmps = n) (hle : Nat.ble args.length n = true)
    (h : Pwp P n c (qbody P fn (fun u C' => ∃ objs, R u objs ∧ ∀ w', C' w' → Cl [] w objs w')) (envOf args) (Cl [] w [])) : Gives P f args.toArray w R :=
  ⟨he, ((pcall_enter hf hb hn (Nat.le_of_ble_eq_true hle) h).out w (Cl.start w)).mono fun _ w' ⟨u, _, h1, h2, objs, h3, h4⟩ => ⟨u, objs, h1, h3, h4 w' h2⟩⟩

theorem px_gives {md : Md} {f : FuncId} {args : List Operand} {ats : Array TypeId} {avs : List Value} {R : Value → List Ob → Prop} (hρ : ev E (.func f) = .func (.func f) #[] #[]) (ha : evl (ev E) args = avs)
    (hmd : mdOk md (.call { callee := .value (.func f), args := args.toArray, argTypes := ats }) = true) (hw : wantE ops E g = true) (hd : okDst d n = true)
    (hc : ∀ w, Cl X w0 objs w → Gives P f avs.toArray w R) (h : ∀ v objs', R v objs' → Px P n ops md l Q (updo E d v) (Cl X w0 (objs' ++ objs))) :
    Px P n ops md (⟨d, .call { callee := .value (.func f), args := args.toArray, argTypes := ats }, ty, pos, af, g⟩ :: l) Q E (Cl X w0 objs) :=
  px_callN hmd hw hd (fun w hC => run_call (hc w hC).entry hρ w) fun w hC => by
    rw [evl_eq, ha]
    exact (hc w hC).out.mono fun e w' ⟨v, objs', he, hR, hcl⟩ => ⟨v, _, he, hC.app hcl, fun w hw => hw.sub (List.sublist_append_right _ _), h v objs' hR⟩
end
attribute [irreducible] Scalar
end Go.Pw
