/- Closures that make new blocks; slices cut to their length; what is nil and what is not. -/
import Derived.Test.YtkbjcfabbapnpaaLk
import Derived.Test.YtkbjcfabbapnpaaPwBool
import Derived.Laws.Cover3
import Derived.Test.YtkbjcfabbapnpaaPwFun
namespace Go.Pw
open Go Go.RowKit

def fullV : Value → Value
  | .slice a l _ => .slice a l l
  | v => v
section
variable {P : Program} {C : Cls} {ρ : Operand → Value} {d : Option Tmp} {t t' ty : TypeId} {pos : String} {af : Array Edge} {g : Option (Nat × Bool)} {x y z : Operand} {m n : Int}
/-- 's[:len(s):len(s)]'. -/
theorem opv_full {sv : Value} {vs : List Value} {e : TypeId} {k : Nat} (ht : Elem1 P t e) (hx : ρ x = sv) (hy : ρ y = .int .i64 (k : Int)) (hz : ρ z = .int .i64 (k : Int)) (hr : Rd C sv vs) (hk : k = vs.length) :
    Opv P C ρ ⟨d, .slice t x none (some y) (some z), ty, pos, af, g⟩ (fullV sv) := by
  obtain ⟨h1, i, h2, h3⟩ := ht
  subst hk
  refine opv_of_run fun w hw => ?_
  have h0 := (hr.out w hw).fits
  rcases (hr.out w hw).out with ⟨rfl, ao, cap, rfl, _⟩ | ⟨b, off, cap, rfl, _⟩
  · simp [execOp, go_sem, hx, hy, hz, run_underlying h1, h2, h3, Instr.sliceAt, Instr.slice, Instr.sliceBounds, Instr.sliceBound, sizeOf, typeInfo, fullV]
    try (split <;> simp)
  · have hkc : vs.length ≤ cap := Nat.le_of_ble_eq_true h0
    simp [execOp, go_sem, hx, hy, hz, run_underlying h1, h2, h3, hkc, Instr.sliceAt, Instr.slice, Instr.sliceBounds, Instr.sliceBound, sizeOf, typeInfo, fullV]
    try (split <;> simp)
theorem opv_neq_nil {sv : Value} {vs : List Value} {e : TypeId} (ht : Elem1 P t e) (hx : ρ x = sv) (hy : ρ y = .slice none 0 0) (hr : Rd C sv vs) : Opv P C ρ ⟨d, .binOp .neq t x y t', ty, pos, af, g⟩ (.bool (!nilB sv)) :=
  opv_of_run fun w hw => by
    have hu := ht.1
    rcases (hr.out w hw).out with ⟨_, ao, cap, rfl, hz⟩ | ⟨b, off, cap, rfl, _⟩
    · cases ao with
      | none =>
        obtain rfl := hz rfl
        simp [execOp, go_sem, hx, hy, run_neq_slice_nil w t e _ _ _ hu]; rfl
      | some a => simp [execOp, go_sem, hx, hy, run_neq_slice_nil w t e _ _ _ hu]; rfl
    · simp [execOp, go_sem, hx, hy, run_neq_slice_nil w t e _ _ _ hu]; rfl
/-- What is not empty is not nil. -/
theorem opv_neq_nil_t {sv : Value} {vs : List Value} {e : TypeId} (ht : Elem1 P t e) (hx : ρ x = sv) (hy : ρ y = .slice none 0 0) (hr : Rd C sv vs) (hv : 0 < vs.length) : Opv P C ρ ⟨d, .binOp .neq t x y t', ty, pos, af, g⟩ (.bool true) :=
  ⟨fun w hw => by
    have h := (opv_neq_nil (P := P) (d := d) (ty := ty) (pos := pos) (af := af) (g := g) (t' := t') ht hx hy hr).out w hw
    rcases (hr.out w hw).out with ⟨rfl, _⟩ | ⟨b, off, cap, rfl, _⟩
    · simp at hv
    · exact h⟩
theorem opv_neq_nil_f {sv : Value} {e : TypeId} (ht : Elem1 P t e) (hx : ρ x = sv) (hs : sv = .slice none 0 0) (hy : ρ y = .slice none 0 0) : Opv P C ρ ⟨d, .binOp .neq t x y t', ty, pos, af, g⟩ (.bool false) :=
  opv_of_run fun w hw => by
    have hu := ht.1
    subst hs
    simp [execOp, go_sem, hx, hy, run_neq_slice_nil w t e _ _ _ hu]
end
section
variable {P : Program} {n : Nat} {ops : List Oper} {l : List Oper} {Q : Post} {E : Env} {X : List Nat} {w0 : World} {objs : List Ob} {d : Option Nat} {t ty e : TypeId} {pos : String} {af : Array Edge} {g : Option (Nat × Bool)} {x y : Operand}
/-- A call of a function value that makes new objects. -/
theorem px_givesx {md : Md} {f : FuncId} {cs : List Value} {args : List Operand} {ats : Array TypeId} {avs : List Value} {R : Value → List Ob → Prop} (hρ : ev E x = .func (.func f) #[] cs.toArray) (ha : evl (ev E) args = avs)
    (hmd : mdOk md (.call { callee := .value x, args := args.toArray, argTypes := ats }) = true) (hw : wantE ops E g = true) (hd : okDst d n = true)
    (hc : ∀ w, Cl X w0 objs w → Gives P f (avs ++ cs).toArray w R) (h : ∀ v objs', R v objs' → Px P n ops md l Q (updo E d v) (Cl X w0 (objs' ++ objs))) :
    Px P n ops md (⟨d, .call { callee := .value x, args := args.toArray, argTypes := ats }, ty, pos, af, g⟩ :: l) Q E (Cl X w0 objs) :=
  px_callN hmd hw hd (fun w hC => run_callx (hc w hC).entry hρ w) fun w hC => by
    rw [evl_eq, ha]
    have := (hc w hC).out
    simp only [List.append_toArray] at this ⊢
    exact this.mono fun e w' ⟨v, objs', he, hR, hcl⟩ => ⟨v, _, he, hC.app hcl, fun w hw => hw.sub (List.sublist_append_right _ _), h v objs' hR⟩
/-- A variable of one cell whose zero is known. -/
theorem px_allocz {md : Md} {z : Value} (ht : (P.info? t).map (fun i => (i.zero, i.size)) = some (some z, 1)) (hz1 : storable z = true) (hmd : mdOk md (.alloc t) = true) (hw : wantE ops E g = true) (hd : okDst d n = true)
    (h : ∀ b, Px P n ops md l Q (updo E d (.pointer (some ⟨b, 0, none⟩))) (Cl X w0 (.blk b [z] :: objs))) : Px P n ops md (⟨d, .alloc t, ty, pos, af, g⟩ :: l) Q E (Cl X w0 objs) :=
  px_opN hmd hw hd fun w hC => ⟨_, w.alloc (.cells #[z] t), Cl X w0 (.blk w.heap.size [z] :: objs), by
      have hz : (zeroValue t).run P w = .ok z w := by
        cases hi : P.info? t with
        | none => rw [hi] at ht; cases ht
        | some i => rw [hi] at ht; simp at ht; simp [zeroValue, typeInfo, hi, ht.1]
      cases z <;> first | (cases hz1; done) | simp [execOp, Instr.alloc, hz, newVar, newRow, go_sem],
    hC.push (below_alloc w _) _ ⟨t, heap_alloc_new w _⟩ (fun k hk => by obtain rfl := Option.some.inj hk; exact Nat.le_refl _), fun w hw => hw.sub (List.sublist_cons_self _ _), h w.heap.size⟩
/-- 'append' to a slice that is full: a new row. -/
theorem px_append_full {md : Md} {sv xv zv : Value} {vs ys : List Value} {bytes : Nat} (he : ElemZ P t e zv bytes) (hx : ev E x = fullV sv) (hy : ev E y = xv) (hs : Rd (Cl X w0 objs) sv vs) (hr : Rd (Cl X w0 objs) xv ys) (h0 : 0 < ys.length) (h1 : ∀ w, Cl X w0 objs w → ∀ u ∈ ys, storable u = true)
    (hm : (vs.length + ys.length) * bytes ≤ 140737488355328) (hb : 0 < bytes) (hmd : mdOk md (.call { callee := .builtin .append, args := #[x, y], argTypes := #[t, t] }) = true) (hw : wantE ops E g = true) (hd : okDst d n = true)
    (h : ∀ sv', Px P n ops md l Q (updo E d sv') (Cl X w0 (.row e sv' (vs ++ ys) :: objs))) :
    Px P n ops md (⟨d, .call { callee := .builtin .append, args := #[x, y], argTypes := #[t, t] }, ty, pos, af, g⟩ :: l) Q E (Cl X w0 objs) :=
  px_opN hmd hw hd fun w hC => by
    obtain ⟨i, hi, z1, z2, z3⟩ := info_parts he.info
    have hlen : vs.length + ys.length ≤ 140737488355328 := Nat.le_trans (Nat.le_mul_of_pos_right _ hb) hm
    have hml : vs.length + ys.length ≤ maxLen := by simp only [maxLen]; omega
    have hone : ∀ u ∈ ys, u.oneCell' = true := fun u hu => by have := h1 w hC u hu; cases u <;> first | rfl | cases this
    have hyv : ∃ (a : Addr) (c : Nat), xv = .slice (some a) ys.length c ∧ ∀ j u, ys[j]? = some u → w.cell? (a.add j) = some u := by
      rcases (hr.out w hC).out with ⟨rfl, _⟩ | ⟨b, off, cap, rfl, _, _, hc⟩
      · simp at h0
      · refine ⟨⟨b, off, none⟩, cap, rfl, fun j u hu => ?_⟩
        rw [Addr.add_lit, hc j (List.getElem?_eq_some_iff.1 hu).1, hu]
    obtain ⟨a, c, rfl, hcells⟩ := hyv
    have key : ∀ (b : Addr), fullV sv = .slice (some b) vs.length vs.length → (∀ j u, vs[j]? = some u → w.cell? (b.add j) = some u) →
        ∃ v w' C', (execOp (ev E) ⟨d, .call { callee := .builtin .append, args := #[x, y], argTypes := #[t, t] }, ty, pos, af, g⟩).run P w = .ok (.value v) w' ∧ C' w' ∧ (∀ w, C' w → Cl X w0 objs w) ∧ Px P n ops md l Q (updo E d v) C' := by
      intro b hbv hbc
      have h2 := run_append_grow (P := P) w t ty e i zv he.und hi z1 b vs.length vs.length vs (by rw [z2, Nat.mul_one]) hbc a ys.length c ys (by rw [z2, Nat.mul_one]) hcells (by omega) (by simp only [maxLen] at hml; omega) (growslice_fits (by omega) (by rw [z3]; exact hm))
      have hge := grownCap_ge w (vs.length + ys.length) vs.length e
      have hcm : grownCap w (vs.length + ys.length) vs.length e ≤ maxLen := grownCap_le_maxLen w _ _ e hml
      have hzs : zv.cells.size = 1 := by rw [he.cell]; rfl
      have hx' := hx.trans hbv
      refine ⟨.slice (some ⟨w.heap.size, 0, none⟩) (vs.length + ys.length) (grownCap w (vs.length + ys.length) vs.length e), w.drew.alloc (.cells (vs.toArray ++ ys.toArray ++ Builtin.zeroCells zv.cells (grownCap w (vs.length + ys.length) vs.length e - (vs.length + ys.length))) e), _, by simp [execOp, resolve, invoke, builtin, hx', hy, h2], hC.push ?_ (.row e (.slice (some ⟨w.heap.size, 0, none⟩) (vs.length + ys.length) (grownCap w (vs.length + ys.length) vs.length e)) (vs ++ ys)) ?_ (fun k hk => by obtain rfl := Option.some.inj hk; exact Nat.le_refl _), fun w hw => hw.sub (List.sublist_cons_self _ _), h _⟩
      · exact below_grown ⟨rfl, rfl, rfl, by simp, fun k hk _ => heap_alloc_old w.drew _ hk⟩
      · show World.ownsRow _ _ _ _ _ (vs ++ ys).length _
        rw [List.length_append]
        refine ⟨by simp, .inr ⟨w.heap.size, _, _, rfl, Nat.zero_le _, heap_alloc_new w.drew _, hge, hcm, ?_, ?_⟩⟩
        · simp only [Array.size_append, List.size_toArray, size_zeroCells, hzs]; omega
        · simp only [Array.toList_append, List.append_assoc]
          rw [← List.append_assoc, Nat.mul_one, ← List.length_append]
          exact List.take_left
    rcases (hs.out w hC).out with ⟨rfl, ao, cap, rfl, hz⟩ | ⟨b, off, cap, rfl, _, _, hc⟩
    · cases ao with
      | some a' => exact key a' rfl (fun j u hu => by simp at hu)
      | none =>
        obtain ⟨v', w', hr', ho, hg, _⟩ := run_append_own (P := P) w w.heap.size t ty e i zv 1 bytes he.und hi z1 z2 z3 (by rw [he.cell]; rfl) (by omega) (.slice none 0 0) 0 [] (World.ownsRow_nil w _ e 1) a ys.length c ys (by omega) hcells hone (by simpa using hml) (by simpa using hm) (Nat.le_refl _)
        have hlt := fun k hk => World.ownsRow.lt ho k hk
        refine ⟨v', w', _, ?_, hC.push (below_grown hg) (.row e v' ([] ++ ys)) ?_ (fun k hk => (hlt k hk).1), fun w hw => hw.sub (List.sublist_cons_self _ _), h v'⟩
        · have hx' : ev E x = .slice none 0 0 := hx
          simp [execOp, resolve, invoke, builtin, hx', hy, hr']
        · obtain ⟨o1, o2⟩ := ho
          show World.ownsRow _ _ _ _ _ ([] ++ ys).length _
          rw [List.nil_append]
          rw [List.nil_append, Nat.zero_add] at o1 o2
          refine ⟨o1, ?_⟩
          rcases o2 with o2 | ⟨b, cap, cur, p1, p2, p3⟩
          · exact .inl o2
          · exact .inr ⟨b, cap, cur, p1, Nat.zero_le _, p3⟩
    · refine key ⟨b, off, none⟩ rfl (fun j u hu => ?_)
      have hlt := (List.getElem?_eq_some_iff.1 hu).1
      rw [Addr.add_lit, hc j hlt, hu]
/-- The same, of ints, one more at the end. -/
theorem px_append_full1 {md : Md} {sv xv zv : Value} {a : List Int} {m : Int} {bytes : Nat} (he : ElemZ P t e zv bytes) (hx : ev E x = fullV sv) (hy : ev E y = xv) (hs : Rd (Cl X w0 objs) sv (ints a)) (hr : Rd (Cl X w0 objs) xv [.int .i64 m])
    (hm : (a.length + 1) * bytes ≤ 140737488355328) (hb : 0 < bytes) (hmd : mdOk md (.call { callee := .builtin .append, args := #[x, y], argTypes := #[t, t] }) = true) (hw : wantE ops E g = true) (hd : okDst d n = true)
    (h : ∀ sv', Px P n ops md l Q (updo E d sv') (Cl X w0 (.row e sv' (ints (a ++ [m])) :: objs))) :
    Px P n ops md (⟨d, .call { callee := .builtin .append, args := #[x, y], argTypes := #[t, t] }, ty, pos, af, g⟩ :: l) Q E (Cl X w0 objs) :=
  px_append_full he hx hy hs hr (by simp) (fun _ _ u hu => by simp at hu; subst hu; rfl) (by simpa using hm) hb hmd hw hd fun sv' => by rw [ints_snoc]; exact h sv'
/-- 'append(s, x...)', rows of ints. -/
theorem px_append_ints {sv xv zv : Value} {a b : List Int} {bytes : Nat} (k : Nat) (he : ElemZ P t e zv bytes) (hx : ev E x = sv) (hy : ev E y = xv) (hn : nthOb objs k = some (.row e sv (ints a))) (hr : Rd (Cl X w0 objs) xv (ints b))
    (hm : (a.length + b.length) * bytes ≤ 140737488355328) (hb : 0 < bytes) (hw : wantE ops E g = true) (hd : okDst d n = true) (h : ∀ sv', Px P n ops .seq l Q (updo E d sv') (Cl X w0 (setOb objs k (.row e sv' (ints (a ++ b)))))) :
    Px P n ops .seq (⟨d, .call { callee := .builtin .append, args := #[x, y], argTypes := #[t, t] }, ty, pos, af, g⟩ :: l) Q E (Cl X w0 objs) :=
  px_append k he hx hy hn hr (fun _ _ => stor_ints) (by simpa using hm) hb hw hd fun sv' => by rw [ints_app]; exact h sv'
theorem px_append_int1 {sv xv zv : Value} {a : List Int} {m : Int} {bytes : Nat} (k : Nat) (he : ElemZ P t e zv bytes) (hx : ev E x = sv) (hy : ev E y = xv) (hn : nthOb objs k = some (.row e sv (ints a))) (hr : Rd (Cl X w0 objs) xv [.int .i64 m])
    (hm : (a.length + 1) * bytes ≤ 140737488355328) (hb : 0 < bytes) (hw : wantE ops E g = true) (hd : okDst d n = true) (h : ∀ sv', Px P n ops .seq l Q (updo E d sv') (Cl X w0 (setOb objs k (.row e sv' (ints (a ++ [m])))))) :
    Px P n ops .seq (⟨d, .call { callee := .builtin .append, args := #[x, y], argTypes := #[t, t] }, ty, pos, af, g⟩ :: l) Q E (Cl X w0 objs) :=
  px_append k he hx hy hn hr (fun _ _ u hu => by simp at hu; subst hu; rfl) (by simpa using hm) hb hw hd fun sv' => by rw [ints_snoc]; exact h sv'
theorem px_lit0i {md : Md} {zv : Value} {bytes : Nat} (he : ElemZ P t e zv bytes) (hmd : mdOk md (.buildSlice t 0 #[]) = true) (hw : wantE ops E g = true) (hd : okDst d n = true)
    (h : ∀ sv, Px P n ops md l Q (updo E d sv) (Cl X w0 (.row e sv (ints []) :: objs))) :
    Px P n ops md (⟨d, .buildSlice t 0 #[], ty, pos, af, g⟩ :: l) Q E (Cl X w0 objs) := px_lit0 he hmd hw hd h
end
theorem arr_nil (w : World) : Arr w (.slice none 0 0) (ints []) := ⟨rfl, .inl ⟨rfl, none, 0, rfl, fun _ => rfl⟩⟩
/-- What a search hands back: nothing, or a new row. -/
def FoundR (e : TypeId) : Option (List Int) → Value → List Ob → Prop
  | none, v, objs => v = .slice none 0 0 ∧ objs = []
  | some L, v, objs => objs = [.row e v (ints L)]
end Go.Pw
