import Derived.Test.YtoejpckfeflkaaaGreatDoorPwLaw
import Derived.Test.YtoejpckfeflkaaaGreatDoorPwBool
import Derived.Laws.Cover3
import Derived.Test.YtoejpckfeflkaaaGreatDoorPwFun
import Derived.Lib.SliceRun
import Derived.Deep.Upon
import Derived.Test.YtoejpckfeflkaaaGreatDoorFacts
import Derived.Test.YtoejpckfeflkaaaGreatDoorPwPsv
import Derived.Test.YtoejpckfeflkaaaGreatDoorPwStx
/- Closures that make new blocks; slices cut to their length; what is nil and what is not. -/
namespace Go.Pw
open Go Go.RowKit

def fullV : Value → Value
  | .slice a l _ => .slice a l l
  | v => v
section
variable {P : Program} {C : Cls} {ρ : Operand → Value} {d : Option Tmp} {t t' ty : TypeId} {pos : String} {af : Array Edge} {g : Option (Nat × Bool)} {x y z : Operand} {m n : Int}
/-- 's[:len(s):len(s)]'. -/
theorem opv_full {sv : Value} {vs : List Value} {e : TypeId} {k : Nat} (ht : Elem1 P t e) (hx : ρ x = sv) (hy : ρ y = .int .i64 (k : Int)) (hz : ρ z = .int .i64 (k : Int)) (hr : Rd C sv vs) (hk : k = vs.length) :
    Opv P C ρ ⟨d, .slice t x none (some y) (some z), ty, pos, af, g⟩ (fullV sv) := by
  obtain ⟨h1, i, h2, h3⟩ := ht
  subst hk
  refine opv_of_run fun w hw => ?_
  have h0 := (hr.out w hw).fits
  rcases (hr.out w hw).out with ⟨rfl, ao, cap, rfl, _⟩ | ⟨b, off, cap, rfl, _⟩
  · simp [execOp, go_sem, hx, hy, hz, run_underlying h1, h2, h3, Instr.sliceAt, Instr.slice, Instr.sliceBounds, Instr.sliceBound, sizeOf, typeInfo, fullV]
    try (split <;> simp)
  · have hkc : vs.length ≤ cap := Nat.le_of_ble_eq_true h0
    simp [execOp, go_sem, hx, hy, hz, run_underlying h1, h2, h3, hkc, Instr.sliceAt, Instr.slice, Instr.sliceBounds, Instr.sliceBound, sizeOf, typeInfo, fullV]
    try (split <;> simp)
theorem opv_neq_nil {sv : Value} {vs : List Value} {e : TypeId} (ht : Elem1 P t e) (hx : ρ x = sv) (hy : ρ y = .slice none 0 0) (hr : Rd C sv vs) : Opv P C ρ ⟨d, .binOp .neq t x y t', ty, pos, af, g⟩ (.bool (!nilB sv)) :=
  opv_of_run fun w hw => by
    have hu := ht.1
    rcases (hr.out w hw).out with ⟨_, ao, cap, rfl, hz⟩ | ⟨b, off, cap, rfl, _⟩
    · cases ao with
      | none =>
        obtain rfl := hz rfl
        simp [execOp, go_sem, hx, hy, run_neq_slice_nil w t e _ _ _ hu]; rfl
      | some a => simp [execOp, go_sem, hx, hy, run_neq_slice_nil w t e _ _ _ hu]; rfl
    · simp [execOp, go_sem, hx, hy, run_neq_slice_nil w t e _ _ _ hu]; rfl
/-- What is not empty is not nil. -/
theorem opv_neq_nil_t {sv : Value} {vs : List Value} {e : TypeId} (ht : Elem1 P t e) (hx : ρ x = sv) (hy : ρ y = .slice none 0 0) (hr : Rd C sv vs) (hv : 0 < vs.length) : Opv P C ρ ⟨d, .binOp .neq t x y t', ty, pos, af, g⟩ (.bool true) :=
  ⟨fun w hw => by
    have h := (opv_neq_nil (P := P) (d := d) (ty := ty) (pos := pos) (af := af) (g := g) (t' := t') ht hx hy hr).out w hw
    rcases (hr.out w hw).out with ⟨rfl, _⟩ | ⟨b, off, cap, rfl, _⟩
    · simp at hv
    · exact h⟩
theorem opv_neq_nil_f {sv : Value} {e : TypeId} (ht : Elem1 P t e) (hx : ρ x = sv) (hs : sv = .slice none 0 0) (hy : ρ y = .slice none 0 0) : Opv P C ρ ⟨d, .binOp .neq t x y t', ty, pos, af, g⟩ (.bool false) :=
  opv_of_run fun w hw => by
    have hu := ht.1
    subst hs
    simp [execOp, go_sem, hx, hy, run_neq_slice_nil w t e _ _ _ hu]
end
section
variable {P : Program} {n : Nat} {ops : List Oper} {l : List Oper} {Q : Post} {E : Env} {X : List Nat} {w0 : World} {objs : List Ob} {d : Option Nat} {t ty e : TypeId} {pos : String} {af : Array Edge} {g : Option (Nat × Bool)} {x y : Operand}
/-- A call of a function value that makes new objects. -/
theorem px_givesx {md : Md} {f : FuncId} {cs : List Value} {args : List Operand} {ats : Array TypeId} {avs : List Value} {R : Value → List Ob → Prop} (hρ : ev E x = .func (.func f) #[] cs.toArray) (ha : evl (ev E) args = avs)
    (hmd : mdOk md (.call { callee := .value x, args := args.toArray, argTypes := ats }) = true) (hw : wantE ops E g = true) (hd : okDst d n = true)
    (hc : ∀ w, Cl X w0 objs w → Gives P f (avs ++ cs).toArray w R) (h : ∀ v objs', R v objs' → Px P n ops md l Q (updo E d v) (Cl X w0 (objs' ++ objs))) :
    Px P n ops md (⟨d, .call { callee := .value x, args := args.toArray, argTypes := ats }, ty, pos, af, g⟩ :: l) Q E (Cl X w0 objs) :=
  px_callN hmd hw hd (fun w hC => run_callx (hc w hC).entry hρ w) fun w hC => by
    rw [evl_eq, ha]
    have := (hc w hC).out
    simp only [List.append_toArray] at this ⊢
    exact this.mono fun e w' ⟨v, objs', he, hR, hcl⟩ => ⟨v, _, he, hC.app hcl, fun w hw => hw.sub (List.sublist_append_right _ _), h v objs' hR⟩
/-- A variable of one cell whose zero is known. -/
theorem px_allocz {md : Md} {z : Value} (ht : (P.info? t).map (fun i => (i.zero, i.size)) = some (some z, 1)) (hz1 : storable z = true) (hmd : mdOk md (.alloc t) = true) (hw : wantE ops E g = true) (hd : okDst d n = true)
    (h : ∀ b, Px P n ops md l Q (updo E d (.pointer (some ⟨b, 0, none⟩))) (Cl X w0 (.blk b [z] :: objs))) : Px P n ops md (⟨d, .alloc t, ty, pos, af, g⟩ :: l) Q E (Cl X w0 objs) :=
  px_opN hmd hw hd fun w hC => ⟨_, w.alloc (.cells #[z] t), Cl X w0 (.blk w.heap.size [z] :: objs), by
      have hz : (zeroValue t).run P w = .ok z w := by
        cases hi : P.info? t with
        | none => rw [hi] at ht; cases ht
        | some i => rw [hi] at ht; simp at ht; simp [zeroValue, typeInfo, hi, ht.1]
      cases z <;> first | (cases hz1; done) | simp [execOp, Instr.alloc, hz, newVar, newRow, go_sem],
    hC.push (below_alloc w _) _ ⟨t, heap_alloc_new w _⟩ (fun k hk => by obtain rfl := Option.some.inj hk; exact Nat.le_refl _), fun w hw => hw.sub (List.sublist_cons_self _ _), h w.heap.size⟩
/-- 'append' to a slice that is full: a new row. -/
theorem px_append_full {md : Md} {sv xv zv : Value} {vs ys : List Value} {bytes : Nat} (he : ElemZ P t e zv bytes) (hx : ev E x = fullV sv) (hy : ev E y = xv) (hs : Rd (Cl X w0 objs) sv vs) (hr : Rd (Cl X w0 objs) xv ys) (h0 : 0 < ys.length) (h1 : ∀ w, Cl X w0 objs w → ∀ u ∈ ys, storable u = true)
    (hm : (vs.length + ys.length) * bytes ≤ 140737488355328) (hb : 0 < bytes) (hmd : mdOk md (.call { callee := .builtin .append, args := #[x, y], argTypes := #[t, t] }) = true) (hw : wantE ops E g = true) (hd : okDst d n = true)
    (h : ∀ sv', Px P n ops md l Q (updo E d sv') (Cl X w0 (.row e sv' (vs ++ ys) :: objs))) :
    Px P n ops md (⟨d, .call { callee := .builtin .append, args := #[x, y], argTypes := #[t, t] }, ty, pos, af, g⟩ :: l) Q E (Cl X w0 objs) :=
  px_opN hmd hw hd fun w hC => by
    obtain ⟨i, hi, z1, z2, z3⟩ := info_parts he.info
    have hlen : vs.length + ys.length ≤ 140737488355328 := Nat.le_trans (Nat.le_mul_of_pos_right _ hb) hm
    have hml : vs.length + ys.length ≤ maxLen := by simp only [maxLen]; omega
    have hone : ∀ u ∈ ys, u.oneCell' = true := fun u hu => by have := h1 w hC u hu; cases u <;> first | rfl | cases this
    have hyv : ∃ (a : Addr) (c : Nat), xv = .slice (some a) ys.length c ∧ ∀ j u, ys[j]? = some u → w.cell? (a.add j) = some u := by
      rcases (hr.out w hC).out with ⟨rfl, _⟩ | ⟨b, off, cap, rfl, _, _, hc⟩
      · simp at h0
      · refine ⟨⟨b, off, none⟩, cap, rfl, fun j u hu => ?_⟩
        rw [Addr.add_lit, hc j (List.getElem?_eq_some_iff.1 hu).1, hu]
    obtain ⟨a, c, rfl, hcells⟩ := hyv
    have key : ∀ (b : Addr), fullV sv = .slice (some b) vs.length vs.length → (∀ j u, vs[j]? = some u → w.cell? (b.add j) = some u) →
        ∃ v w' C', (execOp (ev E) ⟨d, .call { callee := .builtin .append, args := #[x, y], argTypes := #[t, t] }, ty, pos, af, g⟩).run P w = .ok (.value v) w' ∧ C' w' ∧ (∀ w, C' w → Cl X w0 objs w) ∧ Px P n ops md l Q (updo E d v) C' := by
      intro b hbv hbc
      have h2 := run_append_grow (P := P) w t ty e i zv he.und hi z1 b vs.length vs.length vs (by rw [z2, Nat.mul_one]) hbc a ys.length c ys (by rw [z2, Nat.mul_one]) hcells (by omega) (by simp only [maxLen] at hml; omega) (growslice_fits (by omega) (by rw [z3]; exact hm))
      have hge := grownCap_ge w (vs.length + ys.length) vs.length e
      have hcm : grownCap w (vs.length + ys.length) vs.length e ≤ maxLen := grownCap_le_maxLen w _ _ e hml
      have hzs : zv.cells.size = 1 := by rw [he.cell]; rfl
      have hx' := hx.trans hbv
      refine ⟨.slice (some ⟨w.heap.size, 0, none⟩) (vs.length + ys.length) (grownCap w (vs.length + ys.length) vs.length e), w.drew.alloc (.cells (vs.toArray ++ ys.toArray ++ Builtin.zeroCells zv.cells (grownCap w (vs.length + ys.length) vs.length e - (vs.length + ys.length))) e), _, by simp [execOp, resolve, invoke, builtin, hx', hy, h2], hC.push ?_ (.row e (.slice (some ⟨w.heap.size, 0, none⟩) (vs.length + ys.length) (grownCap w (vs.length + ys.length) vs.length e)) (vs ++ ys)) ?_ (fun k hk => by obtain rfl := Option.some.inj hk; exact Nat.le_refl _), fun w hw => hw.sub (List.sublist_cons_self _ _), h _⟩
      · exact below_grown ⟨rfl, rfl, rfl, by simp, fun k hk _ => heap_alloc_old w.drew _ hk⟩
      · show World.ownsRow _ _ _ _ _ (vs ++ ys).length _
        rw [List.length_append]
        refine ⟨by simp, .inr ⟨w.heap.size, _, _, rfl, Nat.zero_le _, heap_alloc_new w.drew _, hge, hcm, ?_, ?_⟩⟩
        · simp only [Array.size_append, List.size_toArray, size_zeroCells, hzs]; omega
        · simp only [Array.toList_append, List.append_assoc]
          rw [← List.append_assoc, Nat.mul_one, ← List.length_append]
          exact List.take_left
    rcases (hs.out w hC).out with ⟨rfl, ao, cap, rfl, hz⟩ | ⟨b, off, cap, rfl, _, _, hc⟩
    · cases ao with
      | some a' => exact key a' rfl (fun j u hu => by simp at hu)
      | none =>
        obtain ⟨v', w', hr', ho, hg, _⟩ := run_append_own (P := P) w w.heap.size t ty e i zv 1 bytes he.und hi z1 z2 z3 (by rw [he.cell]; rfl) (by omega) (.slice none 0 0) 0 [] (World.ownsRow_nil w _ e 1) a ys.length c ys (by omega) hcells hone (by simpa using hml) (by simpa using hm) (Nat.le_refl _)
        have hlt := fun k hk => World.ownsRow.lt ho k hk
        refine ⟨v', w', _, ?_, hC.push (below_grown hg) (.row e v' ([] ++ ys)) ?_ (fun k hk => (hlt k hk).1), fun w hw => hw.sub (List.sublist_cons_self _ _), h v'⟩
        · have hx' : ev E x = .slice none 0 0 := hx
          simp [execOp, resolve, invoke, builtin, hx', hy, hr']
        · obtain ⟨o1, o2⟩ := ho
          show World.ownsRow _ _ _ _ _ ([] ++ ys).length _
          rw [List.nil_append]
          rw [List.nil_append, Nat.zero_add] at o1 o2
          refine ⟨o1, ?_⟩
          rcases o2 with o2 | ⟨b, cap, cur, p1, p2, p3⟩
          · exact .inl o2
          · exact .inr ⟨b, cap, cur, p1, Nat.zero_le _, p3⟩
    · refine key ⟨b, off, none⟩ rfl (fun j u hu => ?_)
      have hlt := (List.getElem?_eq_some_iff.1 hu).1
      rw [Addr.add_lit, hc j hlt, hu]
/-- The same, of ints, one more at the end. -/
theorem px_append_full1 {md : Md} {sv xv zv : Value} {a : List Int} {m : Int} {bytes : Nat} (he : ElemZ P t e zv bytes) (hx : ev E x = fullV sv) (hy : ev E y = xv) (hs : Rd (Cl X w0 objs) sv (ints a)) (hr : Rd (Cl X w0 objs) xv [.int .i64 m])
    (hm : (a.length + 1) * bytes ≤ 140737488355328) (hb : 0 < bytes) (hmd : mdOk md (.call { callee := .builtin .append, args := #[x, y], argTypes := #[t, t] }) = true) (hw : wantE ops E g = true) (hd : okDst d n = true)
    (h : ∀ sv', Px P n ops md l Q (updo E d sv') (Cl X w0 (.row e sv' (ints (a ++ [m])) :: objs))) :
    Px P n ops md (⟨d, .call { callee := .builtin .append, args := #[x, y], argTypes := #[t, t] }, ty, pos, af, g⟩ :: l) Q E (Cl X w0 objs) :=
  px_append_full he hx hy hs hr (by simp) (fun _ _ u hu => by simp at hu; subst hu; rfl) (by simpa using hm) hb hmd hw hd fun sv' => by rw [ints_snoc]; exact h sv'
/-- 'append(s, x...)', rows of ints. -/
theorem px_append_ints {sv xv zv : Value} {a b : List Int} {bytes : Nat} (k : Nat) (he : ElemZ P t e zv bytes) (hx : ev E x = sv) (hy : ev E y = xv) (hn : nthOb objs k = some (.row e sv (ints a))) (hr : Rd (Cl X w0 objs) xv (ints b))
    (hm : (a.length + b.length) * bytes ≤ 140737488355328) (hb : 0 < bytes) (hw : wantE ops E g = true) (hd : okDst d n = true) (h : ∀ sv', Px P n ops .seq l Q (updo E d sv') (Cl X w0 (setOb objs k (.row e sv' (ints (a ++ b)))))) :
    Px P n ops .seq (⟨d, .call { callee := .builtin .append, args := #[x, y], argTypes := #[t, t] }, ty, pos, af, g⟩ :: l) Q E (Cl X w0 objs) :=
  px_append k he hx hy hn hr (fun _ _ => stor_ints) (by simpa using hm) hb hw hd fun sv' => by rw [ints_app]; exact h sv'
theorem px_append_int1 {sv xv zv : Value} {a : List Int} {m : Int} {bytes : Nat} (k : Nat) (he : ElemZ P t e zv bytes) (hx : ev E x = sv) (hy : ev E y = xv) (hn : nthOb objs k = some (.row e sv (ints a))) (hr : Rd (Cl X w0 objs) xv [.int .i64 m])
    (hm : (a.length + 1) * bytes ≤ 140737488355328) (hb : 0 < bytes) (hw : wantE ops E g = true) (hd : okDst d n = true) (h : ∀ sv', Px P n ops .seq l Q (updo E d sv') (Cl X w0 (setOb objs k (.row e sv' (ints (a ++ [m])))))) :
    Px P n ops .seq (⟨d, .call { callee := .builtin .append, args := #[x, y], argTypes := #[t, t] }, ty, pos, af, g⟩ :: l) Q E (Cl X w0 objs) :=
  px_append k he hx hy hn hr (fun _ _ u hu => by simp at hu; subst hu; rfl) (by simpa using hm) hb hw hd fun sv' => by rw [ints_snoc]; exact h sv'
theorem px_lit0i {md : Md} {zv : Value} {bytes : Nat} (he : ElemZ P t e zv bytes) (hmd : mdOk md (.buildSlice t 0 #[]) = true) (hw : wantE ops E g = true) (hd : okDst d n = true)
    (h : ∀ sv, Px P n ops md l Q (updo E d sv) (Cl X w0 (.row e sv (ints []) :: objs))) :
    Px P n ops md (⟨d, .buildSlice t 0 #[], ty, pos, af, g⟩ :: l) Q E (Cl X w0 objs) := px_lit0 he hmd hw hd h
end
theorem arr_nil (w : World) : Arr w (.slice none 0 0) (ints []) := ⟨rfl, .inl ⟨rfl, none, 0, rfl, fun _ => rfl⟩⟩
/-- What a search hands back: nothing, or a new row. -/
def FoundR (e : TypeId) : Option (List Int) → Value → List Ob → Prop
  | none, v, objs => v = .slice none 0 0 ∧ objs = []
  | some L, v, objs => objs = [.row e v (ints L)]
end Go.Pw
/- The rest of a slice behind its first places; 'clear' of it. -/
namespace Go.Pw
open Go Go.RowKit

def dropV (k : Nat) : Value → Value
  | .slice a l c => .slice (if c - k = 0 then a else a.map (·.add k)) (l - k) (c - k)
  | v => v
theorem arr_drop {w : World} {sv : Value} {vs : List Value} {k : Nat} (h : Arr w sv vs) (hk : k ≤ vs.length) : Arr w (dropV k sv) (vs.drop k) := by
  have h0 := h.fits
  rcases h.out with ⟨rfl, ao, cap, rfl, hz⟩ | ⟨b, off, cap, rfl, h2, h3, h4⟩
  · obtain rfl : k = 0 := by simpa using hk
    refine ⟨by simp [dropV, fitsB], .inl ⟨by simp, _, cap, rfl, ?_⟩⟩
    intro h
    split at h
    · exact hz h
    · cases ao with
      | none => exact hz rfl
      | some a => simp at h
  · have hl : vs.length ≤ cap := Nat.le_of_ble_eq_true h0
    by_cases hk0 : k = vs.length
    · subst hk0
      refine ⟨?_, .inl ⟨by simp, _, cap - vs.length, by simp only [dropV, Nat.sub_self]; rfl, ?_⟩⟩
      · simp [dropV, fitsB]
      · intro h
        split at h <;> cases h
    · have hlen : (vs.drop k).length = vs.length - k := by simp
      refine ⟨?_, .inr ⟨b, off + k, cap - k, ?_, by omega, by omega, fun i hi => ?_⟩⟩
      · exact Nat.ble_eq_true_of_le (by omega)
      · rw [hlen]; simp only [dropV]; rw [if_neg (by omega)]; simp [Addr.add]
      · rw [hlen] at hi
        rw [List.getElem?_drop, ← h4 (k + i) (by omega), Nat.add_assoc]
theorem ints_drop (l : List Int) (k : Nat) : (ints l).drop k = ints (l.drop k) := by simp [ints, List.map_drop]
theorem arr_drop_ints {w : World} {sv : Value} {l : List Int} {k : Nat} (h : Arr w sv (ints l)) (hk : k ≤ l.length) : Arr w (dropV k sv) (ints (l.drop k)) := by
  rw [← ints_drop]; exact arr_drop h (by simpa using hk)
section
variable {P : Program} {C : Cls} {ρ : Operand → Value} {d : Option Tmp} {t t' ty : TypeId} {pos : String} {af : Array Edge} {g : Option (Nat × Bool)} {x y z : Operand} {m n : Int}
theorem rd_drop {sv : Value} {vs : List Value} {k : Nat} (hr : Rd C sv vs) (hk : k ≤ vs.length) : Rd C (dropV k sv) (vs.drop k) := ⟨fun w hw => arr_drop (hr.out w hw) hk⟩
theorem rd_drop_ints {sv : Value} {l : List Int} {k : Nat} (hr : Rd C sv (ints l)) (hk : k ≤ l.length) : Rd C (dropV k sv) (ints (l.drop k)) := ⟨fun w hw => arr_drop_ints (hr.out w hw) hk⟩
/-- 's[k:]'. -/
theorem opv_drop {sv : Value} {vs : List Value} {e : TypeId} {k : Nat} (ht : Elem1 P t e) (hx : ρ x = sv) (hy : ρ y = .int .i64 (k : Int)) (hr : Rd C sv vs) (hk : k ≤ vs.length) :
    Opv P C ρ ⟨d, .slice t x (some y) none none, ty, pos, af, g⟩ (dropV k sv) := by
  obtain ⟨h1, i, h2, h3⟩ := ht
  refine opv_of_run fun w hw => ?_
  have h0 := (hr.out w hw).fits
  have key : ∀ (a : Option Addr) (l c : Nat), sv = .slice a l c → k ≤ l → l ≤ c → (execOp ρ ⟨d, .slice t x (some y) none none, ty, pos, af, g⟩).run P w = .ok (.value (dropV k sv)) w := by
    rintro a l c rfl hkl hlc
    by_cases hck : c - k = 0
    · obtain rfl : c = k := by omega
      simp [execOp, go_sem, hx, hy, run_underlying h1, h2, h3, hkl, Instr.sliceAt, Instr.slice, Instr.sliceBounds, Instr.sliceBound, sizeOf, typeInfo, dropV]
    · have hck' : ¬ c = k := by omega
      simp [execOp, go_sem, hx, hy, run_underlying h1, h2, h3, hkl, hck, hck', Instr.sliceAt, Instr.slice, Instr.sliceBounds, Instr.sliceBound, sizeOf, typeInfo, dropV]
  rcases (hr.out w hw).out with ⟨rfl, ao, cap, rfl, _⟩ | ⟨b, off, cap, rfl, _⟩
  · exact key _ _ _ rfl (by simpa using hk) (Nat.zero_le _)
  · exact key _ _ _ rfl hk (Nat.le_of_ble_eq_true h0)
end
theorem size_cells (b : Nat) : ∀ (vs : List Value) (o : Nat) (w : World), (w.setCells b o vs).heap.size = w.heap.size
  | [], _, _ => rfl
  | v :: r, o, w => by rw [World.setCells, size_cells b r]; rw [World.setCell]; simp
theorem tape_cells (b : Nat) : ∀ (vs : List Value) (o : Nat) (w : World), (w.setCells b o vs).tape = w.tape
  | [], _, _ => rfl
  | v :: r, o, w => by rw [World.setCells, tape_cells b r]; rfl
theorem ownsRow_setCells {e : TypeId} {g n cap : Nat} : ∀ (vs : List Value) (o : Nat) (w : World) (xs : List Value), w.ownsRow 0 e 1 (.slice (some ⟨g, 0, none⟩) n cap) n xs → o + vs.length ≤ xs.length →
    (w.setCells g o vs).ownsRow 0 e 1 (.slice (some ⟨g, 0, none⟩) n cap) n (xs.take o ++ vs ++ xs.drop (o + vs.length))
  | [], o, w, xs, h, _ => by simpa [World.setCells] using h
  | v :: r, o, w, xs, h, hl => by
    simp only [List.length_cons] at hl
    have h1 := (World.ownsRow.stored h o v).1
    have h2 := ownsRow_setCells r (o + 1) (w.setCell ⟨g, o, none⟩ v) (xs.set o v) h1 (by simp; omega)
    rw [World.setCells]
    have e1 : xs.take o ++ (v :: r) ++ xs.drop (o + (v :: r).length) = (xs.set o v).take (o + 1) ++ r ++ (xs.set o v).drop (o + 1 + r.length) := by
      have a1 : (xs.set o v).take (o + 1) = xs.take o ++ [v] := by
        rw [List.take_add_one, List.getElem?_set_self (by omega), List.take_set_of_le (Nat.le_refl _)]; rfl
      have a2 : (xs.set o v).drop (o + 1 + r.length) = xs.drop (o + 1 + r.length) := List.drop_set_of_lt (by omega)
      rw [a1, a2, List.length_cons]
      simp only [List.append_assoc, List.cons_append, List.nil_append]
      congr 4
      omega
    rw [e1]; exact h2
section
variable {P : Program} {n : Nat} {ops : List Oper} {l : List Oper} {Q : Post} {E : Env} {X : List Nat} {w0 : World} {objs : List Ob} {d : Option Nat} {t ty e : TypeId} {pos : String} {af : Array Edge} {g : Option (Nat × Bool)} {x y : Operand}
/-- 'clear(s[i:])', s a row of the call's own. -/
theorem px_clear_drop {sv zv : Value} {vs : List Value} {bytes i : Nat} (k : Nat) (he : ElemZ P t e zv bytes) (hz1 : zv.oneCell' = true) (hx : ev E x = dropV i sv) (hn : nthOb objs k = some (.row e sv vs)) (hi : i ≤ vs.length)
    (hw : wantE ops E g = true) (hd : okDst d n = true) (h : Px P n ops .seq l Q (updo E d (.tuple #[])) (Cl X w0 (setOb objs k (.row e sv (vs.take i ++ List.replicate (vs.length - i) zv))))) :
    Px P n ops .seq (⟨d, .call { callee := .builtin .clear, args := #[x], argTypes := #[t] }, ty, pos, af, g⟩ :: l) Q E (Cl X w0 objs) :=
  px_op hw hd fun w hC => by
    obtain ⟨ti, hti, z1, z2, z3⟩ := info_parts he.info
    have hown : w.ownsRow 0 e 1 sv vs.length vs := hC.holds _ (nthOb_mem hn)
    have hzero : ∀ w, (zeroValue e).run P w = .ok zv w := fun w => by simp [zeroValue, typeInfo, hti, z1]
    rcases hown.2 with ⟨rfl, h0⟩ | ⟨b, cap, cur, rfl, h3, h4, h5, h6, h7, h8⟩
    · have hv0 : vs = [] := List.eq_nil_of_length_eq_zero h0
      subst hv0
      refine ⟨.tuple #[], w, _, ?_, ?_, h⟩
      · have hx' : ev E x = .slice none 0 0 := by rw [hx]; simp [dropV]
        simp [execOp, resolve, invoke, builtin, hx', Builtin.clear_, run_underlying he.und]
      · refine hC.turnAt hn (Nat.le_refl _) rfl rfl rfl (fun _ _ _ => rfl) ?_ (fun j hj => .inl hj)
        show World.ownsRow _ _ _ _ _ (List.take i [] ++ List.replicate (List.length [] - i) zv).length _
        simpa using hown
    · by_cases hil : i = vs.length
      · subst hil
        refine ⟨.tuple #[], w, _, ?_, ?_, h⟩
        · obtain ⟨a, c', hx'⟩ : ∃ a c', ev E x = .slice a 0 c' := ⟨_, _, by rw [hx]; simp only [dropV, Nat.sub_self]; rfl⟩
          cases a <;> simp [execOp, resolve, invoke, builtin, hx', Builtin.clear_, run_underlying he.und]
        · refine hC.turnAt hn (Nat.le_refl _) rfl rfl rfl (fun _ _ _ => rfl) ?_ (fun j hj => .inl hj)
          show World.ownsRow _ _ _ _ _ (List.take vs.length vs ++ List.replicate (vs.length - vs.length) zv).length _
          simpa using hown
      · have hx' : ev E x = .slice (some ⟨b, i, none⟩) (vs.length - i) (cap - i) := by
          rw [hx]; simp only [dropV]; rw [if_neg (by omega)]; simp only [Option.map_some, Addr.add_lit, Nat.zero_add]
        have hr := Lib.run_clear_slice (P := P) w t e ty zv he.und hzero he.cell hz1 b i (vs.length - i) (cap - i) (by omega)
          (fun j hj => by
            have := World.ownsRow.cellAt hown (i + j) (by omega)
            rw [this]; simp; omega)
          (fun j _ => World.ownsRow.frozenAt hown (i + j))
        refine ⟨.tuple #[], w.setCells b i (List.replicate (vs.length - i) zv), _, ?_, ?_, h⟩
        · simp [execOp, resolve, invoke, builtin, hx', hr]
        · have hkb := World.keptBut_setCells b (may := fun _ => True) (List.replicate (vs.length - i) zv) i w (fun _ _ => trivial)
          refine hC.turnAt hn (Nat.le_of_eq (size_cells b _ i w).symm) (World.os_setCells ..) (tape_cells b _ i w) (World.output_setCells ..) (fun j hj hne => World.heap_setCells_other w b i _ hj fun e => hne (by rw [e]; rfl)) ?_ (fun j hj => .inl hj)
          have := ownsRow_setCells (List.replicate (vs.length - i) zv) i w vs hown (by simp; omega)
          show World.ownsRow _ _ _ _ _ (vs.take i ++ List.replicate (vs.length - i) zv).length _
          have e2 : vs.drop (i + (List.replicate (vs.length - i) zv).length) = [] := List.drop_eq_nil_of_le (by simp; omega)
          rw [e2, List.append_nil] at this
          have e3 : (vs.take i ++ List.replicate (vs.length - i) zv).length = vs.length := by simp; omega
          rw [e3]; exact this
theorem px_clear_ints {sv : Value} {M : List Int} {bytes i : Nat} (k : Nat) (he : ElemZ P t e (.int .i64 0) bytes) (hx : ev E x = dropV i sv) (hn : nthOb objs k = some (.row e sv (ints M))) (hi : i ≤ M.length)
    (hw : wantE ops E g = true) (hd : okDst d n = true) (h : Px P n ops .seq l Q (updo E d (.tuple #[])) (Cl X w0 (setOb objs k (.row e sv (ints (M.take i ++ List.replicate (M.length - i) 0)))))) :
    Px P n ops .seq (⟨d, .call { callee := .builtin .clear, args := #[x], argTypes := #[t] }, ty, pos, af, g⟩ :: l) Q E (Cl X w0 objs) :=
  px_clear_drop k he rfl hx hn (by simpa using hi) hw hd (by
    have : ints (M.take i ++ List.replicate (M.length - i) 0) = (ints M).take i ++ List.replicate ((ints M).length - i) (.int .i64 0) := by simp [ints, List.map_take]
    rw [← this]; exact h)
/-- A call that turns its caller's objects and reads other ones. -/
theorem px_turnsC (ks : List Nat) {f : FuncId} {args : List Operand} {ats : Array TypeId} {avs : List Value} {old new rest : List Ob} {v : Value} (hρ : ev E (.func f) = .func (.func f) #[] #[]) (ha : evl (ev E) args = avs)
    (hp : pull objs ks = some (old, rest)) (hw : wantE ops E g = true) (hd : okDst d n = true)
    (hc : ∀ w, Own w old → Cl X w0 (old ++ rest) w → Turns P f avs.toArray w old new v) (h : Px P n ops .seq l Q (updo E d v) (Cl X w0 (new ++ rest))) :
    Px P n ops .seq (⟨d, .call { callee := .value (.func f), args := args.toArray, argTypes := ats }, ty, pos, af, g⟩ :: l) Q E (Cl X w0 objs) := by
  have hown : ∀ w, Cl X w0 objs w → Own w old ∧ Cl X w0 (old ++ rest) w := fun w hC => by
    have := hC.perm (pull_perm ks _ _ _ hp)
    exact ⟨this.own, this⟩
  refine px_call hw hd (fun w hC => run_call (hc w (hown w hC).1 (hown w hC).2).entry hρ w) fun w hC => ?_
  rw [evl_eq, ha]
  exact (hc w (hown w hC).1 (hown w hC).2).out.mono fun e w' ⟨he, hcl⟩ => ⟨v, _, he, (hown w hC).2.turnMany hcl, h⟩
end
theorem turns_enterX {P : Program} {f : FuncId} {fn : Func} {c : Code} {args : List Value} {w : World} {old new : List Ob} {v : Value} {n : Nat} {X : List Nat} (hX : X = blocksOf old) (ho : Own w old) (he : Entry P f)
    (hf : P.funcs[f]? = some fn) (hb : fn.body = some c) (hn : fn.ntmps = n) (hle : Nat.ble args.length n = true)
    (h : Pwp P n c (qbody P fn (fun u C' => u = v ∧ ∀ w', C' w' → Cl X w new w')) (envOf args) (Cl X w old)) : Turns P f args.toArray w old new v := by
  subst hX
  exact ⟨he, ((pcall_enter hf hb hn (Nat.le_of_ble_eq_true hle) h).out w ho.start).mono fun e w' ⟨u, C', h1, h2, h3, h4⟩ => ⟨by rw [h1, h3], h4 w' h2⟩⟩
theorem own_take {w : World} {e : TypeId} {sv : Value} {vs : List Value} (h : Own w [.row e sv vs]) : takeV sv vs.length = sv := by
  have h1 : w.ownsRow 0 e 1 sv vs.length vs := h.holds _ (List.mem_singleton_self _)
  rcases h1.2 with ⟨rfl, h0⟩ | ⟨b, cap, cur, rfl, _⟩
  · rw [h0]; rfl
  · rfl
end Go.Pw
/- Stable sorting of short lists by a comparison. -/
namespace Go.Proofs.YtoejpckfeflkaaaGreatDoor
open Go Go.RowKit Go.Pw
def ltBy (c : Int → Int → Int) (a b : Int) : Bool := decide (c a b < 0)
theorem sortR_one (lt : Int → Int → Bool) (l : List Int) : sortR lt (l.take 1) ++ l.drop 1 = l := by
  cases l with
  | nil => rfl
  | cons x r => simp [sortR, insR, posR]
theorem en_x_slices_insertionSortCmpFunc_int : Entry Tryz.prog 86 := ⟨_, Tryz.func86, by kernel_rfl, rfl⟩
set_option maxRecDepth 100000 in
set_option maxHeartbeats 1600000 in
theorem x_insCmp_c (sv : Value) (l : List Int) (f : FuncId) (cs : List Value) (c : Int → Int → Int) (w : World) (ho : Own w [.row 3 sv (ints l)]) (hl : l.length ≤ 19)
    (hp : ∀ (x y : Int) w', Pure Tryz.prog f ([Value.int .i64 x, Value.int .i64 y] ++ cs).toArray w' (.int .i64 (c x y))) :
    Turns Tryz.prog 86 #[sv, .int .i64 0, .int .i64 (l.length : Int), .func (.func f) #[] cs.toArray] w [.row 3 sv (ints l)] [.row 3 sv (ints (sortR (ltBy c) l))] (.tuple #[]) := by
  refine turns_enter (args := [_, _, _, _]) ho en_x_slices_insertionSortCmpFunc_int Tryz.func86 rfl Tryz.ntmps86 rfl fun X => ?_
  repeat' (first | apply pwp_seq | apply pwp_region | (apply px_run; (first | (apply opv_move; first | exact hid_int rfl) | (apply opv_assign; first | exact hid_int rfl) | (apply opv_add_in; rfl; rfl; omega)); rfl; rfl) | apply px_nil | apply qseq_normal | apply pwp_block)
  refine pwp_loop (τ := Nat) [(8,9), (12,52)] (fun i => [(8, .int .i64 (i : Int))]) (fun i => Cl X w [.row 3 sv (ints (sortR (ltBy c) (l.take i) ++ l.drop i))]) (fun i => 1 ≤ i ∧ i ≤ 20) (fun i => 20 - i) 1
    ⟨rfl, trivial⟩ ⟨by omega, by omega⟩ (fun _ h => by rw [sortR_one]; exact h) (fun J i hi => ?_)
  obtain ⟨hi1, hi2⟩ := hi
  by_cases hlt : i < l.length
  · repeat' (first | apply pwp_seq | apply pwp_region | (apply px_run; (first | (apply opv_move; first | exact hid_int rfl) | (apply opv_assign; first | exact hid_int rfl) | (apply opv_lss <;> rfl)); rfl; rfl) | apply px_nil | apply qseq_normal | apply pwp_block | apply pwp_skip | (apply pwp_cond_dec; rfl; all_goals (intro hc; try (first | (exfalso; omega)))))
    have hol : (sortR (ltBy c) (l.take i)).length = i := by rw [sortR_len]; simp; omega
    have hst : sortR (ltBy c) (l.take i) ++ l.drop i = insAt (sortR (ltBy c) (l.take i)) (l.getD i 0) (l.drop (i + 1)) i := by
      have := insAt_start (sortR (ltBy c) (l.take i)) (l.getD i 0) (l.drop (i + 1))
      rw [hol] at this
      rw [this, drop_cons hlt]
    have hrd : sortR (ltBy c) (l.take (i + 1)) = insR (ltBy c) (l.getD i 0) (sortR (ltBy c) (l.take i)) := sortR_round hlt
    have hdl : (l.drop (i + 1)).length = l.length - (i + 1) := by simp
    rw [hst]
    generalize sortR (ltBy c) (l.take i) = out at *
    generalize l.getD i 0 = x at *
    generalize hre : l.drop (i + 1) = rest at hst hdl ⊢
    refine pwp_loop (τ := Nat) [(9,9), (18,52)] (fun j => [(9, .int .i64 (j : Int))]) (fun j => Cl X w [.row 3 sv (ints (insAt out x rest j))]) (fun j => j ≤ i ∧ posR (ltBy c) x out j = posR (ltBy c) x out out.length) (fun j => j) i
      ⟨rfl, trivial⟩ ⟨Nat.le_refl _, by rw [hol]⟩ (fun _ h => h) (fun J2 j hj => ?_)
    obtain ⟨hji, hpos⟩ := hj
    have hal := insAt_len (x := x) (rest := rest) (out := out) (j := j) (by omega)
    have done : posR (ltBy c) x out j = j → ∀ w', Cl X w [.row 3 sv (ints (insAt out x rest j))] w' → Cl X w [.row 3 sv (ints (sortR (ltBy c) (l.take (i + 1)) ++ rest))] w' := fun e w' h => by
      rw [hrd, ← insAt_stop (lt := ltBy c) rest, ← hpos, e]; exact h
    rcases Nat.eq_zero_or_pos j with rfl | hj0
    · repeat' (first | apply pwp_seq | apply pwp_region | (apply px_run; (first | (apply opv_move; first | exact hid_int rfl | exact hid_bool rfl | rfl) | (apply opv_assign; first | exact hid_int rfl) | (apply opv_gtr <;> rfl) | (apply opv_pick_f <;> rfl) | (apply opv_add_in; rfl; rfl; omega)); rfl; rfl) | apply px_nil | (apply px_skip; rfl; rfl) | apply qseq_normal | apply qseq_exit | apply qblock_normal | (apply qblock_exit_same; rfl) | apply pwp_exit | apply qround_exit | (apply pwp_cond_f; rfl) | (apply pwp_region_draw; kernel_rfl; kernel_rfl; exact Cl.stable _ _ _))
      refine qround_normal ?_ ⟨i + 1, ⟨rfl, trivial⟩, ⟨by omega, by omega⟩, by omega, fun w' h => by rw [hre]; exact done rfl w' h⟩
      repeat (first | exact same_refl | refine same_upd rfl ?_ | refine same_junk rfl ?_)
    · obtain ⟨k, rfl⟩ : ∃ k, j = k + 1 := ⟨j - 1, by omega⟩
      have e1 : (insAt out x rest (k + 1)).getD (k + 1) 0 = x := insAt_here (by omega)
      have e2 : (insAt out x rest (k + 1)).getD k 0 = out.getD k 0 := insAt_left (by omega) (by omega)
      have e3 : ((((k + 1 : Nat) : Int)) - 1).toNat = k := by omega
      by_cases hc0 : c x (out.getD k 0) < 0
      · repeat' (first
          | apply pwp_seq
          | apply pwp_region
          | (apply px_run; (first
              | (apply opv_move; first | exact hid_int rfl | exact hid_bool rfl | exact hid_ptr rfl | rfl)
              | (apply opv_assign; first | exact hid_int rfl | exact hid_bool rfl | exact hid_ptr rfl | rfl)
              | (apply opv_lss <;> rfl)
              | (apply opv_leq <;> rfl)
              | (apply opv_gtr <;> rfl)
              | (apply opv_geq <;> rfl)
              | (apply opv_eql <;> rfl)
              | (apply opv_neq <;> rfl)
              | (apply opv_and <;> rfl)
              | (apply opv_or <;> rfl)
              | (apply opv_xor <;> rfl)
              | (apply opv_andNot <;> rfl)
              | (apply opv_pick_t <;> rfl)
              | (apply opv_pick_f <;> rfl)
              | (apply opv_not_dec <;> rfl)
              | (apply opv_not <;> rfl)
              | (apply opv_neg <;> rfl)
              | (apply opv_add_in; rfl; rfl; omega)
              | (apply opv_sub_in; rfl; rfl; omega)
              | (apply opv_mul_in; rfl; rfl; omega)
              | (apply opv_shl; rfl; rfl; omega)
              | (apply opv_shr; rfl; rfl; omega)
              | (apply opv_quo; rfl; rfl; omega)
              | (apply opv_rem; rfl; rfl; omega)
              | (apply opv_field fld_G0; rfl)
              | (apply opv_field fld_G1; rfl)
              | (apply opv_load_blk 0; (first | with_reducible exact sc_int | with_reducible exact sc_ints); rfl; rfl; rfl)
              | (apply opv_load_blk 1; (first | with_reducible exact sc_int | with_reducible exact sc_ints); rfl; rfl; rfl)
              | (apply opv_load_blk 2; (first | with_reducible exact sc_int | with_reducible exact sc_ints); rfl; rfl; rfl)
              | (apply opv_load_blk 3; (first | with_reducible exact sc_int | with_reducible exact sc_ints); rfl; rfl; rfl)
              | (apply opv_load_blk 4; (first | with_reducible exact sc_int | with_reducible exact sc_ints); rfl; rfl; rfl)
              | (apply opv_load_ints sc_int; rfl; (first | exact rd_old (by assumption) | exact rd_row 0 rfl | exact rd_row 1 rfl | exact rd_row 2 rfl | exact rd_row 3 rfl | exact rd_row 4 rfl); (first | omega | (simp only [List.length_set]; omega)))
              | (apply opv_index_nat (vs := ints _) el_int; rfl; rfl; (first | exact rd_old (by assumption) | exact rd_row 0 rfl | exact rd_row 1 rfl | exact rd_row 2 rfl | exact rd_row 3 rfl | exact rd_row 4 rfl); (first | (simp only [ints_length]; omega) | (simp [ints]; omega)))
              | (apply opv_index (vs := ints _) el_int; rfl; rfl; (first | exact rd_old (by assumption) | exact rd_row 0 rfl | exact rd_row 1 rfl | exact rd_row 2 rfl | exact rd_row 3 rfl | exact rd_row 4 rfl); omega; (first | (simp only [ints_length]; omega) | (simp [ints]; omega)))
              | (apply opv_len_ints el_int; rfl; (first | exact rd_old (by assumption) | exact rd_row 0 rfl | exact rd_row 1 rfl | exact rd_row 2 rfl | exact rd_row 3 rfl | exact rd_row 4 rfl))
              | (apply opv_load_str 0 st_G; rfl; rfl; rfl)
              | (apply opv_load_str 1 st_G; rfl; rfl; rfl)
              | (apply opv_load_str 2 st_G; rfl; rfl; rfl)
              | (apply opv_load_str 3 st_G; rfl; rfl; rfl)
              | (apply opv_load_str 4 st_G; rfl; rfl; rfl)
              | (apply opv_callx; rfl; rfl; exact Cl.stable _ _ _; exact fun w hw => hp _ _ _)
              | (apply opv_add <;> rfl)
              | (apply opv_sub <;> rfl)
              | (apply opv_mul <;> rfl)
              | (apply opv_eql_bool ty_bool <;> rfl)
              | (apply opv_neq_bool ty_bool <;> rfl)); rfl; rfl)
          | apply px_nil
          | (apply px_skip; rfl; rfl)
          | apply qseq_normal
          | apply qseq_ret
          | apply qseq_exit
          | apply pwp_block
          | apply qblock_normal
          | apply qblock_ret
          | (apply qblock_exit_same; rfl)
          | (apply qblock_exit_other; rfl)
          | apply pwp_skip
          | apply pwp_exit
          | apply pwp_ret
          | apply qround_ret
          | apply qround_exit
          | apply qonce_ret
          | apply qonce_exit
          | (apply pwp_cond_t; rfl)
          | (apply pwp_cond_f; rfl)
          | (apply pwp_region_any [0, 1, 2, 3, 5, 6, 7, 8, 9, 10, 11, 12, 13, 14] [15] 4 (Cl X w [.row 3 sv (ints (insAt out x rest (k+1)))]); kernel_rfl; decide +kernel; exact Cl.stable _ _ _; exact fun w h => h.sub (by repeat (first | exact List.Sublist.slnil | exact List.Sublist.refl _ | apply List.Sublist.cons_cons | exact List.sublist_append_left _ _ | exact List.sublist_append_right _ _ | apply List.Sublist.cons)))
          | apply qlooks_normal
          | (apply qstep_out; decide +kernel)
          | (apply qstep_in; exact fun w h => h.sub (by repeat (first | exact List.Sublist.slnil | exact List.Sublist.refl _ | apply List.Sublist.cons_cons | exact List.sublist_append_left _ _ | exact List.sublist_append_right _ _ | apply List.Sublist.cons)))
          | (apply pxa_nil; decide +kernel)
          | (apply pxa_one 4; decide +kernel; rfl)
          | (apply pxa_one 15; decide +kernel; rfl)
          | (apply pxa_one 16; decide +kernel; rfl)
          | (apply pxa_one 17; decide +kernel; rfl)
          | (apply pxa_two 4 15; decide +kernel; rfl; rfl)
          | (apply pxa_two 4 16; decide +kernel; rfl; rfl)
          | (apply pxa_two 4 17; decide +kernel; rfl; rfl)
          | (apply pxa_two 15 16; decide +kernel; rfl; rfl)
          | (apply pxa_two 15 17; decide +kernel; rfl; rfl)
          | (apply pxa_two 16 17; decide +kernel; rfl; rfl)
          | (apply pwp_region_draw; kernel_rfl; kernel_rfl; exact Cl.stable _ _ _)
          | (apply pwp_region_mix; kernel_rfl; decide +kernel; exact Cl.stable _ _ _)
          | (apply pwp_region_draw; kernel_rfl; kernel_rfl; exact Cl.stable _ _ _)
          | (apply px_guard_ndec; rfl; rfl; rfl; all_goals (intro hc; try (first | contradiction | (exfalso; omega) | (exfalso; simp at hc; done))))
          | (apply px_guard_dec; rfl; rfl; rfl; all_goals (intro hc; try (first | contradiction | (exfalso; omega) | (exfalso; simp at hc; done))))
          | (apply px_guard_not; rfl; rfl; rfl; all_goals (intro hc; try (first | contradiction | (exfalso; omega) | (exfalso; simp at hc; done))))
          | (apply px_guard; rfl; rfl; rfl; all_goals (intro hc; (first | contradiction | (fail_if_success (cases hc); try (first | (exfalso; omega) | (exfalso; simp at hc; done))))))
          | (apply pwp_cond_ndec; rfl; all_goals (intro hc; try (first | contradiction | (exfalso; omega) | (exfalso; simp at hc; done))))
          | (apply pwp_cond_dec; rfl; all_goals (intro hc; try (first | contradiction | (exfalso; omega) | (exfalso; simp at hc; done))))
          | (apply pwp_cond_not; rfl; all_goals (intro hc; try (first | contradiction | (exfalso; omega) | (exfalso; simp at hc; done))))
          | (apply pwp_cond; rfl; all_goals (intro hc; try (first | contradiction | (exfalso; omega) | (exfalso; simp at hc; done))))
          | (apply px_box; rfl; rfl; rfl; rfl; intro bk)
          | (apply px_store_int 0 co_int; rfl; rfl; rfl; (first | omega | (simp; omega)); rfl)
          | (apply px_store_int 1 co_int; rfl; rfl; rfl; (first | omega | (simp; omega)); rfl)
          | (apply px_store_int 2 co_int; rfl; rfl; rfl; (first | omega | (simp; omega)); rfl)
          | (apply px_store_int 3 co_int; rfl; rfl; rfl; (first | omega | (simp; omega)); rfl)
          | (apply px_store_int 4 co_int; rfl; rfl; rfl; (first | omega | (simp; omega)); rfl))
        all_goals first
          | (refine qround_normal ?_ ⟨k, ⟨?_, trivial⟩, ⟨by omega, by rw [← hpos, posR, if_pos (show ltBy c x (out.getD k 0) = true from decide_eq_true hc0)]⟩, by omega, fun w' h => ?_⟩
             · repeat (first | exact same_refl | refine same_upd rfl ?_ | refine same_junk rfl ?_)
             · show Value.int .i64 _ = .int .i64 _; congr 1; omega
             · rw [e3, e1, e2, insAt_swap (by omega)] at h; exact h)
          | (exfalso; rw [e3, e1, e2] at hc; omega)
      · repeat' (first
          | apply pwp_seq
          | apply pwp_region
          | (apply px_run; (first
              | (apply opv_move; first | exact hid_int rfl | exact hid_bool rfl | exact hid_ptr rfl | rfl)
              | (apply opv_assign; first | exact hid_int rfl | exact hid_bool rfl | exact hid_ptr rfl | rfl)
              | (apply opv_lss <;> rfl)
              | (apply opv_leq <;> rfl)
              | (apply opv_gtr <;> rfl)
              | (apply opv_geq <;> rfl)
              | (apply opv_eql <;> rfl)
              | (apply opv_neq <;> rfl)
              | (apply opv_and <;> rfl)
              | (apply opv_or <;> rfl)
              | (apply opv_xor <;> rfl)
              | (apply opv_andNot <;> rfl)
              | (apply opv_pick_t <;> rfl)
              | (apply opv_pick_f <;> rfl)
              | (apply opv_not_dec <;> rfl)
              | (apply opv_not <;> rfl)
              | (apply opv_neg <;> rfl)
              | (apply opv_add_in; rfl; rfl; omega)
              | (apply opv_sub_in; rfl; rfl; omega)
              | (apply opv_mul_in; rfl; rfl; omega)
              | (apply opv_shl; rfl; rfl; omega)
              | (apply opv_shr; rfl; rfl; omega)
              | (apply opv_quo; rfl; rfl; omega)
              | (apply opv_rem; rfl; rfl; omega)
              | (apply opv_field fld_G0; rfl)
              | (apply opv_field fld_G1; rfl)
              | (apply opv_load_blk 0; (first | with_reducible exact sc_int | with_reducible exact sc_ints); rfl; rfl; rfl)
              | (apply opv_load_blk 1; (first | with_reducible exact sc_int | with_reducible exact sc_ints); rfl; rfl; rfl)
              | (apply opv_load_blk 2; (first | with_reducible exact sc_int | with_reducible exact sc_ints); rfl; rfl; rfl)
              | (apply opv_load_blk 3; (first | with_reducible exact sc_int | with_reducible exact sc_ints); rfl; rfl; rfl)
              | (apply opv_load_blk 4; (first | with_reducible exact sc_int | with_reducible exact sc_ints); rfl; rfl; rfl)
              | (apply opv_load_ints sc_int; rfl; (first | exact rd_old (by assumption) | exact rd_row 0 rfl | exact rd_row 1 rfl | exact rd_row 2 rfl | exact rd_row 3 rfl | exact rd_row 4 rfl); (first | omega | (simp only [List.length_set]; omega)))
              | (apply opv_index_nat (vs := ints _) el_int; rfl; rfl; (first | exact rd_old (by assumption) | exact rd_row 0 rfl | exact rd_row 1 rfl | exact rd_row 2 rfl | exact rd_row 3 rfl | exact rd_row 4 rfl); (first | (simp only [ints_length]; omega) | (simp [ints]; omega)))
              | (apply opv_index (vs := ints _) el_int; rfl; rfl; (first | exact rd_old (by assumption) | exact rd_row 0 rfl | exact rd_row 1 rfl | exact rd_row 2 rfl | exact rd_row 3 rfl | exact rd_row 4 rfl); omega; (first | (simp only [ints_length]; omega) | (simp [ints]; omega)))
              | (apply opv_len_ints el_int; rfl; (first | exact rd_old (by assumption) | exact rd_row 0 rfl | exact rd_row 1 rfl | exact rd_row 2 rfl | exact rd_row 3 rfl | exact rd_row 4 rfl))
              | (apply opv_load_str 0 st_G; rfl; rfl; rfl)
              | (apply opv_load_str 1 st_G; rfl; rfl; rfl)
              | (apply opv_load_str 2 st_G; rfl; rfl; rfl)
              | (apply opv_load_str 3 st_G; rfl; rfl; rfl)
              | (apply opv_load_str 4 st_G; rfl; rfl; rfl)
              | (apply opv_callx; rfl; rfl; exact Cl.stable _ _ _; exact fun w hw => hp _ _ _)
              | (apply opv_add <;> rfl)
              | (apply opv_sub <;> rfl)
              | (apply opv_mul <;> rfl)
              | (apply opv_eql_bool ty_bool <;> rfl)
              | (apply opv_neq_bool ty_bool <;> rfl)); rfl; rfl)
          | apply px_nil
          | (apply px_skip; rfl; rfl)
          | apply qseq_normal
          | apply qseq_ret
          | apply qseq_exit
          | apply pwp_block
          | apply qblock_normal
          | apply qblock_ret
          | (apply qblock_exit_same; rfl)
          | (apply qblock_exit_other; rfl)
          | apply pwp_skip
          | apply pwp_exit
          | apply pwp_ret
          | apply qround_ret
          | apply qround_exit
          | apply qonce_ret
          | apply qonce_exit
          | (apply pwp_cond_t; rfl)
          | (apply pwp_cond_f; rfl)
          | (apply pwp_region_any [0, 1, 2, 3, 5, 6, 7, 8, 9, 10, 11, 12, 13, 14] [15] 4 (Cl X w [.row 3 sv (ints (insAt out x rest (k+1)))]); kernel_rfl; decide +kernel; exact Cl.stable _ _ _; exact fun w h => h.sub (by repeat (first | exact List.Sublist.slnil | exact List.Sublist.refl _ | apply List.Sublist.cons_cons | exact List.sublist_append_left _ _ | exact List.sublist_append_right _ _ | apply List.Sublist.cons)))
          | apply qlooks_normal
          | (apply qstep_out; decide +kernel)
          | (apply qstep_in; exact fun w h => h.sub (by repeat (first | exact List.Sublist.slnil | exact List.Sublist.refl _ | apply List.Sublist.cons_cons | exact List.sublist_append_left _ _ | exact List.sublist_append_right _ _ | apply List.Sublist.cons)))
          | (apply pxa_nil; decide +kernel)
          | (apply pxa_one 4; decide +kernel; rfl)
          | (apply pxa_one 15; decide +kernel; rfl)
          | (apply pxa_one 16; decide +kernel; rfl)
          | (apply pxa_one 17; decide +kernel; rfl)
          | (apply pxa_two 4 15; decide +kernel; rfl; rfl)
          | (apply pxa_two 4 16; decide +kernel; rfl; rfl)
          | (apply pxa_two 4 17; decide +kernel; rfl; rfl)
          | (apply pxa_two 15 16; decide +kernel; rfl; rfl)
          | (apply pxa_two 15 17; decide +kernel; rfl; rfl)
          | (apply pxa_two 16 17; decide +kernel; rfl; rfl)
          | (apply pwp_region_draw; kernel_rfl; kernel_rfl; exact Cl.stable _ _ _)
          | (apply pwp_region_mix; kernel_rfl; decide +kernel; exact Cl.stable _ _ _)
          | (apply pwp_region_draw; kernel_rfl; kernel_rfl; exact Cl.stable _ _ _)
          | (apply px_guard_ndec; rfl; rfl; rfl; all_goals (intro hc; try (first | contradiction | (exfalso; omega) | (exfalso; simp at hc; done))))
          | (apply px_guard_dec; rfl; rfl; rfl; all_goals (intro hc; try (first | contradiction | (exfalso; omega) | (exfalso; simp at hc; done))))
          | (apply px_guard_not; rfl; rfl; rfl; all_goals (intro hc; try (first | contradiction | (exfalso; omega) | (exfalso; simp at hc; done))))
          | (apply px_guard; rfl; rfl; rfl; all_goals (intro hc; (first | contradiction | (fail_if_success (cases hc); try (first | (exfalso; omega) | (exfalso; simp at hc; done))))))
          | (apply pwp_cond_ndec; rfl; all_goals (intro hc; try (first | contradiction | (exfalso; omega) | (exfalso; simp at hc; done))))
          | (apply pwp_cond_dec; rfl; all_goals (intro hc; try (first | contradiction | (exfalso; omega) | (exfalso; simp at hc; done))))
          | (apply pwp_cond_not; rfl; all_goals (intro hc; try (first | contradiction | (exfalso; omega) | (exfalso; simp at hc; done))))
          | (apply pwp_cond; rfl; all_goals (intro hc; try (first | contradiction | (exfalso; omega) | (exfalso; simp at hc; done))))
          | (apply px_box; rfl; rfl; rfl; rfl; intro bk)
          | (apply px_store_int 0 co_int; rfl; rfl; rfl; (first | omega | (simp; omega)); rfl)
          | (apply px_store_int 1 co_int; rfl; rfl; rfl; (first | omega | (simp; omega)); rfl)
          | (apply px_store_int 2 co_int; rfl; rfl; rfl; (first | omega | (simp; omega)); rfl)
          | (apply px_store_int 3 co_int; rfl; rfl; rfl; (first | omega | (simp; omega)); rfl)
          | (apply px_store_int 4 co_int; rfl; rfl; rfl; (first | omega | (simp; omega)); rfl))
        all_goals first
          | (refine qround_normal ?_ ⟨i + 1, ⟨rfl, trivial⟩, ⟨by omega, by omega⟩, by omega, fun w' h => by rw [hre]; exact done (by rw [posR, if_neg (by simpa [ltBy] using hc0)]) w' h⟩
             repeat (first | exact same_refl | refine same_upd rfl ?_ | refine same_junk rfl ?_))
          | (exfalso; rw [e3, e1, e2] at hc; omega)
  · repeat' (first | apply pwp_seq | apply pwp_region | (apply px_run; (first | (apply opv_move; first | exact hid_int rfl) | (apply opv_lss <;> rfl)); rfl; rfl) | apply px_nil | apply qseq_normal | apply qseq_exit | (apply qblock_exit_same; rfl) | apply pwp_exit | apply qround_exit | (apply pwp_cond_dec; rfl; all_goals (intro hc; try (first | (exfalso; omega)))))
    refine qbody_end0 rfl ⟨rfl, fun w' h => ?_⟩
    rw [List.take_of_length_le (by omega), List.drop_of_length_le (by omega), List.append_nil] at h; exact h
theorem en_x_slices_stableCmpFunc_int : Entry Tryz.prog 61 := ⟨_, Tryz.func61, by kernel_rfl, rfl⟩
theorem x_stable_c (sv : Value) (l : List Int) (f : FuncId) (cs : List Value) (c : Int → Int → Int) (w : World) (ho : Own w [.row 3 sv (ints l)]) (hl : l.length ≤ 19)
    (hp : ∀ (x y : Int) w', Pure Tryz.prog f ([Value.int .i64 x, Value.int .i64 y] ++ cs).toArray w' (.int .i64 (c x y))) :
    Turns Tryz.prog 61 #[sv, .int .i64 (l.length : Int), .func (.func f) #[] cs.toArray] w [.row 3 sv (ints l)] [.row 3 sv (ints (sortR (ltBy c) l))] (.tuple #[]) := by
  refine turns_enter (args := [_, _, _]) ho en_x_slices_stableCmpFunc_int Tryz.func61 rfl Tryz.ntmps61 rfl fun X => ?_
  repeat' (first | apply pwp_seq | apply pwp_region | (apply px_run; (first | (apply opv_move; first | exact hid_int rfl) | (apply opv_assign; first | exact hid_int rfl)); rfl; rfl) | apply px_nil | apply qseq_normal | apply pwp_block)
  refine pwp_loop_once ?_
  repeat' (first | apply pwp_seq | apply pwp_region | (apply px_run; (first | (apply opv_move; first | exact hid_int rfl | rfl) | (apply opv_leq <;> rfl)); rfl; rfl) | apply px_nil | apply qseq_normal | apply qseq_exit | apply pwp_block | (apply qblock_exit_same; rfl) | apply pwp_exit | apply qonce_exit | (apply pwp_cond_dec; rfl; all_goals (intro hc; try (first | (exfalso; omega)))) | (apply px_turns [0]; rfl; rfl; rfl; rfl; rfl; exact fun w ho => x_insCmp_c _ l f cs c _ ho hl hp))
  refine pwp_loop_once ?_
  repeat' (first | apply pwp_seq | apply pwp_region | (apply px_run; (first | (apply opv_move; first | exact hid_int rfl) | (apply opv_lss <;> rfl)); rfl; rfl) | apply px_nil | apply qseq_normal | apply qseq_exit | (apply qblock_exit_same; rfl) | apply pwp_exit | apply qonce_exit | (apply pwp_cond_dec; rfl; all_goals (intro hc; try (first | (exfalso; omega)))))
  refine qbody_end0 rfl ⟨rfl, fun w' h => h⟩
theorem en_x_slices_SortStableFunc_int_int : Entry Tryz.prog 30 := ⟨_, Tryz.func30, by kernel_rfl, rfl⟩
theorem x_SortStable_c (sv : Value) (l : List Int) (f : FuncId) (cs : List Value) (c : Int → Int → Int) (w : World) (ho : Own w [.row 3 sv (ints l)]) (hl : l.length ≤ 19)
    (hp : ∀ (x y : Int) w', Pure Tryz.prog f ([Value.int .i64 x, Value.int .i64 y] ++ cs).toArray w' (.int .i64 (c x y))) :
    Turns Tryz.prog 30 #[sv, .func (.func f) #[] cs.toArray] w [.row 3 sv (ints l)] [.row 3 sv (ints (sortR (ltBy c) l))] (.tuple #[]) := by
  refine turns_enter (args := [_, _]) ho en_x_slices_SortStableFunc_int_int Tryz.func30 rfl Tryz.ntmps30 rfl fun X => ?_
  repeat' (first | apply pwp_region | (apply px_run; (first | (apply opv_move; first | rfl) | (apply opv_len_ints el_int; rfl; (first | exact rd_row 0 rfl))); rfl; rfl) | apply px_nil | (apply px_turns [0]; rfl; rfl; rfl; rfl; rfl; exact fun w ho => x_stable_c _ l f cs c _ ho hl hp))
  refine qbody_end0 rfl ⟨rfl, fun w' h => h⟩
end Go.Proofs.YtoejpckfeflkaaaGreatDoor
