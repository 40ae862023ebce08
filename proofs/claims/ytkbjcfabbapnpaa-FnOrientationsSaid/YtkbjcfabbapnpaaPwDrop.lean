/- The rest of a slice behind its first places; 'clear' of it. -/
import Derived.Test.YtkbjcfabbapnpaaPwClos
import Derived.Lib.SliceRun
import Derived.Deep.Upon
namespace Go.Pw
open Go Go.RowKit

def dropV (k : Nat) : Value → Value
  | .slice a l c => .slice (if c - k = 0 then a else a.map (·.add k)) (l - k) (c - k)
  | v => v
theorem arr_drop {w : World} {sv : Value} {vs : List Value} {k : Nat} (h : Arr w sv vs) (hk : k ≤ vs.length) : Arr w (dropV k sv) (vs.drop k) := by
  have h0 := h.fits
  rcases h.out with ⟨rfl, ao, cap, rfl, hz⟩ | ⟨b, off, cap, rfl, h2, h3, h4⟩
  · obtain rfl : k = 0 := by simpa using hk
    refine ⟨by simp [dropV, fitsB], .inl ⟨by simp, _, cap, rfl, ?_⟩⟩
    intro h
    split at h
    · exact hz h
    · cases ao with
      | none => exact hz rfl
      | some a => simp at h
  · have hl : vs.length ≤ cap := Nat.le_of_ble_eq_true h0
    by_cases hk0 : k = vs.length
    · subst hk0
      refine ⟨?_, .inl ⟨by simp, _, cap - vs.length, by simp only [dropV, Nat.sub_self]; rfl, ?_⟩⟩
      · simp [dropV, fitsB]
      · intro h
        split at h <;> cases h
    · have hlen : (vs.drop k).length = vs.length - k := by simp
      refine ⟨?_, .inr ⟨b, off + k, cap - k, ?_, by omega, by omega, fun i hi => ?_⟩⟩
      · exact Nat.ble_eq_true_of_le (by omega)
      · rw [hlen]; simp only [dropV]; rw [if_neg (by omega)]; simp [Addr.add]
      · rw [hlen] at hi
        rw [List.getElem?_drop, ← h4 (k + i) (by omega), Nat.add_assoc]
theorem ints_drop (l : List Int) (k : Nat) : (ints l).drop k = ints (l.drop k) := by simp [ints, List.map_drop]
theorem arr_drop_ints {w : World} {sv : Value} {l : List Int} {k : Nat} (h : Arr w sv (ints l)) (hk : k ≤ l.length) : Arr w (dropV k sv) (ints (l.drop k)) := by
  rw [← ints_drop]; exact arr_drop h (by simpa using hk)
section
variable {P : Program} {C : Cls} {ρ : Operand → Value} {d : Option Tmp} {t t' ty : TypeId} {pos : String} {af : Array Edge} {g : Option (Nat × Bool)} {x y z : Operand} {m n : Int}
theorem rd_drop {sv : Value} {vs : List Value} {k : Nat} (hr : Rd C sv vs) (hk : k ≤ vs.length) : Rd C (dropV k sv) (vs.drop k) := ⟨fun w hw => arr_drop (hr.out w hw) hk⟩
theorem rd_drop_ints {sv : Value} {l : List Int} {k : Nat} (hr : Rd C sv (ints l)) (hk : k ≤ l.length) : Rd C (dropV k sv) (ints (l.drop k)) := ⟨fun w hw => arr_drop_ints (hr.out w hw) hk⟩
/-- 's[k:]'. -/
theorem opv_drop {sv : Value} {vs : List Value} {e : TypeId} {k : Nat} (ht : Elem1 P t e) (hx : ρ x = sv) (hy : ρ y = .int .i64 (k : Int)) (hr : Rd C sv vs) (hk : k ≤ vs.length) :
    Opv P C ρ ⟨d, .slice t x (some y) none none, ty, pos, af, g⟩ (dropV k sv) := by
  obtain ⟨h1, i, h2, h3⟩ := ht
  refine opv_of_run fun w hw => ?_
  have h0 := (hr.out w hw).fits
  have key : ∀ (a : Option Addr) (l c : Nat), sv = .slice a l c → k ≤ l → l ≤ c → (execOp ρ ⟨d, .slice t x (some y) none none, ty, pos, af, g⟩).run P w = .ok (.value (dropV k sv)) w := by
    rintro a l c rfl hkl hlc
    by_cases hck : c - k = 0
    · obtain rfl : c = k := by omega
      simp [execOp, go_sem, hx, hy, run_underlying h1, h2, h3, hkl, Instr.sliceAt, Instr.slice, Instr.sliceBounds, Instr.sliceBound, sizeOf, typeInfo, dropV]
    · have hck' : ¬ c = k := by omega
      simp [execOp, go_sem, hx, hy, run_underlying h1, h2, h3, hkl, hck, hck', Instr.sliceAt, Instr.slice, Instr.sliceBounds, Instr.sliceBound, sizeOf, typeInfo, dropV]
  rcases (hr.out w hw).out with ⟨rfl, ao, cap, rfl, _⟩ | ⟨b, off, cap, rfl, _⟩
  · exact key _ _ _ rfl (by simpa using hk) (Nat.zero_le _)
  · exact key _ _ _ rfl hk (Nat.le_of_ble_eq_true h0)
end
theorem size_cells (b : Nat) : ∀ (vs : List Value) (o : Nat) (w : World), (w.setCells b o vs).heap.size = w.heap.size
  | [], _, _ => rfl
  | v :: r, o, w => by rw [World.setCells, size_cells b r]; rw [World.setCell]; simp
theorem tape_cells (b : Nat) : ∀ (vs : List Value) (o : Nat) (w : World), (w.setCells b o vs).tape = w.tape
  | [], _, _ => rfl
  | v :: r, o, w => by rw [World.setCells, tape_cells b r]; rfl
theorem ownsRow_setCells {e : TypeId} {g n cap : Nat} : ∀ (vs : List Value) (o : Nat) (w : World) (xs : List Value), w.ownsRow 0 e 1 (.slice (some ⟨g, 0, none⟩) n cap) n xs → o + vs.length ≤ xs.length →
    (w.setCells g o vs).ownsRow 0 e 1 (.slice (some ⟨g, 0, none⟩) n cap) n (xs.take o ++ vs ++ xs.drop (o + vs.length))
  | [], o, w, xs, h, _ => by simpa [World.setCells] using h
  | v :: r, o, w, xs, h, hl => by
    simp only [List.length_cons] at hl
    have h1 := (World.ownsRow.stored h o v).1
    have h2 := ownsRow_setCells r (o + 1) (w.setCell ⟨g, o, none⟩ v) (xs.set o v) h1 (by simp; omega)
    rw [World.setCells]
    have e1 : xs.take o ++ (v :: r) ++ xs.drop (o + (v :: r).length) = (xs.set o v).take (o + 1) ++ r ++ (xs.set o v).drop (o + 1 + r.length) := by
      have a1 : (xs.set o v).take (o + 1) = xs.take o ++ [v] := by
        rw [List.take_add_one, List.getElem?_set_self (by omega), List.take_set_of_le (Nat.le_refl _)]; rfl
      have a2 : (xs.set o v).drop (o + 1 + r.length) = xs.drop (o + 1 + r.length) := List.drop_set_of_lt (by omega)
      rw [a1, a2, List.length_cons]
      simp only [List.append_assoc, List.cons_append, List.nil_append]
      congr 4
      omega
    rw [e1]; exact h2
section
variable {P : Program} {n : Nat} {ops : List Oper} {l : List Oper} {Q : Post} {E : Env} {X : List Nat} {w0 : World} {objs : List Ob} {d : Option Nat} {t ty e : TypeId} {pos : String} {af : Array Edge} {g : Option (Nat × Bool)} {x y : Operand}
/-- 'clear(s[i:])', s a row of the call's own. -/
theorem px_clear_drop {sv zv : Value} {vs : List Value} {bytes i : Nat} (k : Nat) (he : ElemZ P t e zv bytes) (hz1 : zv.oneCell' = true) (hx : ev E x = dropV i sv) (hn : nthOb objs k = some (.row e sv vs)) (hi : i ≤ vs.length)
    (hw : wantE ops E g = true) (hd : okDst d n = true) (h : Px P n ops .seq l Q (updo E d (.tuple #[])) (Cl X w0 (setOb objs k (.row e sv (vs.take i ++ List.replicate (vs.length - i) zv))))) :
    Px P n ops .seq (⟨d, .call { callee := .builtin .clear, args := #[x], argTypes := #[t] }, ty, pos, af, g⟩ :: l) Q E (Cl X w0 objs) :=
  px_op hw hd fun w hC => by
    obtain ⟨ti, hti, z1, z2, z3⟩ := info_parts he.info
    have hown : w.ownsRow 0 e 1 sv vs.length vs := hC.holds _ (nthOb_mem hn)
    have hzero : ∀ w, (zeroValue e).run P w = .ok zv w := fun w => by simp [zeroValue, typeInfo, hti, z1]
    rcases hown.2 with ⟨rfl, h0⟩ | ⟨b, cap, cur, rfl, h3, h4, h5, h6, h7, h8⟩
    · have hv0 : vs = [] := List.eq_nil_of_length_eq_zero h0
      subst hv0
      refine ⟨.tuple #[], w, _, ?_, ?_, h⟩
      · have hx' : ev E x = .slice none 0 0 := by rw [hx]; simp [dropV]
        simp [execOp, resolve, invoke, builtin, hx', Builtin.clear_, run_underlying he.und]
      · refine hC.turnAt hn (Nat.le_refl _) rfl rfl rfl (fun _ _ _ => rfl) ?_ (fun j hj => .inl hj)
        show World.ownsRow _ _ _ _ _ (List.take i [] ++ List.replicate (List.length [] - i) zv).length _
        simpa using hown
    · by_cases hil : i = vs.length
      · subst hil
        refine ⟨.tuple #[], w, _, ?_, ?_, h⟩
        · obtain ⟨a, c', hx'⟩ : ∃ a c', ev E x = .slice a 0 c' := ⟨_, _, by rw [hx]; simp only [dropV, Nat.sub_self]; rfl⟩
          cases a <;> simp [execOp, resolve, invoke, builtin, hx', Builtin.clear_, run_underlying he.und]
        · refine hC.turnAt hn (Nat.le_refl _) rfl rfl rfl (fun _ _ _ => rfl) ?_ (fun j hj => .inl hj)
          show World.ownsRow _ _ _ _ _ (List.take vs.length vs ++ List.replicate (vs.length - vs.length) zv).length _
          simpa using hown
      · have hx' : ev E x = .slice (some ⟨b, i, none⟩) (vs.length - i) (cap - i) := by
          rw [hx]; simp only [dropV]; rw [if_neg (by omega)]; simp only [Option.map_some, Addr.add_lit, Nat.zero_add]
        have hr := Lib.run_clear_slice (P := P) w t e ty zv he.und hzero he.cell hz1 b i (vs.length - i) (cap - i) (by omega)
          (fun j hj => by
            have := World.ownsRow.cellAt hown (i + j) (by omega)
            rw [this]; simp; omega)
          (fun j _ => World.ownsRow.frozenAt hown (i + j))
        refine ⟨.tuple #[], w.setCells b i (List.replicate (vs.length - i) zv), _, ?_, ?_, h⟩
        · simp [execOp, resolve, invoke, builtin, hx', hr]
        · have hkb := World.keptBut_setCells b (may := fun _ => True) (List.replicate (vs.length - i) zv) i w (fun _ _ => trivial)
          refine hC.turnAt hn (Nat.le_of_eq (size_cells b _ i w).symm) (World.os_setCells ..) (tape_cells b _ i w) (World.output_setCells ..) (fun j hj hne => World.heap_setCells_other w b i _ hj fun e => hne (by rw [e]; rfl)) ?_ (fun j hj => .inl hj)
          have := ownsRow_setCells (List.replicate (vs.length - i) zv) i w vs hown (by simp; omega)
          show World.ownsRow _ _ _ _ _ (vs.take i ++ List.replicate (vs.length - i) zv).length _
          have e2 : vs.drop (i + (List.replicate (vs.length - i) zv).length) = [] := List.drop_eq_nil_of_le (by simp; omega)
          rw [e2, List.append_nil] at this
          have e3 : (vs.take i ++ List.replicate (vs.length - i) zv).length = vs.length := by simp; omega
          rw [e3]; exact this
theorem px_clear_ints {sv : Value} {M : List Int} {bytes i : Nat} (k : Nat) (he : ElemZ P t e (.int .i64 0) bytes) (hx : ev E x = dropV i sv) (hn : nthOb objs k = some (.row e sv (ints M))) (hi : i ≤ M.length)
    (hw : wantE ops E g = true) (hd : okDst d n = true) (h : Px P n ops .seq l Q (updo E d (.tuple #[])) (Cl X w0 (setOb objs k (.row e sv (ints (M.take i ++ List.replicate (M.length - i) 0)))))) :
    Px P n ops .seq (⟨d, .call { callee := .builtin .clear, args := #[x], argTypes := #[t] }, ty, pos, af, g⟩ :: l) Q E (Cl X w0 objs) :=
  px_clear_drop k he rfl hx hn (by simpa using hi) hw hd (by
    have : ints (M.take i ++ List.replicate (M.length - i) 0) = (ints M).take i ++ List.replicate ((ints M).length - i) (.int .i64 0) := by simp [ints, List.map_take]
    rw [← this]; exact h)
/-- A call that turns its caller's objects and reads other ones. -/
theorem px_turnsC (ks : List Nat) {f : FuncId} {args : List Operand} {ats : Array TypeId} {avs : List Value} {old new rest : List Ob} {v : Value} (hρ : ev E (.func f) = .func (.func f) #[] #[]) (ha : evl (ev E) args = avs)
    (hp : pull objs ks = some (old, rest)) (hw : wantE ops E g = true) (hd : okDst d n = true)
    (hc : ∀ w, Own w old → Cl X w0 (old ++ rest) w → Turns P f avs.toArray w old new v) (h : Px P n ops .seq l Q (updo E d v) (Cl X w0 (new ++ rest))) :
    Px P n ops .seq (⟨d, .call { callee := .value (.func f), args := args.toArray, argTypes := ats }, ty, pos, af, g⟩ :: l) Q E (Cl X w0 objs) := by
  have hown : ∀ w, Cl X w0 objs w → Own w old ∧ Cl X w0 (old ++ rest) w := fun w hC => by
    have := hC.perm (pull_perm ks _ _ _ hp)
    exact ⟨this.own, this⟩
  refine px_call hw hd (fun w hC => run_call (hc w (hown w hC).1 (hown w hC).2).entry hρ w) fun w hC => ?_
  rw [evl_eq, ha]
  exact (hc w (hown w hC).1 (hown w hC).2).out.mono fun e w' ⟨he, hcl⟩ => ⟨v, _, he, (hown w hC).2.turnMany hcl, h⟩
end
theorem turns_enterX {P : Program} {f : FuncId} {fn : Func} {c : Code} {args : List Value} {w : World} {old new : List Ob} {v : Value} {n : Nat} {X : List Nat} (hX : X = blocksOf old) (ho : Own w old) (he : Entry P f)
    (hf : P.funcs[f]? = some fn) (hb : fn.body = some c) (hn : fn.ntmps = n) (hle : Nat.ble args.length n = true)
    (h : Pwp P n c (qbody P fn (fun u C' => u = v ∧ ∀ w', C' w' → Cl X w new w')) (envOf args) (Cl X w old)) : Turns P f args.toArray w old new v := by
  subst hX
  exact ⟨he, ((pcall_enter hf hb hn (Nat.le_of_ble_eq_true hle) h).out w ho.start).mono fun e w' ⟨u, C', h1, h2, h3, h4⟩ => ⟨by rw [h1, h3], h4 w' h2⟩⟩
theorem own_take {w : World} {e : TypeId} {sv : Value} {vs : List Value} (h : Own w [.row e sv vs]) : takeV sv vs.length = sv := by
  have h1 : w.ownsRow 0 e 1 sv vs.length vs := h.holds _ (List.mem_singleton_self _)
  rcases h1.2 with ⟨rfl, h0⟩ | ⟨b, cap, cur, rfl, _⟩
  · rw [h0]; rfl
  · rfl
end Go.Pw
