/- A cursor over bytes that came in: calls that turn it. -/
import Derived.Test.YtoejpckfeflkaaaGreatDoorPwRdr
namespace Go.Pw
open Go Go.RowKit
def byts (l : List Int) : List Value := l.map (Value.int .u8)
theorem byts_length (l : List Int) : (byts l).length = l.length := List.length_map ..
theorem byts_get (l : List Int) (i : Nat) (h : i < l.length) : (byts l)[i]? = some (.int .u8 (l.getD i 0)) := by simp [byts, h]
/-- The cells of a cursor. -/
def cells3 (cv : Value) (i h : Int) : List Value := [cv, .int .i64 i, .int .i64 h]
theorem arr_apart {w : World} {cv : Value} {l : List Int} {cb : Nat} {i h : Int} {objs : List Ob} (ha : Arr w cv (byts l)) (ho : Own w (.blk cb (cells3 cv i h) :: objs)) : ∀ b off n c, cv = .slice (some ⟨b, off, none⟩) n c → b = cb → l = [] := fun b off n c e hb => by
  cases l with
  | nil => rfl
  | cons x l =>
    exfalso
    rcases ha.out with ⟨h1, _⟩ | ⟨b2, off2, cap2, e2, _, _, hc⟩
    · cases h1
    · rw [e] at e2
      injection e2 with e3 e4 e5
      injection e3 with e3
      injection e3 with e6 e7
      have h0 := hc 0 (by simp [byts])
      rw [← e6, hb] at h0
      obtain ⟨t, hg⟩ := ho.holds _ (List.mem_cons_self ..)
      rw [cell_of_row w cb _ _ t (0, 0) hg] at h0
      simp only [byts, List.map_cons, List.getElem?_cons_zero] at h0
      have h3 : (cells3 cv i h)[off2 + 0]? = some (.int .u8 x) := by simpa using h0
      have hlt := (List.getElem?_eq_some_iff.1 h3).1
      have hl : (cells3 cv i h).length = 3 := rfl
      rw [hl] at hlt
      have : off2 = 0 ∨ off2 = 1 ∨ off2 = 2 := by omega
      rcases this with rfl | rfl | rfl
      · rw [e] at h3; cases h3
      · cases h3
      · cases h3
theorem Cl.arrX {X : List Nat} {w0 w : World} {objs : List Ob} {sv : Value} {vs : List Value} (h : Cl X w0 objs w) (ha : Arr w0 sv vs) (hx : ∀ b off n c, sv = .slice (some ⟨b, off, Option.none⟩) n c → b ∈ X → vs = []) : Arr w sv vs := by
  have h0 := ha.fits
  rcases ha.out with h1 | ⟨b, off, cap, h1, h2, h3, h4⟩
  · exact ⟨h0, .inl h1⟩
  · refine ⟨h0, .inr ⟨b, off, cap, h1, h2, h3, fun i hi => ?_⟩⟩
    have hlt : b < w0.heap.size := World.block_lt_of_cell? w0 ⟨b, off + i, Option.none⟩ (u := vs[i]) (by rw [h4 i hi]; simp [hi])
    have hn : b ∉ X := fun hb => by
      have := hx b off vs.length cap h1 hb
      rw [this] at h2; simp at h2
    have hf := h.frame b hlt hn
    rw [← h4 i hi]
    unfold World.cell?
    simp only [hf]
theorem givesU_enterX {P : Program} {f : FuncId} {fn : Func} {c : Code} {args : List Value} {w : World} {old : List Ob} {R : Value → List Ob → Prop} {n : Nat} {X : List Nat} (hX : X = blocksOf old) (ho : Own w old) (he : Entry P f)
    (hf : P.funcs[f]? = some fn) (hb : fn.body = some c) (hn : fn.ntmps = n) (hle : Nat.ble args.length n = true)
    (h : Pwp P n c (qbody P fn (fun u C' => ∃ new, R u new ∧ ∀ w', C' w' → Cl X w new w')) (envOf args) (Cl X w old)) : GivesU P f args.toArray w old R := by
  subst hX
  exact ⟨he, ((pcall_enter hf hb hn (Nat.le_of_ble_eq_true hle) h).out w ho.start).mono fun _ w' ⟨u, _, h1, h2, new, h3, h4⟩ => ⟨u, new, h1, h3, h4 w' h2⟩⟩
theorem opv_shr_k {P : Program} {C : Cls} {ρ : Operand → Value} {d : Option Tmp} {t t' ty : TypeId} {pos : String} {af : Array Edge} {g : Option (Nat × Bool)} {x y : Operand} {m n : Int} {k : IntKind} (hx : ρ x = .int .i64 m) (hy : ρ y = .int k n) (h : 0 ≤ n) : Opv P C ρ ⟨d, .binOp .shr t x y t', ty, pos, af, g⟩ (.int .i64 (ishr m n)) :=
  opv_of_run fun w _ => by simp [execOp, go_sem, hx, hy, Op.shift, Int.not_lt.2 h]; rfl
theorem iand255 (x : Int) : 0 ≤ iand x 255 ∧ iand x 255 ≤ 255 := by
  unfold iand
  have h : (BitVec.ofInt 64 x &&& BitVec.ofInt 64 255).toNat ≤ 255 := by
    rw [BitVec.toNat_and]
    exact Nat.le_trans Nat.and_le_right (by decide)
  rw [w64_in ⟨by omega, by omega⟩]
  omega
theorem tmod_in {m n : Int} (hm : 0 ≤ m) (hn : 0 < n) : 0 ≤ m.tmod n ∧ m.tmod n < n := by
  rw [Int.tmod_eq_emod_of_nonneg hm]
  exact ⟨Int.emod_nonneg _ (by omega), Int.emod_lt_of_pos _ hn⟩
/-- The cursor cb over the bytes l, somewhere. -/
def CurP (cv : Value) (l : List Int) (cb : Nat) (new : List Ob) : Prop := ∃ i h, (0 ≤ i ∧ i ≤ (l.length : Int)) ∧ new = [.blk cb (cells3 cv i h)]
section
variable {P : Program} {E : Env} {n : Nat} {d : Option Tmp} {ty : TypeId} {pos : String} {af : Array Edge} {g : Option (Nat × Bool)} {ops l : List Oper} {Q : Post} {X : List Nat} {w0 : World} {objs : List Ob}
theorem px_givesV (ks : List Nat) {f : FuncId} {args : List Operand} {ats : Array TypeId} {avs : List Value} {old rest : List Ob} {R : Value → List Ob → Prop} (hρ : ev E (.func f) = .func (.func f) #[] #[]) (ha : evl (ev E) args = avs)
    (hp : pull objs ks = some (old, rest)) (hw : wantE ops E g = true) (hd : okDst d n = true)
    (hc : ∀ w, Cl X w0 objs w → Own w old → GivesU P f avs.toArray w old R) (h : ∀ v new, R v new → Px P n ops .seq l Q (updo E d v) (Cl X w0 (new ++ rest))) :
    Px P n ops .seq (⟨d, .call { callee := .value (.func f), args := args.toArray, argTypes := ats }, ty, pos, af, g⟩ :: l) Q E (Cl X w0 objs) := by
  have hown : ∀ w, Cl X w0 objs w → Own w old ∧ Cl X w0 (old ++ rest) w := fun w hC => by
    have := hC.perm (pull_perm ks _ _ _ hp)
    exact ⟨this.own, this⟩
  refine px_call hw hd (fun w hC => run_call (hc w hC (hown w hC).1).entry hρ w) fun w hC => ?_
  rw [evl_eq, ha]
  exact (hc w hC (hown w hC).1).out.mono fun e w' ⟨v, new, he, hR, hcl⟩ => ⟨v, _, he, (hown w hC).2.turnMany hcl, h v new hR⟩
end
section
variable {P : Program} {E : Env} {n : Nat} {d : Option Tmp} {t ty e : TypeId} {pos : String} {af : Array Edge} {g : Option (Nat × Bool)} {ops l : List Oper} {Q : Post} {X : List Nat} {w0 : World} {objs : List Ob}
theorem px_lit5 {md : Md} {zv : Value} {bytes : Nat} {x0 x1 x2 x3 x4 : Operand} {v0 v1 v2 v3 v4 : Value} (he : ElemZ P t e zv bytes) (h0 : ev E x0 = v0) (s0 : storable v0 = true) (h1 : ev E x1 = v1) (s1 : storable v1 = true) (h2 : ev E x2 = v2) (s2 : storable v2 = true) (h3 : ev E x3 = v3) (s3 : storable v3 = true) (h4 : ev E x4 = v4) (s4 : storable v4 = true) (hmd : mdOk md (.buildSlice t 5 #[(0, x0), (1, x1), (2, x2), (3, x3), (4, x4)]) = true) (hw : wantE ops E g = true) (hd : okDst d n = true)
    (h : ∀ sv, Px P n ops md l Q (updo E d sv) (Cl X w0 (.row e sv [v0, v1, v2, v3, v4] :: objs))) :
    Px P n ops md (⟨d, .buildSlice t 5 #[(0, x0), (1, x1), (2, x2), (3, x3), (4, x4)], ty, pos, af, g⟩ :: l) Q E (Cl X w0 objs) :=
  px_opN hmd hw hd fun w hC => by
    obtain ⟨i, hi, z1, z2, z3⟩ := info_parts he.info
    have hsz : ∀ w, (sizeOf e).run P w = .ok 1 w := fun w => by simp [sizeOf, typeInfo, hi, z2]
    have hzero : ∀ w, (zeroValue e).run P w = .ok zv w := fun w => by simp [zeroValue, typeInfo, hi, z1]
    have hcell := he.cell
    have c0 := storable_cells s0
    have c1 := storable_cells s1
    have c2 := storable_cells s2
    have c3 := storable_cells s3
    have c4 := storable_cells s4
    refine ⟨.slice (some ⟨w.heap.size, 0, Option.none⟩) 5 5, w.alloc (.cells #[v0, v1, v2, v3, v4] e), _, ?_, hC.push (below_alloc w _) (.row e (.slice (some ⟨w.heap.size, 0, Option.none⟩) 5 5) [v0, v1, v2, v3, v4]) (row_lit w e [v0, v1, v2, v3, v4] (by simp)) (fun k hk => by obtain rfl := Option.some.inj hk; exact Nat.le_refl _), fun w hw => hw.sub (List.sublist_cons_self _ _), h _⟩
    simp [execOp, Instr.buildSlice, Instr.fill, run_underlying he.und, hsz, hzero, hcell, newRow, h0, c0, h1, c1, h2, c2, h3, c3, h4, c4]
    rw [show Array.range 5 = #[0, 1, 2, 3, 4] by decide]
    simp
end
theorem Cl.rowNe {X : List Nat} {w0 w : World} {objs : List Ob} {e : TypeId} {sv : Value} {vs cs : List Value} {cb : Nat} {rest : List Ob} (h : Cl X w0 objs w) (j k : Nat) (hj : nthOb objs j = some (.row e sv vs)) (hk : pull objs [j, k] = some ([.row e sv vs, .blk cb cs], rest)) : ∀ b off n c, sv = .slice (some ⟨b, off, Option.none⟩) n c → b ≠ cb := fun b off n c he hb => by
  have hp := h.perm (pull_perm [j, k] _ _ _ hk)
  have ha := hp.apart
  rw [List.pairwise_append] at ha
  have h1 := (List.pairwise_cons.1 ha.1).1 (.blk cb cs) (List.mem_singleton_self _)
  subst he
  unfold Ob.apart at h1
  rcases h1 with h1 | h1 | h1
  · cases h1
  · cases h1
  · exact h1 (by rw [hb]; rfl)
/-- What every world of the class tells. -/
theorem pwp_fact {P : Program} {n : Nat} {c : Code} {Q : Post} {E : Env} {C : Cls} {φ : Prop} (h : ∀ w, C w → φ) (k : φ → Pwp P n c Q E C) : Pwp P n c Q E C := ⟨fun a w hf hc => (k (h w hc)).out a w hf hc⟩
end Go.Pw
