/- Slices of slices: marks, and calls that turn rows behind a list that is not spelled out. -/
import Derived.Test.YtkbjcfabbapnpaaPwSS
import Derived.Test.YtkbjcfabbapnpaaPwDrop
namespace Go.Pw
open Go Go.RowKit
section
variable {P : Program} {n : Nat} {ops : List Oper} {l : List Oper} {Q : Post} {E : Env} {X : List Nat} {w0 : World} {objs : List Ob} {d : Option Nat} {t ty e : TypeId} {pos : String} {af : Array Edge} {g : Option (Nat × Bool)} {x y : Operand}
/-- A call that turns objects found by a permutation. -/
theorem px_turnsP {f : FuncId} {args : List Operand} {ats : Array TypeId} {avs : List Value} {old new rest objs' : List Ob} {v : Value} (hp : List.Perm objs (old ++ rest)) (hb : List.Perm (new ++ rest) objs') (hρ : ev E (.func f) = .func (.func f) #[] #[]) (ha : evl (ev E) args = avs)
    (hw : wantE ops E g = true) (hd : okDst d n = true)
    (hc : ∀ w, Own w old → Turns P f avs.toArray w old new v) (h : Px P n ops .seq l Q (updo E d v) (Cl X w0 objs')) :
    Px P n ops .seq (⟨d, .call { callee := .value (.func f), args := args.toArray, argTypes := ats }, ty, pos, af, g⟩ :: l) Q E (Cl X w0 objs) := by
  have hown : ∀ w, Cl X w0 objs w → Own w old ∧ Cl X w0 (old ++ rest) w := fun w hC => by
    have := hC.perm hp
    exact ⟨this.own, this⟩
  refine px_call hw hd (fun w hC => run_call (hc w (hown w hC).1).entry hρ w) fun w hC => ?_
  rw [evl_eq, ha]
  exact (hc w (hown w hC).1).out.mono fun e w' ⟨he, hcl⟩ => ⟨v, _, he, ((hown w hC).2.turnMany hcl).perm hb, h⟩
/-- A call that turns object k and the rows G at the end. -/
theorem px_turnsS (k m : Nat) {f : FuncId} {args : List Operand} {ats : Array TypeId} {avs : List Value} {o o' : Ob} {W G G' : List Ob} {v : Value} (hρ : ev E (.func f) = .func (.func f) #[] #[]) (ha : evl (ev E) args = avs)
    (hn : nthOb objs k = some o) (ht : List.drop m (dropOb objs k) = W ++ G) (hw : wantE ops E g = true) (hd : okDst d n = true)
    (hc : ∀ w, Own w (o :: G) → Turns P f avs.toArray w (o :: G) (o' :: G') v) (h : Px P n ops .seq l Q (updo E d v) (Cl X w0 (o' :: (List.take m (dropOb objs k) ++ (W ++ G'))))) :
    Px P n ops .seq (⟨d, .call { callee := .value (.func f), args := args.toArray, argTypes := ats }, ty, pos, af, g⟩ :: l) Q E (Cl X w0 objs) := by
  refine px_turnsP (old := o :: G) (new := o' :: G') (rest := List.take m (dropOb objs k) ++ W) ?_ ?_ hρ ha hw hd hc h
  · refine (setOb_perm objs k o o hn).2.trans (List.Perm.cons _ ?_)
    have e : dropOb objs k = (List.take m (dropOb objs k) ++ W) ++ G := by rw [List.append_assoc, ← ht, List.take_append_drop]
    rw [e]
    have : List.take m ((List.take m (dropOb objs k) ++ W) ++ G) = List.take m (dropOb objs k) := by rw [← e]
    rw [this]
    exact List.perm_append_comm
  · refine List.Perm.cons _ ?_
    rw [← List.append_assoc]
    exact List.perm_append_comm
end
/-- Rows with each member numbered. -/
def markPs : Int → Pairs → Pairs
  | _, [] => []
  | k, p :: r => (p.1, upfrom k p.2.length) :: markPs (k + p.2.length) r
def sumP (ps : Pairs) : Nat := (ps.map fun p => p.2.length).sum
theorem markPs_length : ∀ (ps : Pairs) (k : Int), (markPs k ps).length = ps.length
  | [], _ => rfl
  | p :: r, k => by simp [markPs, markPs_length r]
theorem markPs_svs : ∀ (ps : Pairs) (k : Int), svsOf (markPs k ps) = svsOf ps
  | [], _ => rfl
  | p :: r, k => by have := markPs_svs r (k + p.2.length); simp only [svsOf] at this ⊢; simp [markPs, this]
theorem markPs_append : ∀ (a b : Pairs) (k : Int), markPs k (a ++ b) = markPs k a ++ markPs (k + sumP a) b
  | [], b, k => by simp [markPs, sumP]
  | p :: r, b, k => by
    have := markPs_append r b (k + p.2.length)
    simp only [List.cons_append, markPs, this, sumP, List.map_cons, List.sum_cons]
    congr 3
    simp only [Int.natCast_add]; omega
section
variable {P : Program} {n : Nat} {ops : List Oper} {l : List Oper} {Q : Post} {E : Env} {X : List Nat} {w0 : World} {objs : List Ob} {d : Option Nat} {t ty e : TypeId} {pos : String} {af : Array Edge} {g : Option (Nat × Bool)} {x y : Operand}
theorem px_lit1p {md : Md} (p : Value × List Int) {zv : Value} {bytes : Nat} {x0 : Operand} (he : ElemZ P t e zv bytes) (h0 : ev E x0 = p.1) (s0 : ∀ w, Cl X w0 objs w → storable p.1 = true) (hmd : mdOk md (.buildSlice t 1 #[(0, x0)]) = true) (hw : wantE ops E g = true) (hd : okDst d n = true)
    (h : ∀ sv, Px P n ops md l Q (updo E d sv) (Cl X w0 (.row e sv (svsOf [p]) :: objs))) :
    Px P n ops md (⟨d, .buildSlice t 1 #[(0, x0)], ty, pos, af, g⟩ :: l) Q E (Cl X w0 objs) := px_lit1 he h0 s0 hmd hw hd h
theorem px_lit0s {md : Md} {zv : Value} {bytes : Nat} (he : ElemZ P t e zv bytes) (hmd : mdOk md (.buildSlice t 0 #[]) = true) (hw : wantE ops E g = true) (hd : okDst d n = true)
    (h : ∀ sv, Px P n ops md l Q (updo E d sv) (Cl X w0 (.row e sv (svsOf []) :: objs))) :
    Px P n ops md (⟨d, .buildSlice t 0 #[], ty, pos, af, g⟩ :: l) Q E (Cl X w0 objs) := px_lit0 he hmd hw hd h
theorem svsOf_append (a b : Pairs) : svsOf a ++ svsOf b = svsOf (a ++ b) := by simp [svsOf]
/-- 'append(s, x...)', rows of rows; the members of x may be stored. -/
theorem px_append_svs {sv xv zv : Value} {a b : Pairs} {bytes : Nat} (k : Nat) (he : ElemZ P t e zv bytes) (hx : ev E x = sv) (hy : ev E y = xv) (hn : nthOb objs k = some (.row e sv (svsOf a))) (hr : Rd (Cl X w0 objs) xv (svsOf b)) (hs : ∀ w, Cl X w0 objs w → ∀ u ∈ svsOf b, storable u = true)
    (hm : (a.length + b.length) * bytes ≤ 140737488355328) (hb : 0 < bytes) (hw : wantE ops E g = true) (hd : okDst d n = true) (h : ∀ sv', Px P n ops .seq l Q (updo E d sv') (Cl X w0 (setOb objs k (.row e sv' (svsOf (a ++ b)))))) :
    Px P n ops .seq (⟨d, .call { callee := .builtin .append, args := #[x, y], argTypes := #[t, t] }, ty, pos, af, g⟩ :: l) Q E (Cl X w0 objs) :=
  px_append k he hx hy hn hr hs (by simpa using hm) hb hw hd fun sv' => by rw [svsOf_append]; exact h sv'
end
theorem svsOf_snoc (ps : Pairs) (p : Value × List Int) : svsOf (ps ++ [p]) = svsOf ps ++ [p.1] := by simp [svsOf]
theorem lssOf_snoc (ps : Pairs) (p : Value × List Int) : lssOf (ps ++ [p]) = lssOf ps ++ [p.2] := by simp [lssOf]
theorem ArrS.drop {w : World} {sv : Value} {ps : Pairs} {k : Nat} (h : ArrS w sv ps) (hk : k ≤ ps.length) : ArrS w (dropV k sv) (ps.drop k) := by
  refine ⟨?_, fun i hi => ?_⟩
  · have := arr_drop h.arr (k := k) (by simpa using hk)
    simpa [svsOf, List.map_drop] using this
  · rw [List.length_drop] at hi
    have := h.each (k + i) (by omega)
    have e : (ps.drop k).getD i (undef, []) = ps.getD (k + i) (undef, []) := by simp [List.getD, List.getElem?_drop]
    unfold svAt lsAt at this ⊢
    rw [e]; exact this
theorem ps_drop {ps : Pairs} {k : Nat} (h : k < ps.length) : ps.drop k = (svAt ps k, lsAt ps k) :: ps.drop (k + 1) := by
  rw [List.drop_eq_getElem_cons h]; congr 1; simp [svAt, lsAt, List.getD, h]
theorem ps_take {ps : Pairs} {k : Nat} (h : k < ps.length) : ps.take (k + 1) = ps.take k ++ [(svAt ps k, lsAt ps k)] := by
  rw [List.take_succ_eq_append_getElem h]; congr 2; simp [svAt, lsAt, List.getD, h]
theorem markPs_take (ps : Pairs) (k : Int) (i : Nat) (h : i < ps.length) : (markPs k ps).take (i + 1) = (markPs k ps).take i ++ [(svAt ps i, upfrom (k + sumP (ps.take i)) (lsAt ps i).length)] := by
  have e : markPs k ps = markPs k (ps.take i) ++ markPs (k + sumP (ps.take i)) (ps.drop i) := by rw [← markPs_append, List.take_append_drop]
  have hl : (markPs k (ps.take i)).length = i := by rw [markPs_length, List.length_take]; omega
  rw [ps_drop h] at e
  rw [e]
  have h1 : ∀ (A B : Pairs), A.length = i → (A ++ B).take i = A := fun A B hA => by rw [← hA]; exact List.take_left
  rw [h1 _ _ hl]
  have h2 : ∀ (A B : Pairs) p, A.length = i → (A ++ p :: B).take (i + 1) = A ++ [p] := fun A B p hA => by
    rw [show A ++ p :: B = (A ++ [p]) ++ B by simp]
    have : (A ++ [p]).length = i + 1 := by simp [hA]
    rw [← this]; exact List.take_left
  exact h2 (markPs k (ps.take i)) _ (svAt ps i, upfrom (k + sumP (ps.take i)) (lsAt ps i).length) hl
theorem sumP_take (ps : Pairs) (i : Nat) (h : i < ps.length) : sumP (ps.take (i + 1)) = sumP (ps.take i) + (lsAt ps i).length := by
  rw [ps_take h]; simp [sumP]
theorem sumP_le (ps : Pairs) (i : Nat) : sumP (ps.take i) ≤ sumP ps := by
  have h : ∀ a b : Pairs, sumP (a ++ b) = sumP a + sumP b := fun a b => by simp [sumP]
  have := h (ps.take i) (ps.drop i)
  rw [List.take_append_drop] at this
  omega
theorem rows_mid (e : TypeId) (A B : Pairs) (p : Value × List Int) (o : Ob) : List.Perm (o :: rowsOb e (A ++ p :: B)) ([.row e p.1 (ints p.2)] ++ (o :: rowsOb e (A ++ B))) := by
  have h1 : rowsOb e (A ++ p :: B) = rowsOb e A ++ .row e p.1 (ints p.2) :: rowsOb e B := by simp [rowsOb]
  have h2 : rowsOb e (A ++ B) = rowsOb e A ++ rowsOb e B := by simp [rowsOb]
  rw [h1, h2]
  exact (List.Perm.cons o List.perm_middle).trans (List.Perm.swap _ _ _)
theorem mark_bound {ps : Pairs} {L : List (List Int)} (h : lssOf ps = L) (hL : L.length ≤ 1000 ∧ (L.map List.length).sum ≤ 100000) : ((0 : Int) ≤ 1 ∧ (1 : Int) + sumP ps ≤ 1000000000) ∧ ps.length ≤ 1000000 := by
  have h1 : ps.length = L.length := by rw [← h, lssOf_length]
  have h2 : sumP ps = (L.map List.length).sum := by rw [← h]; simp [sumP, lssOf, Function.comp_def]
  refine ⟨⟨by omega, by omega⟩, by omega⟩
end Go.Pw
