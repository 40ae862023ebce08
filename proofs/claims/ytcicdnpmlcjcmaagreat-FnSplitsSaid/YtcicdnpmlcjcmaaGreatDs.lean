import Derived.Test.YtcicdnpmlcjcmaaGreatPwSS
import Derived.Test.YtcicdnpmlcjcmaaGreatPwDrop
import Derived.Test.YtcicdnpmlcjcmaaGreatPwPed
import Derived.Test.YtcicdnpmlcjcmaaGreatPwPld
import Derived.Test.YtcicdnpmlcjcmaaGreatPwPqg
import Derived.Test.YtcicdnpmlcjcmaaGreatPwPmo
import Derived.Test.YtcicdnpmlcjcmaaGreatLa
import Derived.Test.YtcicdnpmlcjcmaaGreatPwBool
import Derived.Test.YtcicdnpmlcjcmaaGreatGs
import Derived.Test.YtcicdnpmlcjcmaaGreatPwPpe
import Derived.Test.YtcicdnpmlcjcmaaGreatPwPlain
import Derived.Test.YtcicdnpmlcjcmaaGreatPwTurn
import Derived.Test.YtcicdnpmlcjcmaaGreatSl
import Derived.Test.YtcicdnpmlcjcmaaGreatQt
import Derived.Test.YtcicdnpmlcjcmaaGreatCq
import Derived.Test.YtcicdnpmlcjcmaaGreatPwOri
import Derived.Test.YtcicdnpmlcjcmaaGreatPwPcx
import Derived.WideShapes
import Derived.Laws.Strings
import Derived.Test.YtcicdnpmlcjcmaaGreatPwRdr
import Derived.Test.YtcicdnpmlcjcmaaGreatDr
import Derived.Test.YtcicdnpmlcjcmaaGreatPwPcc
import Derived.Test.YtcicdnpmlcjcmaaGreatPwCur
import Derived.Test.YtcicdnpmlcjcmaaGreatPwJoin
import Derived.Test.YtcicdnpmlcjcmaaGreatSo
import Derived.Test.YtcicdnpmlcjcmaaGreatPwPgp
import Derived.Test.YtcicdnpmlcjcmaaGreatFo
import Derived.Test.YtcicdnpmlcjcmaaGreatPwPfs
/- Slices of slices: marks, and calls that turn rows behind a list that is not spelled out. -/
namespace Go.Pw
open Go Go.RowKit
section
variable {P : Program} {n : Nat} {ops : List Oper} {l : List Oper} {Q : Post} {E : Env} {X : List Nat} {w0 : World} {objs : List Ob} {d : Option Nat} {t ty e : TypeId} {pos : String} {af : Array Edge} {g : Option (Nat × Bool)} {x y : Operand}
/-- A call that turns objects found by a permutation. -/
theorem px_turnsP {f : FuncId} {args : List Operand} {ats : Array TypeId} {avs : List Value} {old new rest objs' : List Ob} {v : Value} (hp : List.Perm objs (old ++ rest)) (hb : List.Perm (new ++ rest) objs') (hρ : ev E (.func f) = .func (.func f) #[] #[]) (ha : evl (ev E) args = avs)
    (hw : wantE ops E g = true) (hd : okDst d n = true)
    (hc : ∀ w, Own w old → Turns P f avs.toArray w old new v) (h : Px P n ops .seq l Q (updo E d v) (Cl X w0 objs')) :
    Px P n ops .seq (⟨d, .call { callee := .value (.func f), args := args.toArray, argTypes := ats }, ty, pos, af, g⟩ :: l) Q E (Cl X w0 objs) := by
  have hown : ∀ w, Cl X w0 objs w → Own w old ∧ Cl X w0 (old ++ rest) w := fun w hC => by
    have := hC.perm hp
    exact ⟨this.own, this⟩
  refine px_call hw hd (fun w hC => run_call (hc w (hown w hC).1).entry hρ w) fun w hC => ?_
  rw [evl_eq, ha]
  exact (hc w (hown w hC).1).out.mono fun e w' ⟨he, hcl⟩ => ⟨v, _, he, ((hown w hC).2.turnMany hcl).perm hb, h⟩
/-- A call that turns object k and the rows G at the end. -/
theorem px_turnsS (k m : Nat) {f : FuncId} {args : List Operand} {ats : Array TypeId} {avs : List Value} {o o' : Ob} {W G G' : List Ob} {v : Value} (hρ : ev E (.func f) = .func (.func f) #[] #[]) (ha : evl (ev E) args = avs)
    (hn : nthOb objs k = some o) (ht : List.drop m (dropOb objs k) = W ++ G) (hw : wantE ops E g = true) (hd : okDst d n = true)
    (hc : ∀ w, Own w (o :: G) → Turns P f avs.toArray w (o :: G) (o' :: G') v) (h : Px P n ops .seq l Q (updo E d v) (Cl X w0 (o' :: (List.take m (dropOb objs k) ++ (W ++ G'))))) :
    Px P n ops .seq (⟨d, .call { callee := .value (.func f), args := args.toArray, argTypes := ats }, ty, pos, af, g⟩ :: l) Q E (Cl X w0 objs) := by
  refine px_turnsP (old := o :: G) (new := o' :: G') (rest := List.take m (dropOb objs k) ++ W) ?_ ?_ hρ ha hw hd hc h
  · refine (setOb_perm objs k o o hn).2.trans (List.Perm.cons _ ?_)
    have e : dropOb objs k = (List.take m (dropOb objs k) ++ W) ++ G := by rw [List.append_assoc, ← ht, List.take_append_drop]
    rw [e]
    have : List.take m ((List.take m (dropOb objs k) ++ W) ++ G) = List.take m (dropOb objs k) := by rw [← e]
    rw [this]
    exact List.perm_append_comm
  · refine List.Perm.cons _ ?_
    rw [← List.append_assoc]
    exact List.perm_append_comm
end
/-- Rows with each member numbered. -/
def markPs : Int → Pairs → Pairs
  | _, [] => []
  | k, p :: r => (p.1, upfrom k p.2.length) :: markPs (k + p.2.length) r
def sumP (ps : Pairs) : Nat := (ps.map fun p => p.2.length).sum
theorem markPs_length : ∀ (ps : Pairs) (k : Int), (markPs k ps).length = ps.length
  | [], _ => rfl
  | p :: r, k => by simp [markPs, markPs_length r]
theorem markPs_svs : ∀ (ps : Pairs) (k : Int), svsOf (markPs k ps) = svsOf ps
  | [], _ => rfl
  | p :: r, k => by have := markPs_svs r (k + p.2.length); simp only [svsOf] at this ⊢; simp [markPs, this]
theorem markPs_append : ∀ (a b : Pairs) (k : Int), markPs k (a ++ b) = markPs k a ++ markPs (k + sumP a) b
  | [], b, k => by simp [markPs, sumP]
  | p :: r, b, k => by
    have := markPs_append r b (k + p.2.length)
    simp only [List.cons_append, markPs, this, sumP, List.map_cons, List.sum_cons]
    congr 3
    simp only [Int.natCast_add]; omega
section
variable {P : Program} {n : Nat} {ops : List Oper} {l : List Oper} {Q : Post} {E : Env} {X : List Nat} {w0 : World} {objs : List Ob} {d : Option Nat} {t ty e : TypeId} {pos : String} {af : Array Edge} {g : Option (Nat × Bool)} {x y : Operand}
theorem px_lit1p {md : Md} (p : Value × List Int) {zv : Value} {bytes : Nat} {x0 : Operand} (he : ElemZ P t e zv bytes) (h0 : ev E x0 = p.1) (s0 : ∀ w, Cl X w0 objs w → storable p.1 = true) (hmd : mdOk md (.buildSlice t 1 #[(0, x0)]) = true) (hw : wantE ops E g = true) (hd : okDst d n = true)
    (h : ∀ sv, Px P n ops md l Q (updo E d sv) (Cl X w0 (.row e sv (svsOf [p]) :: objs))) :
    Px P n ops md (⟨d, .buildSlice t 1 #[(0, x0)], ty, pos, af, g⟩ :: l) Q E (Cl X w0 objs) := px_lit1 he h0 s0 hmd hw hd h
theorem px_lit0s {md : Md} {zv : Value} {bytes : Nat} (he : ElemZ P t e zv bytes) (hmd : mdOk md (.buildSlice t 0 #[]) = true) (hw : wantE ops E g = true) (hd : okDst d n = true)
    (h : ∀ sv, Px P n ops md l Q (updo E d sv) (Cl X w0 (.row e sv (svsOf []) :: objs))) :
    Px P n ops md (⟨d, .buildSlice t 0 #[], ty, pos, af, g⟩ :: l) Q E (Cl X w0 objs) := px_lit0 he hmd hw hd h
theorem svsOf_append (a b : Pairs) : svsOf a ++ svsOf b = svsOf (a ++ b) := by simp [svsOf]
/-- 'append(s, x...)', rows of rows; the members of x may be stored. -/
theorem px_append_svs {sv xv zv : Value} {a b : Pairs} {bytes : Nat} (k : Nat) (he : ElemZ P t e zv bytes) (hx : ev E x = sv) (hy : ev E y = xv) (hn : nthOb objs k = some (.row e sv (svsOf a))) (hr : Rd (Cl X w0 objs) xv (svsOf b)) (hs : ∀ w, Cl X w0 objs w → ∀ u ∈ svsOf b, storable u = true)
    (hm : (a.length + b.length) * bytes ≤ 140737488355328) (hb : 0 < bytes) (hw : wantE ops E g = true) (hd : okDst d n = true) (h : ∀ sv', Px P n ops .seq l Q (updo E d sv') (Cl X w0 (setOb objs k (.row e sv' (svsOf (a ++ b)))))) :
    Px P n ops .seq (⟨d, .call { callee := .builtin .append, args := #[x, y], argTypes := #[t, t] }, ty, pos, af, g⟩ :: l) Q E (Cl X w0 objs) :=
  px_append k he hx hy hn hr hs (by simpa using hm) hb hw hd fun sv' => by rw [svsOf_append]; exact h sv'
end
theorem svsOf_snoc (ps : Pairs) (p : Value × List Int) : svsOf (ps ++ [p]) = svsOf ps ++ [p.1] := by simp [svsOf]
theorem lssOf_snoc (ps : Pairs) (p : Value × List Int) : lssOf (ps ++ [p]) = lssOf ps ++ [p.2] := by simp [lssOf]
theorem ArrS.drop {w : World} {sv : Value} {ps : Pairs} {k : Nat} (h : ArrS w sv ps) (hk : k ≤ ps.length) : ArrS w (dropV k sv) (ps.drop k) := by
  refine ⟨?_, fun i hi => ?_⟩
  · have := arr_drop h.arr (k := k) (by simpa using hk)
    simpa [svsOf, List.map_drop] using this
  · rw [List.length_drop] at hi
    have := h.each (k + i) (by omega)
    have e : (ps.drop k).getD i (undef, []) = ps.getD (k + i) (undef, []) := by simp [List.getD, List.getElem?_drop]
    unfold svAt lsAt at this ⊢
    rw [e]; exact this
theorem ps_drop {ps : Pairs} {k : Nat} (h : k < ps.length) : ps.drop k = (svAt ps k, lsAt ps k) :: ps.drop (k + 1) := by
  rw [List.drop_eq_getElem_cons h]; congr 1; simp [svAt, lsAt, List.getD, h]
theorem ps_take {ps : Pairs} {k : Nat} (h : k < ps.length) : ps.take (k + 1) = ps.take k ++ [(svAt ps k, lsAt ps k)] := by
  rw [List.take_succ_eq_append_getElem h]; congr 2; simp [svAt, lsAt, List.getD, h]
theorem markPs_take (ps : Pairs) (k : Int) (i : Nat) (h : i < ps.length) : (markPs k ps).take (i + 1) = (markPs k ps).take i ++ [(svAt ps i, upfrom (k + sumP (ps.take i)) (lsAt ps i).length)] := by
  have e : markPs k ps = markPs k (ps.take i) ++ markPs (k + sumP (ps.take i)) (ps.drop i) := by rw [← markPs_append, List.take_append_drop]
  have hl : (markPs k (ps.take i)).length = i := by rw [markPs_length, List.length_take]; omega
  rw [ps_drop h] at e
  rw [e]
  have h1 : ∀ (A B : Pairs), A.length = i → (A ++ B).take i = A := fun A B hA => by rw [← hA]; exact List.take_left
  rw [h1 _ _ hl]
  have h2 : ∀ (A B : Pairs) p, A.length = i → (A ++ p :: B).take (i + 1) = A ++ [p] := fun A B p hA => by
    rw [show A ++ p :: B = (A ++ [p]) ++ B by simp]
    have : (A ++ [p]).length = i + 1 := by simp [hA]
    rw [← this]; exact List.take_left
  exact h2 (markPs k (ps.take i)) _ (svAt ps i, upfrom (k + sumP (ps.take i)) (lsAt ps i).length) hl
theorem sumP_take (ps : Pairs) (i : Nat) (h : i < ps.length) : sumP (ps.take (i + 1)) = sumP (ps.take i) + (lsAt ps i).length := by
  rw [ps_take h]; simp [sumP]
theorem sumP_le (ps : Pairs) (i : Nat) : sumP (ps.take i) ≤ sumP ps := by
  have h : ∀ a b : Pairs, sumP (a ++ b) = sumP a + sumP b := fun a b => by simp [sumP]
  have := h (ps.take i) (ps.drop i)
  rw [List.take_append_drop] at this
  omega
theorem rows_mid (e : TypeId) (A B : Pairs) (p : Value × List Int) (o : Ob) : List.Perm (o :: rowsOb e (A ++ p :: B)) ([.row e p.1 (ints p.2)] ++ (o :: rowsOb e (A ++ B))) := by
  have h1 : rowsOb e (A ++ p :: B) = rowsOb e A ++ .row e p.1 (ints p.2) :: rowsOb e B := by simp [rowsOb]
  have h2 : rowsOb e (A ++ B) = rowsOb e A ++ rowsOb e B := by simp [rowsOb]
  rw [h1, h2]
  exact (List.Perm.cons o List.perm_middle).trans (List.Perm.swap _ _ _)
theorem mark_bound {ps : Pairs} {L : List (List Int)} (h : lssOf ps = L) (hL : L.length ≤ 1000 ∧ (L.map List.length).sum ≤ 100000) : ((0 : Int) ≤ 1 ∧ (1 : Int) + sumP ps ≤ 1000000000) ∧ ps.length ≤ 1000000 := by
  have h1 : ps.length = L.length := by rw [← h, lssOf_length]
  have h2 : sumP ps = (L.map List.length).sum := by rw [← h]; simp [sumP, lssOf, Function.comp_def]
  refine ⟨⟨by omega, by omega⟩, by omega⟩
end Go.Pw
/- The plain mathematics of arcs that force one another. -/
namespace Go.Pw
open Go
/-- The first place of a list among lists, -1 if it is not there. -/
def placeA : List (List Int) → List Int → Int
  | [], _ => -1
  | y :: r, x => if y = x then 0 else if placeA r x < 0 then -1 else placeA r x + 1
theorem placeA_range (l : List (List Int)) (x : List Int) : -1 ≤ placeA l x ∧ placeA l x < l.length := by
  induction l with
  | nil => simp [placeA]
  | cons y r ih =>
    unfold placeA
    simp only [List.length_cons]
    split
    · omega
    · split <;> omega
theorem placeA_mem (l : List (List Int)) (x : List Int) : 0 ≤ placeA l x ↔ x ∈ l := by
  induction l with
  | nil => simp [placeA]
  | cons y r ih =>
    unfold placeA
    rw [List.mem_cons]
    have hr := placeA_range r x
    split
    · next h => simp [h]
    · next h =>
      have h' : ¬ x = y := fun e => h e.symm
      simp only [h', false_or, ← ih]
      split <;> omega
theorem placeA_none : ∀ (l : List (List Int)) (x : List Int), (∀ i, i < l.length → l.getD i [] ≠ x) → placeA l x = -1
  | [], _, _ => rfl
  | y :: r, x, h => by
    have h0 : y ≠ x := h 0 (by simp)
    have h1 := placeA_none r x fun i hi => h (i + 1) (by simp; omega)
    unfold placeA
    rw [if_neg h0, h1]; rfl
theorem placeA_some : ∀ (l : List (List Int)) (x : List Int) (k : Nat), k < l.length → l.getD k [] = x → (∀ i, i < k → l.getD i [] ≠ x) → placeA l x = k
  | [], _, _, h, _, _ => by simp at h
  | y :: r, x, 0, _, h, _ => by
    have h' : y = x := h
    unfold placeA; rw [if_pos h']; rfl
  | y :: r, x, k + 1, hk, h, hb => by
    have h0 : y ≠ x := hb 0 (by omega)
    have h1 := placeA_some r x k (by simpa using hk) h fun i hi => hb (i + 1) (by omega)
    unfold placeA
    rw [if_neg h0, h1, if_neg (by omega)]; push_cast; try rfl
theorem lss_getD (ps : Pairs) (k : Nat) : (lssOf ps).getD k [] = lsAt ps k := by
  simp only [lssOf, lsAt, List.getD, List.getElem?_map]
  cases ps[k]? <;> rfl
/-- Does the edge v u follow at once from a b? -/
def nextB (rows : List Int) (a b : Int) (v u : Nat) : Bool :=
  hasB (rows.getD v 0) (u : Nat) && (decide ((v : Int) = a) && !decide ((u : Int) = b) && !hasB (rows.getD u 0) b || decide ((u : Int) = b) && !decide ((v : Int) = a) && !hasB (rows.getD v 0) a)
theorem nextB_iff {rows : List Int} {a b : Int} {v u : Nat} : nextB rows a b v u = true ↔ hasB (rows.getD v 0) (u : Nat) = true ∧ (((v : Int) = a ∧ ¬ (u : Int) = b ∧ hasB (rows.getD u 0) b = false) ∨ ((u : Int) = b ∧ ¬ (v : Int) = a ∧ hasB (rows.getD v 0) a = false)) := by
  unfold nextB
  simp only [Bool.and_eq_true, Bool.or_eq_true, decide_eq_true_eq, Bool.not_eq_true', decide_eq_false_iff_not, and_assoc]
def nextRow (rows : List Int) (a b : Int) (v k : Nat) : List (List Int) := ((List.range k).filter (nextB rows a b v)).map fun u : Nat => [(v : Int), (u : Int)]
def nextU (rows : List Int) (n : Nat) (a b : Int) (v : Nat) : List (List Int) := (List.range v).flatMap fun x => nextRow rows a b x n
def nextA (rows : List Int) (a b : Int) : List (List Int) := nextU rows rows.length a b rows.length
theorem nextRow_succ (rows : List Int) (a b : Int) (v k : Nat) : nextRow rows a b v (k + 1) = if nextB rows a b v k = true then nextRow rows a b v k ++ [[(v : Int), (k : Int)]] else nextRow rows a b v k := by
  unfold nextRow
  rw [List.range_succ, List.filter_append, List.map_append]
  cases h : nextB rows a b v k <;> simp [h]
theorem nextU_succ (rows : List Int) (n : Nat) (a b : Int) (v : Nat) : nextU rows n a b (v + 1) = nextU rows n a b v ++ nextRow rows a b v n := by simp [nextU, List.range_succ]
theorem nextRow_length (rows : List Int) (a b : Int) (v k : Nat) : (nextRow rows a b v k).length ≤ k := by
  unfold nextRow; rw [List.length_map]
  exact Nat.le_trans (List.length_filter_le _ _) (by simp)
theorem nextU_length (rows : List Int) (n : Nat) (a b : Int) : ∀ v, (nextU rows n a b v).length ≤ v * n
  | 0 => by simp [nextU]
  | v + 1 => by
    have := nextU_length rows n a b v
    have h2 := nextRow_length rows a b v n
    rw [nextU_succ, List.length_append, Nat.succ_mul]; omega
theorem nextA_mem {rows : List Int} {a b : Int} {e : List Int} (h : e ∈ nextA rows a b) : ∃ v u : Nat, e = [(v : Int), (u : Int)] ∧ v < rows.length ∧ u < rows.length ∧ nextB rows a b v u = true := by
  obtain ⟨v, hv, h2⟩ := List.mem_flatMap.1 h
  obtain ⟨u, hu, rfl⟩ := List.mem_map.1 h2
  obtain ⟨hu1, hu2⟩ := List.mem_filter.1 hu
  exact ⟨v, u, rfl, List.mem_range.1 hv, List.mem_range.1 hu1, hu2⟩
/-- The program's way to the arcs out of a. -/
theorem testBit_andnot (a b x : Nat) : (a ^^^ (a &&& b)).testBit x = (a.testBit x && !b.testBit x) := by
  rw [Nat.testBit_xor, Nat.testBit_and]
  cases a.testBit x <;> cases b.testBit x <;> rfl
theorem andnot_lt {a b : Nat} (h : a < 128) : a ^^^ (a &&& b) < 128 :=
  Nat.xor_lt_two_pow (n := 7) h (Nat.lt_of_le_of_lt Nat.and_le_left h)
theorem andnot_bits {A B : Nat} (hA : A < 128) (hB : B < 128) : ∃ S : Nat, iandnot (A : Int) (B : Int) = S ∧ S < 128 ∧ ∀ x, x < 7 → S.testBit x = (A.testBit x && !B.testBit x) :=
  ⟨A ^^^ (A &&& B), iandnot_nat (by omega), andnot_lt hA, fun x _ => testBit_andnot A B x⟩
theorem range_filter_le {p : Nat → Bool} {n m : Nat} (h : n ≤ m) (hp : ∀ x, n ≤ x → x < m → p x = false) : (List.range m).filter p = (List.range n).filter p := by
  obtain ⟨d, rfl⟩ : ∃ d, m = n + d := ⟨m - n, by omega⟩
  induction d with
  | zero => rfl
  | succ d ih =>
    rw [← Nat.add_assoc, List.range_succ, List.filter_append, ih (by omega) fun x h1 h2 => hp x h1 (by omega)]
    have := hp (n + d) (by omega) (by omega)
    simp [this]
theorem next_out {size : Int} {rows : List Int} {a b : Nat} (hg : IsG size rows) (ha : a < rows.length) (hb : b < rows.length) :
    nextRow rows a b a rows.length = (listS (iandnot (iandnot (rows.getD a 0) (rows.getD b 0)) (ishl 1 (b : Int)))).map fun c => [(a : Int), c] := by
  obtain ⟨n, hn, hl, hn1, hn7⟩ := isG_size hg
  obtain ⟨A, a1, a2, a3⟩ := row_nat hg hn a
  obtain ⟨B, b1, b2, b3⟩ := row_nat hg hn b
  obtain ⟨S, s1, s2, s3⟩ := andnot_bits a3 b3
  have pb : 2 ^ b < 2 ^ 7 := Nat.pow_lt_pow_right (by omega) (by omega)
  obtain ⟨T, t1, t2, t3⟩ := andnot_bits s2 pb
  rw [a1, b1, s1, ishl_one_nat (by omega), t1, listS_eq ⟨by omega, by omega⟩]
  unfold nextRow listU
  rw [List.map_map, range_filter_le (n := rows.length) (m := 7) (by omega)]
  · have e : (List.range rows.length).filter (nextB rows a b a) = (List.range rows.length).filter fun v => hasB (T : Int) (v : Nat) := by
      refine List.filter_congr fun u hu => ?_
      have hu' := List.mem_range.1 hu
      have hsy := edge_sym hg (v := u) (u := b) hu' hb
      rw [hasB_nat (by omega) (by omega), t3 u (by omega), s3 u (by omega), Nat.testBit_two_pow]
      unfold nextB
      rw [hsy, a1, b1, hasB_nat (by omega) (by omega), hasB_nat (by omega) (by omega)]
      have e1 : decide ((a : Int) = (a : Int)) = true := by simp
      have e2 : decide ((u : Int) = (b : Int)) = decide (b = u) := by simp; omega
      rw [e1, e2]
      cases A.testBit u <;> cases B.testBit u <;> cases decide (b = u) <;> rfl
    rw [e]
    rfl
  · intro x h1 h2
    rw [hasB_nat (by omega) (by omega), t3 x h2, s3 x h2]
    have : A.testBit x = false := Nat.testBit_lt_two_pow (Nat.lt_of_lt_of_le a2 (Nat.pow_le_pow_right (by omega) (by omega)))
    rw [this]; rfl
theorem next_in {size : Int} {rows : List Int} {a b v : Nat} (hg : IsG size rows) (ha : a < rows.length) (hb : b < rows.length) (hv : v < rows.length) (hne : v ≠ a) :
    nextRow rows a b v rows.length = if hasB (iandnot (rows.getD b 0) (rows.getD a 0)) (v : Nat) = true then [[(v : Int), (b : Int)]] else [] := by
  obtain ⟨n, hn, hl, hn1, hn7⟩ := isG_size hg
  obtain ⟨A, a1, a2, a3⟩ := row_nat hg hn a
  obtain ⟨B, b1, b2, b3⟩ := row_nat hg hn b
  obtain ⟨S, s1, s2, s3⟩ := andnot_bits b3 a3
  have bA : ∀ x : Nat, x < 7 → hasB (A : Int) (x : Nat) = A.testBit x := fun x hx => hasB_nat (by omega) (by omega)
  have bB : ∀ x : Nat, x < 7 → hasB (B : Int) (x : Nat) = B.testBit x := fun x hx => hasB_nat (by omega) (by omega)
  have bS : ∀ x : Nat, x < 7 → hasB (S : Int) (x : Nat) = S.testBit x := fun x hx => hasB_nat (by omega) (by omega)
  have hf : ∀ u, nextB rows a b v u = (decide (u = b) && hasB (S : Int) (v : Nat)) := by
    intro u
    by_cases hub : u = b
    · subst hub
      have h1 := edge_sym hg (v := v) (u := u) hv hb
      have h2 := edge_sym hg (v := v) (u := a) hv ha
      unfold nextB
      have e1 : decide ((v : Int) = (a : Int)) = false := by simp; omega
      rw [h1, h2, e1, a1, b1, bB v (by omega), bB u (by omega), bA v (by omega), bS v (by omega), s3 v (by omega)]
      simp
    · unfold nextB
      have e1 : decide ((v : Int) = (a : Int)) = false := by simp; omega
      have e2 : decide ((u : Int) = (b : Int)) = false := by simp; omega
      rw [e1, e2]
      simp [hub]
  rw [b1, a1, s1]
  unfold nextRow
  have e : (List.range rows.length).filter (nextB rows a b v) = (List.range rows.length).filter fun u => decide (u = b) && hasB (S : Int) (v : Nat) := List.filter_congr fun u _ => hf u
  rw [e]
  cases hS : hasB (S : Int) (v : Nat) with
  | false => simp
  | true =>
    have : ∀ m, b < m → (List.range m).filter (fun u => decide (u = b) && true) = [b] := by
      intro m
      induction m with
      | zero => intro h; omega
      | succ m ih =>
        intro h
        rw [List.range_succ, List.filter_append]
        by_cases hm : b < m
        · rw [ih hm]
          have : ¬ m = b := by omega
          simp [this]
        · obtain rfl : b = m := by omega
          have : (List.range b).filter (fun u => decide (u = b) && true) = [] := by
            rw [List.filter_eq_nil_iff]
            intro x hx
            have := List.mem_range.1 hx
            simp; omega
          rw [this]; simp
    rw [this _ hb]; simp
/-- One more arc, if it is new. -/
def addA (k : Int) (s : List (List Int) × List Int) (e : List Int) : List (List Int) × List Int := if e ∈ s.1 then s else (s.1 ++ [e], s.2 ++ [k])
def stepA (rows : List Int) (s : List (List Int) × List Int) (k : Nat) : List (List Int) × List Int :=
  (nextA rows ((s.1.getD k []).getD 0 0) ((s.1.getD k []).getD 1 0)).foldl (addA k) s
def bfsA (rows : List Int) (a b : Int) : Nat → List (List Int) × List Int
  | 0 => ([[a, b]], [-1])
  | k + 1 => if k < (bfsA rows a b k).1.length then stepA rows (bfsA rows a b k) k else bfsA rows a b k
/-- An arc between the first n vertices. -/
def arcN (n : Nat) (e : List Int) : Prop := ∃ v u : Nat, e = [(v : Int), (u : Int)] ∧ v < n ∧ u < n
theorem nodup_lenA : ∀ (l m : List (List Int)), l.Nodup → (∀ x ∈ l, x ∈ m) → l.length ≤ m.length
  | [], _, _, _ => Nat.zero_le _
  | x :: r, m, hn, h => by
    obtain ⟨h1, h2⟩ := List.nodup_cons.1 hn
    have hx := h x (List.mem_cons_self ..)
    have := nodup_lenA r (m.erase x) h2 fun y hy => (List.mem_erase_of_ne (fun e => h1 (by rw [← e]; exact hy))).2 (h y (List.mem_cons_of_mem _ hy))
    have h3 := List.length_erase_of_mem hx
    have h4 := List.length_pos_of_mem hx
    simp only [List.length_cons]
    omega
def allArcs (n : Nat) : List (List Int) := (List.range n).flatMap fun v : Nat => (List.range n).map fun u : Nat => [(v : Int), (u : Int)]
theorem allArcs_len (n : Nat) : (allArcs n).length = n * n := by
  unfold allArcs
  rw [List.length_flatMap]
  have : ∀ m : Nat, (List.map (fun _ : Nat => n) (List.range m)).sum = m * n := by
    intro m
    induction m with
    | zero => simp
    | succ m ih => rw [List.range_succ, List.map_append, List.sum_append, ih, Nat.succ_mul]; simp
  simp only [List.length_map, List.length_range]
  exact this n
theorem arcN_mem {n : Nat} {e : List Int} (h : arcN n e) : e ∈ allArcs n := by
  obtain ⟨v, u, rfl, hv, hu⟩ := h
  exact List.mem_flatMap.2 ⟨v, List.mem_range.2 hv, List.mem_map.2 ⟨u, List.mem_range.2 hu, rfl⟩⟩
/-- What a search by breadth keeps true. -/
structure OkA (n : Nat) (s : List (List Int) × List Int) : Prop where
  arc : ∀ e ∈ s.1, arcN n e
  nodup : s.1.Nodup
  len : s.2.length = s.1.length
  back : ∀ i, i < s.2.length → -1 ≤ s.2.getD i 0 ∧ s.2.getD i 0 < i
theorem OkA.bound {n : Nat} {s : List (List Int) × List Int} (h : OkA n s) (hn : n ≤ 7) : s.1.length ≤ 49 := by
  have h1 := nodup_lenA s.1 (allArcs n) h.nodup fun x hx => arcN_mem (h.arc x hx)
  rw [allArcs_len] at h1
  have h2 : n * n ≤ 7 * 7 := Nat.mul_le_mul hn hn
  omega
theorem OkA.add {n : Nat} {s : List (List Int) × List Int} {k : Nat} {e : List Int} (h : OkA n s) (he : arcN n e) (hk : k < s.1.length) : OkA n (addA k s e) ∧ k < (addA k s e).1.length := by
  unfold addA
  split
  · exact ⟨h, hk⟩
  · rename_i hno
    refine ⟨⟨fun x hx => ?_, ?_, by simp [h.len], fun i hi => ?_⟩, by simp; omega⟩
    · rcases List.mem_append.1 hx with hx | hx
      · exact h.arc x hx
      · obtain rfl := List.mem_singleton.1 hx; exact he
    · refine List.nodup_append.2 ⟨h.nodup, List.pairwise_singleton _ _, fun x hx y hy => ?_⟩
      obtain rfl := List.mem_singleton.1 hy
      rintro rfl
      exact hno hx
    · simp only [List.length_append, List.length_singleton] at hi
      by_cases hlt : i < s.2.length
      · have := h.back i hlt
        simpa [List.getD, List.getElem?_append_left hlt] using this
      · obtain rfl : i = s.2.length := by omega
        have := h.len
        simp [List.getD]; omega
theorem OkA.fold {n : Nat} {k : Nat} : ∀ (l : List (List Int)) {s : List (List Int) × List Int}, OkA n s → (∀ e ∈ l, arcN n e) → k < s.1.length → OkA n (l.foldl (addA k) s) ∧ k < (l.foldl (addA k) s).1.length
  | [], _, h, _, hk => ⟨h, hk⟩
  | e :: r, s, h, hl, hk => by
    obtain ⟨h1, h2⟩ := h.add (hl e (List.mem_cons_self ..)) hk
    exact OkA.fold r h1 (fun x hx => hl x (List.mem_cons_of_mem _ hx)) h2
theorem nextA_arc {rows : List Int} {a b : Int} : ∀ e ∈ nextA rows a b, arcN rows.length e := fun e he => by
  obtain ⟨v, u, h, hv, hu, _⟩ := nextA_mem he
  exact ⟨v, u, h, hv, hu⟩
theorem bfsA_ok {rows : List Int} {a b : Int} (hab : arcN rows.length [a, b]) : ∀ k, OkA rows.length (bfsA rows a b k)
  | 0 => ⟨fun e he => by obtain rfl := List.mem_singleton.1 he; exact hab, List.pairwise_singleton _ _, rfl, fun i hi => by
      have : i = 0 := by simp [bfsA] at hi; omega
      subst this; simp [bfsA]⟩
  | k + 1 => by
    have ih := bfsA_ok hab k
    unfold bfsA
    split
    · rename_i hk
      exact (OkA.fold (k := k) _ ih nextA_arc hk).1
    · exact ih
theorem bfsA_stop {rows : List Int} {a b : Int} {k : Nat} (h : (bfsA rows a b k).1.length ≤ k) : ∀ m, k ≤ m → bfsA rows a b m = bfsA rows a b k := by
  intro m hm
  obtain ⟨d, rfl⟩ : ∃ d, m = k + d := ⟨m - k, by omega⟩
  induction d with
  | zero => rfl
  | succ d ih =>
    have e := ih (by omega)
    rw [← Nat.add_assoc]
    rw [bfsA, e, if_neg (by omega)]
/-- An arc and all that it forces, with the places by which they were found. -/
def forcedA (rows : List Int) (a b : Int) : List (List Int) × List Int := bfsA rows a b 49
theorem forcedA_ok {rows : List Int} {a b : Int} (hab : arcN rows.length [a, b]) : OkA rows.length (forcedA rows a b) := bfsA_ok hab 49
theorem forcedA_end {rows : List Int} {a b : Int} (hab : arcN rows.length [a, b]) (hn : rows.length ≤ 7) {k : Nat} (h : k = (bfsA rows a b k).1.length) : forcedA rows a b = bfsA rows a b k := by
  have := (bfsA_ok hab k).bound hn
  exact bfsA_stop (by omega) 49 (by omega)
def foldU (k : Int) (s : List (List Int) × List Int) (L : List (List Int)) (j : Nat) : List (List Int) × List Int := (L.take j).foldl (addA k) s
theorem foldU_succ {k : Int} {s : List (List Int) × List Int} {L : List (List Int)} {j : Nat} (h : j < L.length) : foldU k s L (j + 1) = addA k (foldU k s L j) (L.getD j []) := by
  unfold foldU
  rw [List.take_add_one, List.foldl_append]
  simp [List.getD, h]
theorem foldU_all (k : Int) (s : List (List Int) × List Int) (L : List (List Int)) : foldU k s L L.length = L.foldl (addA k) s := by
  unfold foldU; rw [List.take_length]
theorem foldU_ok {n k : Nat} {s : List (List Int) × List Int} (h : OkA n s) {L : List (List Int)} (hL : ∀ e ∈ L, arcN n e) (hk : k < s.1.length) (j : Nat) : OkA n (foldU k s L j) :=
  (h.fold (L.take j) (fun e he => hL e (List.mem_of_mem_take he)) hk).1
theorem addA_new {k : Int} {s : List (List Int) × List Int} {e : List Int} (h : placeA s.1 e < 0) : addA k s e = (s.1 ++ [e], s.2 ++ [k]) := by
  unfold addA; rw [if_neg (fun hm => by have := (placeA_mem s.1 e).2 hm; omega)]
theorem addA_old {k : Int} {s : List (List Int) × List Int} {e : List Int} (h : ¬ placeA s.1 e < 0) : addA k s e = s := by
  unfold addA; rw [if_pos ((placeA_mem s.1 e).1 (by omega))]
/-- The way back from an arc by the arcs by which they were found. -/
def chainF (f : List Int) : Nat → Int → List Nat
  | 0, _ => []
  | d + 1, i => if i < 0 then [] else chainF f d (f.getD i.toNat 0) ++ [i.toNat]
theorem chainF_fuel {f : List Int} (hf : ∀ i, i < f.length → -1 ≤ f.getD i 0 ∧ f.getD i 0 < i) : ∀ (d m : Nat) (i : Int), -1 ≤ i → i < d → i < m → i < f.length → chainF f d i = chainF f m i
  | 0, 0, _, _, _, _, _ => rfl
  | 0, m + 1, i, h0, h1, _, _ => by
    show [] = chainF f (m + 1) i
    unfold chainF; rw [if_pos (by omega)]
  | d + 1, 0, i, h0, _, h2, _ => by
    show chainF f (d + 1) i = []
    unfold chainF; rw [if_pos (by omega)]
  | d + 1, m + 1, i, h0, h1, h2, h3 => by
    unfold chainF
    split
    · rfl
    · have := hf i.toNat (by omega)
      rw [chainF_fuel hf d m (f.getD i.toNat 0) (by omega) (by omega) (by omega) (by omega)]
def chainI (f : List Int) (i : Int) : List Nat := chainF f (f.length + 1) i
theorem chainI_neg {f : List Int} {i : Int} (h : i < 0) : chainI f i = [] := by unfold chainI chainF; rw [if_pos h]
theorem chainI_step {f : List Int} (hf : ∀ i, i < f.length → -1 ≤ f.getD i 0 ∧ f.getD i 0 < i) {i : Nat} (h : i < f.length) : chainI f i = chainI f (f.getD i 0) ++ [i] := by
  unfold chainI
  rw [show chainF f (f.length + 1) (i : Int) = chainF f f.length (f.getD (i : Int).toNat 0) ++ [(i : Int).toNat] by
    rw [chainF, if_neg (by omega)]]
  have := hf i h
  rw [Int.toNat_natCast, chainF_fuel hf f.length (f.length + 1) (f.getD i 0) (by omega) (by omega) (by omega) (by omega)]
theorem chainI_lt {f : List Int} (hf : ∀ i, i < f.length → -1 ≤ f.getD i 0 ∧ f.getD i 0 < i) : ∀ (k : Nat) (i : Int), i < k → -1 ≤ i → i < f.length → (chainI f i).Pairwise (· < ·) ∧ ∀ x ∈ chainI f i, (x : Int) ≤ i
  | 0, i, h, _, _ => by rw [chainI_neg (by omega)]; exact ⟨List.Pairwise.nil, fun _ h => (List.not_mem_nil h).elim⟩
  | k + 1, i, h, h0, h1 => by
    by_cases hn : i < 0
    · rw [chainI_neg hn]; exact ⟨List.Pairwise.nil, fun _ h => (List.not_mem_nil h).elim⟩
    obtain ⟨j, rfl⟩ := Int.eq_ofNat_of_zero_le (show 0 ≤ i by omega)
    have hb := hf j (by omega)
    obtain ⟨h2, h3⟩ := chainI_lt hf k (f.getD j 0) (by omega) (by omega) (by omega)
    rw [chainI_step hf (by omega)]
    refine ⟨List.pairwise_append.2 ⟨h2, List.pairwise_singleton _ _, fun x hx y hy => ?_⟩, fun x hx => ?_⟩
    · obtain rfl := List.mem_singleton.1 hy
      have := h3 x hx
      omega
    · rcases List.mem_append.1 hx with hx | hx
      · have := h3 x hx; omega
      · obtain rfl := List.mem_singleton.1 hx; exact Int.le_refl _
/-- The chain by which an arc forces its opposite. -/
def chainX (rows : List Int) (a b : Int) : Option (List (List Int)) :=
  if [b, a] ∈ (forcedA rows a b).1 then some ((chainI (forcedA rows a b).2 (placeA (forcedA rows a b).1 [b, a])).map fun i => (forcedA rows a b).1.getD i []) else none
def chainK (rows : List Int) (es : List (List Int)) : Option (List (List Int)) := es.findSome? fun e => chainX rows (e.getD 0 0) (e.getD 1 0)
def forceX (size : Int) (rows : List Int) : Option (List (List Int)) := chainK rows (edgesL size rows)
theorem asc_len : ∀ (c : List Nat) (m : Nat), c.Pairwise (· < ·) → (∀ x ∈ c, m ≤ x ∧ x < 50) → c.length + m ≤ 50 ∨ c = []
  | [], _, _, _ => .inr rfl
  | x :: c, m, hp, h => by
    have h1 := List.pairwise_cons.1 hp
    have hx := h x (List.mem_cons_self ..)
    left
    rcases asc_len c (x + 1) h1.2 (fun y hy => ⟨h1.1 y hy, (h y (List.mem_cons_of_mem _ hy)).2⟩) with h2 | h2
    · simp only [List.length_cons]; omega
    · subst h2; simp only [List.length_cons, List.length_nil]; omega
theorem chainX_len {rows : List Int} {a b : Nat} (ha : a < rows.length) (hb : b < rows.length) (hn : rows.length ≤ 7) {L : List (List Int)} (h : chainX rows a b = some L) : L.length ≤ 50 ∧ ∀ e ∈ L, e.length = 2 := by
  have hab : arcN rows.length [(a : Int), (b : Int)] := ⟨a, b, rfl, ha, hb⟩
  have hok := forcedA_ok hab
  unfold chainX at h
  generalize forcedA rows a b = FA at *
  have hbd := hok.bound hn
  have hlen := hok.len
  have hpr := placeA_range FA.1 [(b : Int), (a : Int)]
  have hpm := placeA_mem FA.1 [(b : Int), (a : Int)]
  split at h
  · rename_i hm
    injection h with h
    subst h
    have h0 := hpm.2 hm
    obtain ⟨c1, c2⟩ := chainI_lt hok.back FA.2.length (placeA FA.1 [(b : Int), (a : Int)]) (by omega) (by omega) (by omega)
    refine ⟨?_, fun e he => ?_⟩
    · rw [List.length_map]
      rcases asc_len _ 0 c1 (fun x hx => by have := c2 x hx; omega) with h | h
      · omega
      · rw [h]; simp
    · obtain ⟨x, hx, rfl⟩ := List.mem_map.1 he
      have hx2 := c2 x hx
      obtain ⟨v, u, e1, _⟩ := hok.arc (FA.1.getD x []) (by
        have : x < FA.1.length := by omega
        simp [List.getD, this])
      rw [e1]; rfl
  · cases h
theorem force_bound (size : Int) (rows : List Int) : ((forceX size rows).getD []).length ≤ 1000 ∧ (((forceX size rows).getD []).map List.length).sum ≤ 100000 := by
  cases h : forceX size rows with
  | none => simp
  | some L =>
    unfold forceX chainK at h
    obtain ⟨e, he, h⟩ := List.exists_of_findSome?_eq_some h
    obtain ⟨a, b, rfl, hab, hb, hg, _⟩ := edges_mem he
    obtain ⟨n, _, hrl, _, hn7⟩ := isG_size hg
    obtain ⟨h1, h2⟩ := chainX_len (show a < rows.length by omega) hb (by omega) h
    show L.length ≤ 1000 ∧ (L.map List.length).sum ≤ 100000
    rw [sum_pairs L h2]
    omega
end Go.Pw
/- The plain mathematics of orientations found arc by arc. -/
namespace Go.Pw
open Go
def remP (P : Nat → Nat → Bool) (a b : Nat) : Nat → Nat → Bool := fun i u => P i u && !(decide (i = a ∧ u = b) || decide (i = b ∧ u = a))
def addQ (Q : Nat → Nat → Bool) (a b : Nat) : Nat → Nat → Bool := fun i u => Q i u || decide (i = a ∧ u = b)
def remE (P : Nat → Nat → Bool) (e : List Int) : Nat → Nat → Bool := remP P (e.getD 0 0).toNat (e.getD 1 0).toNat
def addE (Q : Nat → Nat → Bool) (e : List Int) : Nat → Nat → Bool := addQ Q (e.getD 0 0).toNat (e.getD 1 0).toNat
def remU (P : Nat → Nat → Bool) (L : List (List Int)) (j : Nat) : Nat → Nat → Bool := (L.take j).foldl remE P
def orU (Q : Nat → Nat → Bool) (L : List (List Int)) (j : Nat) : Nat → Nat → Bool := (L.take j).foldl addE Q
theorem remU_succ {P : Nat → Nat → Bool} {L : List (List Int)} {j : Nat} (h : j < L.length) : remU P L (j + 1) = remE (remU P L j) (L.getD j []) := by
  unfold remU; rw [List.take_add_one, List.foldl_append]; simp [List.getD, h]
theorem orU_succ {Q : Nat → Nat → Bool} {L : List (List Int)} {j : Nat} (h : j < L.length) : orU Q L (j + 1) = addE (orU Q L j) (L.getD j []) := by
  unfold orU; rw [List.take_add_one, List.foldl_append]; simp [List.getD, h]
theorem remP_sub {P : Nat → Nat → Bool} {a b i u : Nat} (h : remP P a b i u = true) : P i u = true := by
  unfold remP at h; simp only [Bool.and_eq_true] at h; exact h.1
theorem remP_sym {P : Nat → Nat → Bool} (hs : ∀ i u, P i u = P u i) (a b i u : Nat) : remP P a b i u = remP P a b u i := by
  unfold remP
  rw [hs i u, Bool.or_comm]
  congr 3
  · exact decide_eq_decide.2 And.comm
  · exact decide_eq_decide.2 And.comm
theorem remF_sub : ∀ (L : List (List Int)) (P : Nat → Nat → Bool) {i u : Nat}, L.foldl remE P i u = true → P i u = true
  | [], _, _, _, h => h
  | e :: L, P, _, _, h => remP_sub (remF_sub L (remE P e) h)
theorem remF_sym : ∀ (L : List (List Int)) {P : Nat → Nat → Bool} (_ : ∀ i u, P i u = P u i) (i u : Nat), L.foldl remE P i u = L.foldl remE P u i
  | [], _, hs, i, u => hs i u
  | e :: L, _, hs, i, u => remF_sym L (P := remE _ e) (fun i u => remP_sym hs _ _ i u) i u
theorem remF_irr {L : List (List Int)} {P : Nat → Nat → Bool} (hi : ∀ i, P i i = false) (i : Nat) : L.foldl remE P i i = false := by
  cases h : L.foldl remE P i i with
  | false => rfl
  | true => have := remF_sub L P h; rw [hi] at this; cases this
theorem remF_gone : ∀ (L : List (List Int)) (P : Nat → Nat → Bool) {e : List Int}, e ∈ L → L.foldl remE P (e.getD 0 0).toNat (e.getD 1 0).toNat = false
  | x :: L, P, e, h => by
    rcases List.mem_cons.1 h with rfl | h
    · cases hc : (e :: L).foldl remE P (e.getD 0 0).toNat (e.getD 1 0).toNat with
      | false => rfl
      | true =>
        have := remF_sub L (remE P e) hc
        unfold remE remP at this
        simp at this
    · exact remF_gone L (remE P x) h
theorem addF_irr : ∀ (L : List (List Int)) {Q : Nat → Nat → Bool} (_ : ∀ i, Q i i = false) (_ : ∀ e ∈ L, (e.getD 0 0).toNat ≠ (e.getD 1 0).toNat) (i : Nat), L.foldl addE Q i i = false
  | [], _, hi, _, i => hi i
  | e :: L, Q, hi, h, i => addF_irr L (Q := addE Q e) (fun i => by
      have := h e (List.mem_cons_self ..)
      unfold addE addQ
      rw [hi i, Bool.false_or]
      exact decide_eq_false fun hh => this (hh.1.symm.trans hh.2)) (fun x hx => h x (List.mem_cons_of_mem _ hx)) i
/-- Rows as masks. -/
theorem rows_gRows {size : Int} {rows : List Int} {n : Nat} (hg : IsG size rows) (hn : size = n) : rows = gRows n (fun i u => hasB (rows.getD i 0) (u : Nat)) := by
  obtain ⟨n', hn', hrl, _, hn7⟩ := isG_size hg
  obtain rfl : n' = n := by omega
  apply List.ext_getElem
  · rw [gRows_length]; exact hrl
  · intro i h1 h2
    have hi : i < n' := by omega
    have ee : ∀ (L : List Int) (h : i < L.length), L[i] = L.getD i 0 := fun L h => by simp [List.getD, h]
    rw [ee rows h1, ee _ h2, gRows_get _ hi]
    obtain ⟨R, hR, hR1, hR2⟩ := row_nat hg hn' i
    rw [hR]
    congr 1
    apply Nat.eq_of_testBit_eq
    intro u
    rw [maskU_bit]
    by_cases hu : u < n'
    · rw [hasB_nat (by omega) (by omega)]; simp [hu]
    · have : R.testBit u = false := by
        cases hb : R.testBit u with
        | false => rfl
        | true => exact absurd (has_lt hR1 hb) hu
      rw [this]; simp [hu]
theorem bit_or : ∀ m : Fin 128, ∀ w : Fin 7, m.val ||| 2 ^ w.val < 128 := by decide +kernel
theorem mask_or {f : Nat → Bool} {n w : Nat} (hn : n ≤ 7) (hw : w < n) : ior ((maskU f n : Nat) : Int) (ishl 1 w) = ((maskU (fun u => f u || decide (u = w)) n : Nat) : Int) := by
  have h7 : 2 ^ n ≤ 2 ^ 7 := Nat.pow_le_pow_right (by omega) hn
  have hl := maskU_lt f n
  have hpw : 2 ^ w < 2 ^ 7 := Nat.pow_lt_pow_right (by omega) (by omega)
  rw [ishl_one_nat (by omega), ior_nat (by omega) (by omega)]
  congr 1
  apply Nat.eq_of_testBit_eq
  intro i
  rw [Nat.testBit_or, maskU_bit, maskU_bit, Nat.testBit_two_pow]
  by_cases hi : i = w
  · subst hi; simp [hw]
  · have : ¬ w = i := fun e => hi e.symm
    simp [hi, this]
theorem bit_del : ∀ m : Fin 128, ∀ w : Fin 7, m.val.testBit w.val = true → m.val ^^^ 2 ^ w.val = m.val - 2 ^ w.val ∧ 2 ^ w.val ≤ m.val := by decide +kernel
theorem mask_del {f : Nat → Bool} {n w : Nat} (hn : n ≤ 7) (hw : w < n) (hf : f w = true) :
    ixor ((maskU f n : Nat) : Int) (ishl 1 w) = ((maskU (fun u => f u && !decide (u = w)) n : Nat) : Int) ∧ ((maskU f n : Nat) : Int) - ishl 1 w = ((maskU (fun u => f u && !decide (u = w)) n : Nat) : Int) := by
  have h7 : 2 ^ n ≤ 2 ^ 7 := Nat.pow_le_pow_right (by omega) hn
  have hl := maskU_lt f n
  have hpw : 2 ^ w < 2 ^ 7 := Nat.pow_lt_pow_right (by omega) (by omega)
  have hb : (maskU f n).testBit w = true := by rw [maskU_bit, hf]; simp [hw]
  have h1 := bit_del ⟨maskU f n, by omega⟩ ⟨w, by omega⟩ hb
  dsimp only at h1
  have h2 : maskU f n ^^^ 2 ^ w = maskU (fun u => f u && !decide (u = w)) n := by
    apply Nat.eq_of_testBit_eq
    intro i
    rw [Nat.testBit_xor, maskU_bit, maskU_bit, Nat.testBit_two_pow]
    by_cases hi : i = w
    · subst hi; simp [hw, hf]
    · have : ¬ w = i := fun e => hi e.symm
      simp [hi, this]
  rw [ishl_one_nat (by omega), ixor_nat (by omega) (by omega), h2]
  refine ⟨rfl, ?_⟩
  rw [← h2, h1.1]
  omega
/-- An arc added. -/
theorem gRows_or {n a b : Nat} (Q : Nat → Nat → Bool) (hn : n ≤ 7) (ha : a < n) (hb : b < n) : (gRows n Q).set a (ior ((gRows n Q).getD a 0) (ishl 1 (b : Int))) = gRows n (addQ Q a b) := by
  rw [gRows_get Q ha, mask_or hn hb, gRows_set ha]
  refine gRows_congr fun i u _ _ => ?_
  unfold addQ
  by_cases h : i = a
  · subst h; simp
  · rw [if_neg h]; simp [h]
/-- An edge taken away. -/
theorem gRows_del {n v w : Nat} {P : Nat → Nat → Bool} (hv : v < n) (hw : w < n) (hvw : v ≠ w) :
    ((gRows n P).set v ((maskU (fun u => P v u && !decide (u = w)) n : Nat) : Int)).getD w 0 = ((maskU (P w) n : Nat) : Int) ∧
    ((gRows n P).set v ((maskU (fun u => P v u && !decide (u = w)) n : Nat) : Int)).set w ((maskU (fun u => P w u && !decide (u = v)) n : Nat) : Int) = gRows n (remP P v w) := by
  rw [gRows_set hv, gRows_get _ hw, if_neg (fun e => hvw e.symm), gRows_set hw]
  refine ⟨rfl, gRows_congr fun i u hi hu => ?_⟩
  unfold remP
  by_cases hiw : i = w
  · subst hiw
    have : ¬ i = v := fun e => hvw e.symm
    simp [this]
  · rw [if_neg hiw]
    by_cases hiv : i = v
    · subst hiv; simp [hiw]
    · simp [hiw, hiv]
theorem gRows_keep {n v w : Nat} {P : Nat → Nat → Bool} (h1 : P v w = false) (h2 : P w v = false) : gRows n P = gRows n (remP P v w) := by
  refine gRows_congr fun i u _ _ => ?_
  unfold remP
  by_cases c1 : i = v ∧ u = w
  · obtain ⟨rfl, rfl⟩ := c1; rw [h1]; rfl
  · by_cases c2 : i = w ∧ u = v
    · obtain ⟨rfl, rfl⟩ := c2; rw [h2]; rfl
    · rw [decide_eq_false c1, decide_eq_false c2]; simp
/-- How many arcs are left. -/
def cntP (n : Nat) (P : Nat → Nat → Bool) : Nat := ((List.range (n * n)).filter fun x => P (x / n) (x % n)).length
theorem cntP_le (n : Nat) (P : Nat → Nat → Bool) : cntP n P ≤ n * n := by
  unfold cntP
  exact Nat.le_trans (List.length_filter_le _ _) (by simp)
theorem cntP_lt {n a b : Nat} {P P' : Nat → Nat → Bool} (h : ∀ i u, P' i u = true → P i u = true) (ha : a < n) (hb : b < n) (h1 : P a b = true) (h2 : P' a b = false) : cntP n P' < cntP n P := by
  unfold cntP
  have e1 : (a * n + b) / n = a := by rw [Nat.mul_comm, Nat.mul_add_div (by omega), Nat.div_eq_of_lt hb]; omega
  have e2 : (a * n + b) % n = b := by rw [Nat.mul_comm, Nat.mul_add_mod, Nat.mod_eq_of_lt hb]
  refine filter_lt _ _ _ (fun x _ hx => h _ _ hx) ⟨a * n + b, List.mem_range.2 ?_, by rw [e1, e2]; exact h1, by rw [e1, e2]; exact h2⟩
  have : a * n + n ≤ n * n := by
    have := Nat.mul_le_mul_right n (show a + 1 ≤ n by omega)
    rw [Nat.add_mul] at this; omega
  omega
/-- What a search by breadth finds. -/
theorem addA_mem {k : Int} {s : List (List Int) × List Int} {e x : List Int} (h : x ∈ (addA k s e).1) : x ∈ s.1 ∨ x = e := by
  unfold addA at h
  split at h
  · exact .inl h
  · rcases List.mem_append.1 h with h | h
    · exact .inl h
    · exact .inr (List.mem_singleton.1 h)
theorem addA_old_mem {k : Int} {s : List (List Int) × List Int} {e x : List Int} (h : x ∈ s.1) : x ∈ (addA k s e).1 := by
  unfold addA
  split
  · exact h
  · exact List.mem_append_left _ h
theorem fold_mem {k : Int} : ∀ (L : List (List Int)) {s : List (List Int) × List Int} {x : List Int}, x ∈ (L.foldl (addA k) s).1 → x ∈ s.1 ∨ x ∈ L
  | [], _, _, h => .inl h
  | e :: L, s, x, h => by
    rcases fold_mem L h with h | h
    · rcases addA_mem h with h | h
      · exact .inl h
      · exact .inr (by rw [h]; exact List.mem_cons_self ..)
    · exact .inr (List.mem_cons_of_mem _ h)
theorem fold_old {k : Int} : ∀ (L : List (List Int)) {s : List (List Int) × List Int} {x : List Int}, x ∈ s.1 → x ∈ (L.foldl (addA k) s).1
  | [], _, _, h => h
  | _ :: L, _, _, h => fold_old L (addA_old_mem h)
def edgeE (rows : List Int) (e : List Int) : Prop := hasB (rows.getD (e.getD 0 0).toNat 0) (e.getD 1 0) = true
theorem bfsA_edge {rows : List Int} {a b : Int} (h : edgeE rows [a, b]) : ∀ k, ∀ e ∈ (bfsA rows a b k).1, edgeE rows e
  | 0, e, he => by obtain rfl := List.mem_singleton.1 he; exact h
  | k + 1, e, he => by
    unfold bfsA at he
    split at he
    · unfold stepA at he
      rcases fold_mem _ he with he | he
      · exact bfsA_edge h k e he
      · obtain ⟨v, u, rfl, _, _, hb⟩ := nextA_mem he
        exact (nextB_iff.1 hb).1
    · exact bfsA_edge h k e he
theorem bfsA_first {rows : List Int} {a b : Int} : ∀ k, [a, b] ∈ (bfsA rows a b k).1
  | 0 => List.mem_singleton_self _
  | k + 1 => by
    unfold bfsA
    split
    · unfold stepA; exact fold_old _ (bfsA_first k)
    · exact bfsA_first k
theorem forcedA_first (rows : List Int) (a b : Int) : [a, b] ∈ (forcedA rows a b).1 := by
  have h := bfsA_first (rows := rows) (a := a) (b := b)
  unfold forcedA
  generalize 49 = m
  exact h m
theorem forcedA_edge {rows : List Int} {a b : Int} (h : edgeE rows [a, b]) : ∀ e ∈ (forcedA rows a b).1, edgeE rows e := by
  have h2 := bfsA_edge h
  unfold forcedA
  generalize 49 = m
  exact h2 m
/-- Orientations. -/
def oriF (n : Nat) : Nat → (Nat → Nat → Bool) → (Nat → Nat → Bool) → Option (Nat → Nat → Bool)
  | 0, _, _ => none
  | f + 1, P, Q => match edgesL n (gRows n P) with
    | [] => some Q
    | e :: _ => if [e.getD 1 0, e.getD 0 0] ∈ (forcedA (gRows n P) (e.getD 0 0) (e.getD 1 0)).1 then none
      else oriF n f ((forcedA (gRows n P) (e.getD 0 0) (e.getD 1 0)).1.foldl remE P) ((forcedA (gRows n P) (e.getD 0 0) (e.getD 1 0)).1.foldl addE Q)
def bitsP (rows : List Int) : Nat → Nat → Bool := fun i u => decide (i < rows.length ∧ u < rows.length) && hasB (rows.getD i 0) (u : Nat)
def oriX (size : Int) (rows : List Int) : Option (Nat → Nat → Bool) := if IsG size rows then oriF rows.length 50 (bitsP rows) (fun _ _ => false) else none
def oriL (size : Int) (rows : List Int) : List Int := ((oriX size rows).map (gRows rows.length)).getD []
theorem oriL_len (size : Int) (rows : List Int) : (oriL size rows).length ≤ 7 := by
  unfold oriL oriX
  by_cases h : IsG size rows
  · obtain ⟨n, _, hrl, _, hn7⟩ := isG_size h
    cases hx : oriF rows.length 50 (bitsP rows) (fun _ _ => false) with
    | none => rw [if_pos h]; simp
    | some Q => rw [if_pos h]; simp; omega
  · rw [if_neg h]; simp
theorem bits_rows {size : Int} {rows : List Int} (hg : IsG size rows) : rows = gRows rows.length (bitsP rows) := by
  obtain ⟨n, hn, hrl, _, _⟩ := isG_size hg
  have h := rows_gRows hg hn
  rw [hrl]
  rw [gRows_congr (Q := bitsP rows) (fun i u hi hu => by unfold bitsP; rw [decide_eq_true ⟨by omega, by omega⟩]; rfl)] at h
  exact h
theorem bits_sym {size : Int} {rows : List Int} (hg : IsG size rows) (i u : Nat) : bitsP rows i u = bitsP rows u i := by
  unfold bitsP
  by_cases h : i < rows.length ∧ u < rows.length
  · rw [decide_eq_true h, decide_eq_true (And.comm.1 h), edge_sym hg h.1 h.2]
  · rw [decide_eq_false h, decide_eq_false (fun hh => h (And.comm.1 hh)), Bool.false_and, Bool.false_and]
theorem bits_irr {size : Int} {rows : List Int} (hg : IsG size rows) (i : Nat) : bitsP rows i i = false := by
  unfold bitsP
  by_cases h : i < rows.length ∧ i < rows.length
  · rw [(hg.2.2.1 i h.1).2, Bool.and_false]
  · rw [decide_eq_false h, Bool.false_and]
/-- One round. -/
structure RoundO (n : Nat) (P : Nat → Nat → Bool) (e : List Int) : Prop where
  arc : ∃ v u : Nat, e = [(v : Int), (u : Int)] ∧ v < u ∧ u < n
  edge : P (e.getD 0 0).toNat (e.getD 1 0).toNat = true
  forced : ∀ x ∈ (forcedA (gRows n P) (e.getD 0 0) (e.getD 1 0)).1, arcN n x ∧ (x.getD 0 0).toNat ≠ (x.getD 1 0).toNat
  ok : OkA n (forcedA (gRows n P) (e.getD 0 0) (e.getD 1 0))
  less : cntP n ((forcedA (gRows n P) (e.getD 0 0) (e.getD 1 0)).1.foldl remE P) < cntP n P
theorem roundO {n : Nat} {P : Nat → Nat → Bool} {e : List Int} (h1 : 1 ≤ n) (hn : n ≤ 7) (hi : ∀ i, P i i = false) (he : e ∈ edgesL n (gRows n P)) : RoundO n P e := by
  obtain ⟨v, u, rfl, hvu, hu, _, hb⟩ := edges_mem he
  rw [gRows_length] at hu
  have hl := gRows_length n P
  have hb' := hb
  rw [gRows_has hn P (by omega) hu] at hb'
  have hab : arcN (gRows n P).length [(v : Int), (u : Int)] := ⟨v, u, rfl, by omega, by omega⟩
  have hok := forcedA_ok hab
  rw [hl] at hok
  have hed : edgeE (gRows n P) [(v : Int), (u : Int)] := hb
  refine ⟨⟨v, u, rfl, hvu, hu⟩, hb', fun x hx => ?_, hok, ?_⟩
  · have h2 := hok.arc x hx
    refine ⟨h2, fun e => ?_⟩
    have h3 := forcedA_edge hed x hx
    obtain ⟨i, j, rfl, hi2, hj2⟩ := h2
    have h4 : hasB ((gRows n P).getD i 0) (j : Int) = true := h3
    rw [gRows_has hn P hi2 hj2] at h4
    have e' : i = j := e
    rw [e', hi] at h4
    cases h4
  · refine cntP_lt (a := v) (b := u) (fun i j h => remF_sub _ P h) (by omega) hu hb' ?_
    exact remF_gone _ P (e := [(v : Int), (u : Int)]) (forcedA_first _ _ _)
theorem oriF_irr {n : Nat} (h1 : 1 ≤ n) (hn : n ≤ 7) : ∀ (f : Nat) {P Q R : Nat → Nat → Bool}, (∀ i, P i i = false) → (∀ i, Q i i = false) → oriF n f P Q = some R → ∀ i, R i i = false
  | 0, _, _, _, _, _, h => by cases h
  | f + 1, P, Q, R, hP, hQ, h => by
    unfold oriF at h
    cases he : edgesL n (gRows n P) with
    | nil => rw [he] at h; injection h with h; subst h; exact hQ
    | cons e r =>
      rw [he] at h
      dsimp only at h
      have hr := roundO h1 hn hP (e := e) (by rw [he]; exact List.mem_cons_self ..)
      split at h
      · cases h
      · exact oriF_irr h1 hn f (remF_irr hP) (addF_irr _ hQ fun x hx => (hr.forced x hx).2) h
end Go.Pw
/- Lists of edges; greatest matchings; marks on slices of slices. -/
namespace Go.Proofs.YtcicdnpmlcjcmaaGreat
open Go Go.RowKit Go.Pw
theorem en_s_EdgesOf : Entry Tryz.prog 24 := ⟨_, Tryz.func24, by kernel_rfl, rfl⟩
set_option maxHeartbeats 1600000 in
theorem s_EdgesOf_c (size : Int) (gv : Value) (rows : List Int) (w : World) (hr : Arr w gv (ints rows)) :
    Gives Tryz.prog 24 #[.agg #[.int .i64 size, gv]] w (fun v objs => ∃ ps, lssOf ps = edgesL size rows ∧ objs = .row 24 v (svsOf ps) :: rowsOb 3 ps) := by
  refine gives_enter (args := [_]) en_s_EdgesOf Tryz.func24 rfl Tryz.ntmps24 rfl ?_
  repeat' (first | apply pwp_seq | apply pwp_region | (apply px_run; (first | (apply opv_assign; first | exact hid_int rfl | rfl)); rfl; rfl) | apply px_nil | apply qseq_normal | apply pwp_block | (apply px_box; rfl; rfl; rfl; rfl; intro bk) | (apply px_lit0s ez_intss; rfl; rfl; rfl; intro sv))
  by_cases hg : IsG size rows
  case neg =>
    refine pwp_loop_once ?_
    repeat' (first | apply pwp_seq | apply pwp_region | (apply px_run; (first | (apply opv_move; first | exact hid_int rfl | exact hid_bool rfl | rfl) | (apply opv_assign; first | rfl) | (apply opv_lss <;> rfl) | (apply opv_pick_t <;> rfl) | (apply opv_pick_f <;> rfl) | (apply opv_field fld_G0; rfl) | (apply opv_load_blk 1; (first | with_reducible exact sc_int); rfl; rfl; rfl) | (apply opv_load_str 1 st_G; rfl; rfl; rfl) | (apply opv_call; rfl; rfl; exact Cl.stable _ _ _; exact fun w hw => s_IsGraph_c _ _ rows _ (by first | exact hw.arr (by assumption)))); rfl; rfl) | apply px_nil | (apply px_skip; rfl; rfl) | apply qseq_normal | apply qseq_exit | (apply qblock_exit_same; rfl) | apply pwp_exit | apply pwp_ret | apply qonce_exit | (apply pwp_cond_f; rfl) | (apply px_guard_dec; rfl; rfl; rfl; all_goals (intro hc; try (first | fail))) | (apply pwp_cond_dec; rfl; all_goals (intro hc; try (first | contradiction))))
    all_goals
      refine qbody_ret1 (v := sv) rfl rfl ⟨[.row 24 sv (svsOf [])], ⟨[], by unfold edgesL; rw [if_neg hg]; rfl, rfl⟩, fun w' h => ?_⟩
      exact Cl.sub (by assumption) (by repeat (first | exact List.Sublist.slnil | exact List.Sublist.refl _ | apply List.Sublist.cons_cons | exact List.sublist_append_left _ _ | exact List.sublist_append_right _ _ | apply List.Sublist.cons))
  obtain ⟨n, hn, hrl, hn1, hn7⟩ := isG_size hg
  refine pwp_loop (τ := Nat × Value × Pairs) [(3,5), (7,34)] (fun x => [(4, .int .i64 (x.1 : Int)), (3, x.2.1)]) (fun x => Cl [] w (.row 24 x.2.1 (svsOf x.2.2) :: .blk bk [.int .i64 size, gv] :: rowsOb 3 x.2.2)) (fun x => x.1 ≤ n ∧ lssOf x.2.2 = edU rows n x.1) (fun x => n - x.1) (0, sv, [])
    ⟨rfl, rfl, trivial⟩ ⟨Nat.zero_le _, rfl⟩ (fun _ h => h) (fun J x hx => ?_)
  obtain ⟨v, so, ps⟩ := x
  dsimp only at hx ⊢
  obtain ⟨hv, he⟩ := hx
  by_cases hlt : v < n
  · repeat' (first | apply pwp_seq | apply pwp_region | (apply px_run; (first | (apply opv_move; first | exact hid_int rfl | exact hid_bool rfl) | (apply opv_assign; first | exact hid_int rfl) | (apply opv_lss <;> rfl) | (apply opv_pick_t <;> rfl) | (apply opv_add_in; rfl; rfl; omega) | (apply opv_field fld_G0; rfl) | (apply opv_load_blk 1; (first | with_reducible exact sc_int); rfl; rfl; rfl) | (apply opv_load_str 1 st_G; rfl; rfl; rfl) | (apply opv_call; rfl; rfl; exact Cl.stable _ _ _; exact fun w hw => s_IsGraph_c _ _ rows _ (by first | exact hw.arr (by assumption)))); rfl; rfl) | apply px_nil | apply qseq_normal | apply pwp_block | apply pwp_skip | (apply px_guard_dec; rfl; rfl; rfl; all_goals (intro hc; try (first | (exfalso; omega)))) | (apply pwp_cond_dec; rfl; all_goals (intro hc; try (first | contradiction))))
    refine pwp_loop (τ := Nat × Value × Pairs) [(3,3), (5,5), (19,34)] (fun x => [(5, .int .i64 (x.1 : Int)), (3, x.2.1)]) (fun x => Cl [] w (.row 24 x.2.1 (svsOf x.2.2) :: .blk bk [.int .i64 size, gv] :: rowsOb 3 x.2.2)) (fun x => (v + 1 ≤ x.1 ∧ x.1 ≤ n) ∧ lssOf x.2.2 = edU rows n v ++ edRow rows v x.1) (fun x => n - x.1) (v + 1, so, ps)
      ⟨rfl, rfl, trivial⟩ ⟨⟨Nat.le_refl _, hlt⟩, by dsimp only; rw [edRow_low rows v _ (Nat.le_refl _), List.append_nil]; exact he⟩ (fun _ h => h) (fun J2 x hx => ?_)
    obtain ⟨u, so2, qs⟩ := x
    dsimp only at hx ⊢
    obtain ⟨⟨hu1, hu2⟩, he2⟩ := hx
    by_cases hlu : u < n
    · have hel : qs.length ≤ 98 := by
        have h1 := edU_length rows n v
        have h2 := edRow_length rows v u
        have h3 : v * n ≤ 7 * 7 := Nat.mul_le_mul (by omega) hn7
        have h4 := congrArg List.length he2
        rw [lssOf_length, List.length_append] at h4
        omega
      have hes := edRow_succ rows v u
      repeat' (first | apply pwp_seq | apply pwp_region | (apply px_run; (first | (apply opv_move; first | exact hid_int rfl | rfl) | (apply opv_assign; first | exact hid_int rfl | rfl) | (apply opv_lss <;> rfl) | (apply opv_add_in; rfl; rfl; omega) | (apply opv_field fld_G0; rfl) | (apply opv_load_blk 1; (first | with_reducible exact sc_int); rfl; rfl; rfl) | (apply opv_load_str 1 st_G; rfl; rfl; rfl) | (apply opv_call; rfl; rfl; exact Cl.stable _ _ _; exact fun w hw => s_l2Edge_c _ _ rows _ _ _ (by first | exact hw.arr (by assumption)) (by omega) (by omega))); rfl; rfl) | apply px_nil | apply qseq_normal | apply pwp_block | apply qblock_normal | apply pwp_skip | (apply pwp_cond_dec; rfl; all_goals (intro hc; try (first | (exfalso; omega)))) | (apply pwp_cond; rfl; all_goals (intro hc; try (first | fail))) | (apply px_lit2 ez_int; rfl; (intro w hw; (first | rfl)); rfl; (intro w hw; (first | rfl)); rfl; rfl; rfl; intro sv) | (apply px_lit1 ez_intss; rfl; (intro w hw; (first | exact stor_row 0 hw rfl)); rfl; rfl; rfl; intro sv) | (apply px_append 2 ez_intss; rfl; rfl; rfl; (first | exact rd_row 0 rfl); (intro w hw u hu; simp only [List.mem_singleton] at hu; subst hu; (first | exact stor_row 1 hw rfl)); (simp; omega); decide; rfl; rfl; intro sv))
      · rename_i e s1
        refine qround_normal ?_ ⟨(u + 1, sv, qs ++ [(e, [(v : Int), (u : Int)])]), ⟨rfl, rfl, trivial⟩, ⟨⟨by dsimp only; omega, by dsimp only; omega⟩, ?_⟩, by dsimp only; omega, fun w' h => ?_⟩
        · repeat (first | exact same_refl | refine same_upd rfl ?_ | refine same_junk rfl ?_)
        · dsimp only
          rw [hes, if_pos ⟨by omega, hc⟩, lssOf_snoc, he2, List.append_assoc]
        · dsimp only
          have := (h.sub (List.sublist_cons_self _ _)).perm (List.perm_append_singleton _ _).symm
          rw [rowsOb_snoc, svsOf_snoc]
          exact this
      · refine qround_normal ?_ ⟨(u + 1, so2, qs), ⟨rfl, rfl, trivial⟩, ⟨⟨by dsimp only; omega, by dsimp only; omega⟩, ?_⟩, by dsimp only; omega, fun _ h => h⟩
        · repeat (first | exact same_refl | refine same_upd rfl ?_ | refine same_junk rfl ?_)
        · dsimp only
          rw [hes, if_neg (fun h => by have := h.2; rw [show hasB (rows.getD v 0) (u : Nat) = false from hc] at this; cases this), he2]
    · obtain rfl : u = n := by omega
      repeat' (first | apply pwp_seq | apply pwp_region | (apply px_run; (first | (apply opv_move; first | exact hid_int rfl) | (apply opv_assign; first | exact hid_int rfl) | (apply opv_lss <;> rfl) | (apply opv_add_in; rfl; rfl; omega) | (apply opv_field fld_G0; rfl) | (apply opv_load_blk 1; (first | with_reducible exact sc_int); rfl; rfl; rfl)); rfl; rfl) | apply px_nil | apply qseq_normal | apply qseq_exit | apply qblock_normal | (apply qblock_exit_same; rfl) | apply pwp_exit | apply qround_exit | (apply pwp_cond_dec; rfl; all_goals (intro hc; try (first | (exfalso; omega)))))
      refine qround_normal ?_ ⟨(v + 1, so2, qs), ⟨rfl, rfl, trivial⟩, ⟨by dsimp only; omega, ?_⟩, by dsimp only; omega, fun _ h => h⟩
      · repeat (first | exact same_refl | refine same_upd rfl ?_ | refine same_junk rfl ?_)
      · dsimp only
        rw [edU_succ, he2]
  · obtain rfl : v = n := by omega
    repeat' (first | apply pwp_seq | apply pwp_region | (apply px_run; (first | (apply opv_move; first | exact hid_int rfl | exact hid_bool rfl | rfl) | (apply opv_assign; first | rfl) | (apply opv_lss <;> rfl) | (apply opv_pick_f <;> rfl) | (apply opv_field fld_G0; rfl) | (apply opv_load_blk 1; (first | with_reducible exact sc_int); rfl; rfl; rfl) | (apply opv_load_str 1 st_G; rfl; rfl; rfl)); rfl; rfl) | apply px_nil | (apply px_skip; rfl; rfl) | apply qseq_normal | apply qseq_exit | (apply qblock_exit_same; rfl) | apply pwp_exit | apply pwp_ret | apply qround_exit | (apply pwp_cond_f; rfl) | (apply px_guard_dec; rfl; rfl; rfl; all_goals (intro hc; try (first | (exfalso; omega)))))
    refine qbody_ret1 (v := so) rfl rfl ⟨_, ⟨ps, by unfold edgesL; rw [if_pos hg, hrl]; exact he, rfl⟩, fun w' h => ?_⟩
    exact Cl.sub (by assumption) (by repeat (first | exact List.Sublist.slnil | exact List.Sublist.refl _ | apply List.Sublist.cons_cons | exact List.sublist_append_left _ _ | exact List.sublist_append_right _ _ | apply List.Sublist.cons))
end Go.Proofs.YtcicdnpmlcjcmaaGreat
/- Rows found among the objects by membership. -/
namespace Go.Pw
open Go Go.RowKit
theorem lss_getD' (ps : Pairs) (k : Nat) : (lssOf ps).getD k [] = lsAt ps k := by
  simp only [lssOf, lsAt, List.getD, List.getElem?_map]
  cases ps[k]? <;> rfl
theorem rd_mem {X : List Nat} {w0 : World} {objs : List Ob} {e : TypeId} {sv : Value} {vs : List Value} (h : Ob.row e sv vs ∈ objs) : Rd (Cl X w0 objs) sv vs := ⟨fun _ hw => arr_of_row (hw.holds _ h)⟩
theorem row_mem {ps : Pairs} {e : TypeId} {k : Nat} (h : k < ps.length) : Ob.row e (svAt ps k) (ints (lsAt ps k)) ∈ rowsOb e ps :=
  List.mem_map.2 ⟨ps[k], List.getElem_mem h, by simp [svAt, lsAt, List.getD, h]⟩
theorem rowsOb_append (e : TypeId) (a b : Pairs) : rowsOb e (a ++ b) = rowsOb e a ++ rowsOb e b := by simp [rowsOb]
theorem rowsOb_drop {e : TypeId} {ps : Pairs} {k : Nat} (h : k < ps.length) : rowsOb e (ps.drop k) = .row e (svAt ps k) (ints (lsAt ps k)) :: rowsOb e (ps.drop (k + 1)) := by
  rw [ps_drop h]; rfl
theorem lsAt_mem {ps : Pairs} {k : Nat} (h : k < ps.length) : lsAt ps k ∈ lssOf ps := List.mem_of_getElem? (lss_get h)
theorem stor_mem {X : List Nat} {w0 w : World} {objs : List Ob} {e : TypeId} {sv : Value} {vs : List Value} (hw : Cl X w0 objs w) (h : Ob.row e sv vs ∈ objs) : storable sv = true := stor_arr (arr_of_row (hw.holds _ h))
/-- Ascending numbers are some of the first ones. -/
theorem asc_range' : ∀ (d m : Nat) (c : List Nat), c.Pairwise (· < ·) → (∀ x ∈ c, m ≤ x ∧ x < m + d) → List.Sublist c (List.range' m d)
  | 0, m, [], _, _ => List.Sublist.slnil
  | 0, m, x :: c, _, h => by have := h x (List.mem_cons_self ..); omega
  | d + 1, m, [], _, _ => List.nil_sublist _
  | d + 1, m, x :: c, hp, h => by
    rw [List.range'_succ]
    have h1 := List.pairwise_cons.1 hp
    have hx := h x (List.mem_cons_self ..)
    by_cases e : x = m
    · subst e
      refine List.Sublist.cons_cons _ (asc_range' d (x + 1) c h1.2 fun y hy => ?_)
      have := h1.1 y hy
      have := h y (List.mem_cons_of_mem _ hy)
      omega
    · refine List.Sublist.cons _ (asc_range' d (m + 1) (x :: c) hp fun y hy => ?_)
      have hy2 := h y hy
      rcases List.mem_cons.1 hy with rfl | hy
      · omega
      · have := h1.1 y hy; omega
def pickP (ps : Pairs) (c : List Nat) : Pairs := c.map fun j => (svAt ps j, lsAt ps j)
theorem pickP_range (ps : Pairs) : pickP ps (List.range ps.length) = ps := by
  apply List.ext_getElem (by simp [pickP])
  intro i h1 h2
  simp [pickP, svAt, lsAt, List.getD, h2]
theorem pickP_sub {ps : Pairs} {c : List Nat} (hc : c.Pairwise (· < ·)) (h : ∀ x ∈ c, x < ps.length) : List.Sublist (pickP ps c) ps := by
  have h1 := asc_range' ps.length 0 c hc fun x hx => ⟨Nat.zero_le _, by have := h x hx; omega⟩
  rw [← List.range_eq_range'] at h1
  have h2 := List.Sublist.map (fun j => (svAt ps j, lsAt ps j)) h1
  have h3 := pickP_range ps
  unfold pickP at h3 ⊢
  rw [h3] at h2
  exact h2
theorem pickP_lss (ps : Pairs) (c : List Nat) : lssOf (pickP ps c) = c.map fun i => (lssOf ps).getD i [] := by
  simp only [pickP, lssOf, List.map_map]
  refine List.map_congr_left fun i _ => ?_
  have := lss_getD' ps i
  simp only [Function.comp_apply]
  exact this.symm
theorem svs_set (ps : Pairs) (i : Nat) (p : Value × List Int) : svsOf (ps.set i p) = (svsOf ps).set i p.1 := by simp [svsOf, List.map_set]
theorem ps_snoc {ps : Pairs} {k : Nat} (h : k < ps.length) : ps.take (k + 1) = ps.take k ++ [(svAt ps k, lsAt ps k)] := by
  rw [List.take_add_one, List.getElem?_eq_getElem h]
  have : (svAt ps k, lsAt ps k) = ps[k] := by simp [svAt, lsAt, List.getD, h]
  rw [this]; rfl
theorem rowsOb_sub {e : TypeId} {a b : Pairs} (h : List.Sublist a b) : List.Sublist (rowsOb e a) (rowsOb e b) := h.map _
theorem stor_svsA {w : World} {sv : Value} {ps : Pairs} (h : ArrS w sv ps) : ∀ u ∈ svsOf ps, storable u = true := fun u hu => by
  obtain ⟨k, hk, rfl⟩ := List.mem_iff_getElem.1 hu
  rw [svsOf_length] at hk
  have := stor_arr (h.each k hk)
  simpa [svsOf, svAt, List.getD, hk] using this
theorem pick_mem {ps : Pairs} {e : TypeId} {c : List Nat} (h : ∀ x ∈ c, x < ps.length) : ∀ o ∈ rowsOb e (pickP ps c), o ∈ rowsOb e ps := fun o ho => by
  obtain ⟨p, hp, rfl⟩ := List.mem_map.1 ho
  obtain ⟨x, hx, rfl⟩ := List.mem_map.1 hp
  exact row_mem (h x hx)
theorem pick_snoc (ps : Pairs) (c : List Nat) (m : Nat) : pickP ps (c ++ [m]) = pickP ps c ++ [(svAt ps m, lsAt ps m)] := by simp [pickP]
theorem pick_rev (ps : Pairs) (c : List Nat) : (pickP ps c).reverse = pickP ps c.reverse := by simp [pickP, List.map_reverse]
section
variable {P : Program} {C : Cls} {ρ : Operand → Value} {d : Option Tmp} {t ty : TypeId} {pos : String} {af : Array Edge} {g : Option (Nat × Bool)} {x : Operand}
theorem opv_load_iota {sv : Value} {n i : Nat} (ht : Scalar P t) (hx : ρ x = .pointer (some (addrOf sv i))) (hr : Rd C sv (ints (iota n))) (hi : i < n) : Opv P C ρ ⟨d, .load t x, ty, pos, af, g⟩ (.int .i64 (i : Int)) := by
  have := opv_load_ints (d := d) (ty := ty) (pos := pos) (af := af) (g := g) ht hx hr (by simpa [iota] using hi)
  rwa [iota_get hi] at this
end
end Go.Pw
/- The plain mathematics of module trees. -/
namespace Go.Pw
open Go

/-- A node's children. -/
def childU (c : List Int) (i : Int) (k : Nat) : List Int := ((List.range k).filter fun v => c.getD v 0 = i).map Int.ofNat
def childL (c : List Int) (i : Int) : List Int := childU c i c.length
theorem childU_succ (c : List Int) (i : Int) (k : Nat) : childU c i (k + 1) = if c.getD k 0 = i then childU c i k ++ [(k : Int)] else childU c i k := by
  unfold childU
  rw [List.range_succ, List.filter_append, List.map_append, List.filter_cons, List.filter_nil]
  by_cases h : c.getD k 0 = i
  · rw [if_pos (decide_eq_true h), if_pos h]; rfl
  · rw [if_neg (by rw [decide_eq_false h]; exact Bool.false_ne_true), if_neg h, List.map_nil, List.append_nil]
theorem childU_length (c : List Int) (i : Int) (k : Nat) : (childU c i k).length ≤ k := by
  unfold childU
  rw [List.length_map]
  exact Nat.le_trans (List.length_filter_le _ _) (by simp)

/-- A tree that can be walked. -/
def fineAt (a b c : List Int) (i : Nat) : Prop := (0 ≤ a.getD i 0 ∧ a.getD i 0 ≤ 127) ∧ (0 ≤ b.getD i 0 ∧ b.getD i 0 ≤ 3) ∧ (0 < i → 0 ≤ c.getD i 0 ∧ c.getD i 0 ≤ (i : Int) - 1)
instance (a b c : List Int) (i : Nat) : Decidable (fineAt a b c i) := by unfold fineAt; infer_instance
def fineT (a b c : List Int) : Prop := (1 ≤ (a.length : Int) ∧ (a.length : Int) ≤ 20) ∧ (b.length : Int) = a.length ∧ (c.length : Int) = a.length ∧ c.getD 0 0 = -1 ∧ ∀ i, i < a.length → fineAt a b c i
instance (a b c : List Int) : Decidable (fineT a b c) := by unfold fineT; infer_instance

/-- How deep a node lies. -/
def depF (c : List Int) : Nat → Nat → Int
  | 0, _ => 0
  | f + 1, i => if 0 < i then depF c f (c.getD i 0).toNat + 1 else 0
def dep (c : List Int) (i : Nat) : Int := depF c i i
/-- Each node but the first lies under an earlier one. -/
def down (c : List Int) (n : Nat) : Prop := ∀ i, i < n → 0 < i → 0 ≤ c.getD i 0 ∧ c.getD i 0 ≤ (i : Int) - 1
theorem depF_fuel {c : List Int} {n : Nat} (hd : down c n) : ∀ (f : Nat) (g : Nat) (i : Nat), i < n → i ≤ f → i ≤ g → depF c f i = depF c g i
  | 0, 0, _, _, _, _ => rfl
  | 0, g + 1, i, _, h1, _ => by obtain rfl : i = 0 := by omega
                                rfl
  | f + 1, 0, i, _, _, h2 => by obtain rfl : i = 0 := by omega
                                rfl
  | f + 1, g + 1, i, hn, h1, h2 => by
    unfold depF
    by_cases h : 0 < i
    · have := hd i hn h
      rw [if_pos h, if_pos h, depF_fuel hd f g _ (by omega) (by omega) (by omega)]
    · rw [if_neg h, if_neg h]
theorem dep_zero (c : List Int) : dep c 0 = 0 := rfl
theorem dep_pos {c : List Int} {n : Nat} (hd : down c n) (i : Nat) (hn : i < n) (h : 0 < i) : dep c i = dep c (c.getD i 0).toNat + 1 := by
  have h0 := hd i hn h
  unfold dep
  obtain ⟨j, rfl⟩ : ∃ j, i = j + 1 := ⟨i - 1, by omega⟩
  rw [depF, if_pos h, depF_fuel hd j (c.getD (j + 1) 0).toNat _ (by omega) (by omega) (by omega)]
theorem dep_bound {c : List Int} {n : Nat} (hd : down c n) (i : Nat) (hn : i < n) : 0 ≤ dep c i ∧ dep c i ≤ i := by
  induction i using Nat.strongRecOn with
  | _ i ih =>
    by_cases h : 0 < i
    · have h0 := hd i hn h
      have := ih (c.getD i 0).toNat (by omega) (by omega)
      rw [dep_pos hd i hn h]; omega
    · obtain rfl : i = 0 := by omega
      rw [dep_zero]; omega
def depM (c : List Int) (k : Nat) : Int := (List.range k).foldl (fun m i => max m (dep c i)) 0
theorem depM_succ (c : List Int) (k : Nat) : depM c (k + 1) = max (depM c k) (dep c k) := by simp [depM, List.range_succ]
def depL (c : List Int) (k : Nat) : List Int := (List.range k).map (dep c)
theorem depL_succ (c : List Int) (k : Nat) : depL c (k + 1) = depL c k ++ [dep c k] := by simp [depL, List.range_succ]
@[simp] theorem depL_length (c : List Int) (k : Nat) : (depL c k).length = k := by simp [depL]
theorem depL_get (c : List Int) (k i : Nat) (h : i < k) : (depL c k).getD i 0 = dep c i := by simp [depL, List.getD, h]
theorem depL_bound {c : List Int} {k : Nat} (hd : down c k) (j : Nat) : 0 ≤ (depL c k).getD j 0 ∧ (depL c k).getD j 0 ≤ k := by
  by_cases h : j < k
  · have := dep_bound hd j h; rw [depL_get c k j h]; omega
  · simp [List.getD, depL, h]
def depthT (a b c : List Int) : Int := if fineT a b c then depM c c.length else -1
end Go.Pw
/- Structs of three slices, built. -/
namespace Go.Pw
open Go Go.RowKit
structure BuildT (P : Program) (t : TypeId) : Prop where
  one : ∀ ao l c, P.built t [(0, .slice ao l c)] = some #[.slice ao l c, .slice none 0 0, .slice none 0 0]
  nil : P.built t [] = some #[.slice none 0 0, .slice none 0 0, .slice none 0 0]
section
variable {P : Program} {C : Cls} {ρ : Operand → Value} {d : Option Tmp} {t t' ty : TypeId} {pos : String} {af : Array Edge} {g : Option (Nat × Bool)} {x y z : Operand} {m n : Int}
theorem opv_buildT1 {sv : Value} {vs : List Value} (hb : BuildT P t) (hx : ρ x = sv) (hr : Rd C sv vs) : Opv P C ρ ⟨d, .build t #[(0, x)], ty, pos, af, g⟩ (.agg [sv, .slice none 0 0, .slice none 0 0].toArray) :=
  opv_of_run fun w hw => by
    obtain ⟨ao, l, c, rfl⟩ := arr_slice (hr.out w hw)
    have := run_build (P := P) w t #[(0, .slice ao l c)] _ (hb.one ao l c)
    simp [execOp, hx, this]
theorem opv_buildT0 (hb : BuildT P t) : Opv P C ρ ⟨d, .build t #[], ty, pos, af, g⟩ (.agg [.slice none 0 0, .slice none 0 0, .slice none 0 0].toArray) :=
  opv_of_run fun w hw => by
    have := run_build (P := P) w t #[] _ hb.nil
    simp [execOp, this]
end
/-- Some of the objects, in another order (each number counts in what the ones before leave). -/
theorem Cl.pick {X : List Nat} {w0 w : World} {objs old rest : List Ob} (ks : List Nat) (h : Cl X w0 objs w) (hp : pull objs ks = some (old, rest)) : Cl X w0 old w :=
  (h.perm (pull_perm ks _ _ _ hp)).sub (List.sublist_append_left _ _)
end Go.Pw
/- Orientations found arc by arc: the program's and the reference's. -/
namespace Go.Proofs.YtcicdnpmlcjcmaaGreat
open Go Go.RowKit Go.Pw
theorem en_s_RemoveEdge : Entry Tryz.prog 64 := ⟨_, Tryz.func64, by kernel_rfl, rfl⟩
set_option maxHeartbeats 1600000 in
theorem s_RemoveEdge_c (n : Nat) (gv : Value) (P : Nat → Nat → Bool) (v u : Nat) (w : World) (hr : Arr w gv (ints (gRows n P))) (h1 : 1 ≤ n) (hn : n ≤ 7) (hs : ∀ i u, P i u = P u i) (hi : ∀ i, P i i = false)
    (hv : v < n) (hu : u < n) (hvu : v ≠ u) :
    Gives Tryz.prog 64 #[.agg #[.int .i64 n, gv], .int .i64 v, .int .i64 u] w (fun x objs => ∃ sv', x = .tuple #[.agg #[.int .i64 n, sv'], .bool (P v u)] ∧ objs = [.row 3 sv' (ints (gRows n (remP P v u)))]) := by
  have hg := gRows_isG h1 hn hs hi
  have hlen : (gRows n P).length = n := gRows_length n P
  have hhas := gRows_has hn P hv hu
  have hvu' : (v : Int) ≠ u := by omega
  refine gives_enter (args := [_, _, _]) en_s_RemoveEdge Tryz.func64 rfl Tryz.ntmps64 rfl ?_
  cases hP : P v u with
  | true =>
    have hP2 : P u v = true := by rw [hs]; exact hP
    obtain ⟨p1, p2⟩ := gRows_del (P := P) hv hu hvu
    obtain ⟨_, m1⟩ := mask_del (f := P v) hn hu hP
    obtain ⟨_, m2⟩ := mask_del (f := P u) hn hv hP2
    have h7 : 2 ^ n ≤ 2 ^ 7 := Nat.pow_le_pow_right (by omega) hn
    have l1 := maskU_lt (fun x => P v x && !decide (x = u)) n
    have l2 := maskU_lt (fun x => P u x && !decide (x = v)) n
    have b1 : (gRows n P).getD v 0 - ishl 1 (u : Int) = ((maskU (fun x => P v x && !decide (x = u)) n : Nat) : Int) := by rw [gRows_get P hv]; exact m1
    have b2 : ((gRows n P).set v ((gRows n P).getD v 0 - ishl 1 (u : Int))).getD u 0 - ishl 1 (v : Int) = ((maskU (fun x => P u x && !decide (x = v)) n : Nat) : Int) := by rw [b1, p1]; exact m2
    repeat' (first | apply pwp_seq | apply pwp_region | (apply px_run; (first | (apply opv_move; first | exact hid_int rfl | exact hid_bool rfl) | (apply opv_assign; first | exact hid_bool rfl) | (apply opv_pick_f <;> rfl) | (apply opv_not <;> rfl) | (apply opv_sub_in; rfl; rfl; omega) | (apply opv_shl; rfl; rfl; omega) | (apply opv_field fld_G1; rfl) | (apply opv_load_blk 0; (first | with_reducible exact sc_int | with_reducible exact sc_ints); rfl; rfl; rfl) | (apply opv_load_ints sc_int; rfl; (first | exact rd_row 1 rfl); (first | omega | (simp only [List.length_set]; omega))) | (apply opv_index_nat (vs := ints _) el_int; (case hr => exact rd_row 1 rfl); (case hx => rfl); (case hy => rfl); (first | (simp only [ints_length]; omega) | (simp [ints]; omega))) | (apply opv_load_str 0 st_G; rfl; rfl; rfl) | (apply opv_load_str 1 st_G; rfl; rfl; rfl) | (apply opv_load_str 3 st_G; rfl; rfl; rfl) | (apply opv_call; rfl; rfl; exact Cl.stable _ _ _; exact fun w hw => s_l2Pair_c _ _ _ _ _ _ (by first | exact hw.arr (by assumption)) hg (by omega) (by omega) hvu') | (apply opv_call; rfl; rfl; exact Cl.stable _ _ _; exact fun w hw => s_l2Edge_c _ _ (gRows n P) _ _ _ (by first | exact hw.arr (by assumption)) (by omega) (by omega))); rfl; rfl) | apply px_nil | apply qseq_normal | apply qseq_ret | apply pwp_skip | apply pwp_ret | (apply pwp_region_any [0, 1, 2, 3, 4, 5, 6, 7, 8, 9, 10, 11] [12] 1 (Cl [] w [.blk _ [.int .i64 n, sc], .row 3 sc _, .blk _ _, .blk _ _]); kernel_rfl; decide +kernel; exact Cl.stable _ _ _; exact fun w h => h.sub (by repeat (first | exact List.Sublist.refl _))) | apply qlooks_normal | (apply qstep_out; decide +kernel) | (apply pxa_nil; decide +kernel) | (apply pxa_one 12; decide +kernel; rfl) | (apply pwp_cond_not; rfl; all_goals (intro hc; try (first | fail))) | (apply px_box; rfl; rfl; rfl; rfl; intro bk) | (apply px_alloc st_G; rfl; rfl; rfl; intro bk) | (apply px_store_str 0 st_G; rfl; rfl; rfl; rfl; rfl; (intro w hw; (first | refine all2 rfl ?_ ?_) <;> (first | rfl | exact stor_row 1 hw rfl)); rfl) | (apply px_store_str 2 st_G; rfl; rfl; rfl; rfl; rfl; (intro w hw; (first | refine all2 rfl ?_ ?_) <;> (first | rfl | exact stor_row 1 hw rfl)); rfl) | (apply px_store_int 1 co_int; rfl; rfl; rfl; (first | omega | (simp; omega)); rfl) | (apply px_gives; rfl; rfl; rfl; rfl; rfl; exact fun w hw => s_l2Copy_c _ _ (gRows n P) _ (by first | exact hw.arr (by assumption)) (by omega); rintro _ _ ⟨sc, rfl, rfl⟩))
    all_goals first
      | (exfalso; rw [show hasB ((gRows n P).getD (Int.toNat (v : Int)) 0) (u : Int) = P v u from hhas, hP] at hc; cases hc; done)
      | (refine qbody_cell_tmp 2 rfl st_G rfl rfl rfl rfl ⟨_, ⟨sc, rfl, rfl⟩, fun w' h => ?_⟩
         rw [b2, b1, p2] at h
         exact Cl.sub (by assumption) (by repeat (first | exact List.Sublist.slnil | exact List.Sublist.refl _ | apply List.Sublist.cons_cons | exact List.sublist_append_left _ _ | exact List.sublist_append_right _ _ | apply List.Sublist.cons)))
  | false =>
    have hk := gRows_keep (n := n) hP (by rw [hs]; exact hP)
    rw [← hk]
    repeat' (first | apply pwp_seq | apply pwp_region | (apply px_run; (first | (apply opv_move; first | exact hid_int rfl | exact hid_bool rfl) | (apply opv_assign; first | exact hid_bool rfl) | (apply opv_pick_f <;> rfl) | (apply opv_not <;> rfl) | (apply opv_shl; rfl; rfl; omega) | (apply opv_field fld_G1; rfl) | (apply opv_load_blk 0; (first | with_reducible exact sc_int | with_reducible exact sc_ints); rfl; rfl; rfl) | (apply opv_load_ints sc_int; rfl; (first | exact rd_row 1 rfl); (first | omega)) | (apply opv_index_nat (vs := ints _) el_int; rfl; rfl; (first | exact rd_row 1 rfl); (first | (simp only [ints_length]; omega))) | (apply opv_load_str 0 st_G; rfl; rfl; rfl) | (apply opv_load_str 1 st_G; rfl; rfl; rfl) | (apply opv_load_str 3 st_G; rfl; rfl; rfl) | (apply opv_call; rfl; rfl; exact Cl.stable _ _ _; exact fun w hw => s_l2Pair_c _ _ _ _ _ _ (by first | exact hw.arr (by assumption)) hg (by omega) (by omega) hvu') | (apply opv_call; rfl; rfl; exact Cl.stable _ _ _; exact fun w hw => s_l2Edge_c _ _ (gRows n P) _ _ _ (by first | exact hw.arr (by assumption)) (by omega) (by omega)) | (apply opv_sub <;> rfl)); rfl; rfl) | apply px_nil | apply qseq_normal | apply qseq_ret | apply pwp_skip | apply pwp_ret | (apply pwp_region_mix; kernel_rfl; decide +kernel; exact Cl.stable _ _ _) | (apply pwp_cond_not; rfl; all_goals (intro hc; try (first | fail))) | (apply px_box; rfl; rfl; rfl; rfl; intro bk) | (apply px_alloc st_G; rfl; rfl; rfl; intro bk) | (apply px_store_str 0 st_G; rfl; rfl; rfl; rfl; rfl; (intro w hw; (first | refine all2 rfl ?_ ?_) <;> (first | rfl | exact stor_row 1 hw rfl)); rfl) | (apply px_store_str 2 st_G; rfl; rfl; rfl; rfl; rfl; (intro w hw; (first | refine all2 rfl ?_ ?_) <;> (first | rfl | exact stor_row 1 hw rfl)); rfl) | (apply px_gives; rfl; rfl; rfl; rfl; rfl; exact fun w hw => s_l2Copy_c _ _ (gRows n P) _ (by first | exact hw.arr (by assumption)) (by omega); rintro _ _ ⟨sc, rfl, rfl⟩))
    all_goals first
      | (refine qbody_cell_tmp 2 rfl st_G rfl rfl rfl rfl ⟨_, ⟨sc, rfl, rfl⟩, fun w' h => ?_⟩
         exact Cl.sub (by assumption) (by repeat (first | exact List.Sublist.slnil | exact List.Sublist.refl _ | apply List.Sublist.cons_cons | exact List.sublist_append_left _ _ | exact List.sublist_append_right _ _ | apply List.Sublist.cons)))
      | (exfalso; rw [show hasB ((gRows n P).getD (Int.toNat (v : Int)) 0) (u : Int) = P v u from hhas, hP] at hc; cases hc; done)
end Go.Proofs.YtcicdnpmlcjcmaaGreat
/- Texts: digits, a cograph's tree as text. -/
namespace Go.Pw
open Go Go.RowKit
def digI (x : Int) : ByteArray := ⟨#[UInt8.ofNat (48 + x).toNat]⟩
def digsB (l : List Int) : ByteArray := l.foldl (fun a x => a ++ digI x) ByteArray.empty
theorem digI_size (x : Int) : (digI x).size = 1 := rfl
theorem digsB_snoc (l : List Int) (x : Int) : digsB (l ++ [x]) = digsB l ++ digI x := by simp [digsB]
theorem size_cat (a b : ByteArray) : (a ++ b).size = a.size + b.size := ByteArray.size_append
theorem digsB_size (l : List Int) : (digsB l).size = l.length := by
  unfold digsB
  suffices h : ∀ (l : List Int) (a : ByteArray), (l.foldl (fun a x => a ++ digI x) a).size = a.size + l.length by
    have := h l ByteArray.empty
    simpa using this
  intro l
  induction l with
  | nil => intro a; rfl
  | cons x l ih => intro a; rw [List.foldl_cons, ih, size_cat, digI_size, List.length_cons]; omega
theorem digsB_take {l : List Int} {i : Nat} (h : i < l.length) : digsB (l.take (i + 1)) = digsB (l.take i) ++ digI (l.getD i 0) := by
  rw [← digsB_snoc]; congr 1
  rw [List.take_add_one, List.getElem?_eq_getElem h]; simp [List.getD, h]
theorem toList_len (a : ByteArray) : a.toList.length = a.size := by rw [ByteArray.toList_eq]; rfl
def fmtS (set : Int) : ByteArray := if set = 0 then ⟨#[45]⟩ else digsB (listS set)
theorem listS_b6 (s : Int) : ∀ x ∈ listS s, 0 ≤ x ∧ x ≤ 6 := fun x hx => by
  obtain ⟨_, v, rfl, hv, _⟩ := mem_listS.1 hx
  omega
theorem listS_nil (s : Int) : listS s = [] ↔ s = 0 ∨ ¬ (0 ≤ s ∧ s ≤ 127) := by
  by_cases h : 0 ≤ s ∧ s ≤ 127
  · obtain ⟨k, rfl⟩ : ∃ k : Nat, s = (k : Int) := ⟨s.toNat, by omega⟩
    have key : ∀ k : Nat, k < 128 → (listS (k : Int) = [] ↔ k = 0) := by decide +kernel
    have := key k (by omega)
    rw [this]; omega
  · have : listS s = [] := if_neg h
    simp [this, h]
def lparB : ByteArray := ⟨#[40, 43]⟩
def lmulB : ByteArray := ⟨#[40, 42]⟩
def rparB : ByteArray := ⟨#[41]⟩
def spB : ByteArray := ⟨#[32]⟩
def foldT (f : Nat → ByteArray) (L : List Nat) (a : ByteArray) : ByteArray := L.foldl (fun acc p => (acc ++ spB) ++ f p) a
theorem foldT_take {f : Nat → ByteArray} {L : List Nat} {i : Nat} (h : i < L.length) (a : ByteArray) : foldT f (L.take (i + 1)) a = (foldT f (L.take i) a ++ spB) ++ f (L.getD i 0) := by
  unfold foldT
  rw [List.take_add_one, List.getElem?_eq_getElem h, List.foldl_append]
  simp [List.getD, h]
theorem foldT_size {f : Nat → ByteArray} {B : Nat} (h : ∀ p, (f p).size ≤ B) : ∀ (L : List Nat) (a : ByteArray), (foldT f L a).size ≤ a.size + L.length * (1 + B) := by
  intro L
  induction L with
  | nil => intro a; unfold foldT; simp
  | cons p L ih =>
    intro a
    have h1 := ih ((a ++ spB) ++ f p)
    have h2 := h p
    rw [size_cat, size_cat] at h1
    have h3 : spB.size = 1 := rfl
    have h4 : (p :: L).length * (1 + B) = L.length * (1 + B) + (1 + B) := by rw [List.length_cons, Nat.succ_mul]
    have h5 : foldT f (p :: L) a = foldT f L ((a ++ spB) ++ f p) := rfl
    rw [h5, h4]; omega
def cotT (r s : Nat → Nat) (n : Nat) : Nat → Nat → ByteArray
  | 0, _ => ByteArray.empty
  | c + 1, set => if cntN set = 1 then digsB (listS (set : Int)) else
      if (partsN r n set 128 set).length = 1 then foldT (cotT r s n c) (partsN s n set 128 set) lmulB ++ rparB
      else foldT (cotT r s n c) (partsN r n set 128 set) lparB ++ rparB
theorem cotT_size (r s : Nat → Nat) (n : Nat) : ∀ c set, (cotT r s n c set).size ≤ 259 ^ c := by
  intro c
  induction c with
  | zero => intro set; show ByteArray.empty.size ≤ 259 ^ 0; decide
  | succ c ih =>
    intro set
    have hp : 1 ≤ 259 ^ c := Nat.pow_pos (by omega)
    have hs : 259 ^ (c + 1) = 259 ^ c * 259 := Nat.pow_succ _ _
    unfold cotT
    split
    · have := digsB_size (listS (set : Int)); have := listS_length (set : Int); omega
    · split
      · have h1 := foldT_size ih (partsN s n set 128 set) lmulB
        have h2 := partsN_length s n set 128 set
        have h3 : (partsN s n set 128 set).length * (1 + 259 ^ c) ≤ 128 * (1 + 259 ^ c) := Nat.mul_le_mul_right _ h2
        have h4 : lmulB.size = 2 := rfl
        have h5 : rparB.size = 1 := rfl
        rw [size_cat]; omega
      · have h1 := foldT_size ih (partsN r n set 128 set) lparB
        have h2 := partsN_length r n set 128 set
        have h3 : (partsN r n set 128 set).length * (1 + 259 ^ c) ≤ 128 * (1 + 259 ^ c) := Nat.mul_le_mul_right _ h2
        have h4 : lparB.size = 2 := rfl
        have h5 : rparB.size = 1 := rfl
        rw [size_cat]; omega
theorem pow259 {c : Nat} (h : c ≤ 6) : 259 ^ c ≤ 400000000000000 := Nat.le_trans (Nat.pow_le_pow_right (by omega) h) (by decide)
theorem one_bit : ∀ S, S < 128 → S ≠ 0 → (S &&& (S - 1) = 0 ↔ cntN S = 1) := by decide +kernel
def cotX (size : Int) (rows : List Int) : ByteArray := if IsG size rows ∧ pathX size rows 4 = none then cotT (rowN rows) (rowN (barL size rows)) size.toNat 7 (2 ^ size.toNat - 1) else ByteArray.empty
end Go.Pw
/- The readers of a cograph's tree, as functions: the program's. -/
namespace Go.Pw
open Go Go.RowKit
def byteAt (s : ByteArray) (i : Nat) : Nat := (s.data.toList.getD i 0).toNat
theorem byteAt_lt (s : ByteArray) (i : Nat) : byteAt s i < 256 := UInt8.toNat_lt _
theorem byteAt_get {s : ByteArray} {i : Nat} (h : i < s.size) : s[i]? = some (s.data.toList.getD i 0) := by
  have h1 : i < s.data.toList.length := h
  have h2 : s[i]? = some (s[i]'h) := by simp [h]
  rw [h2]
  congr 1
  have h3 : i < s.data.size := h
  simp only [List.getD, ByteArray.getElem_eq_getElem_data, Array.getElem?_toList]
  rw [Array.getElem?_eq_getElem h3]; rfl
abbrev RSt := Nat × (Nat → Nat) × Bool
def cellsR (s : ByteArray) (st : RSt) : List Value := [.string s, .int .i64 (st.1 : Int), .int .i64 (st.2.1 0 : Nat), .int .i64 (st.2.1 1 : Nat), .int .i64 (st.2.1 2 : Nat), .int .i64 (st.2.1 3 : Nat), .int .i64 (st.2.1 4 : Nat), .int .i64 (st.2.1 5 : Nat), .int .i64 (st.2.1 6 : Nat), .bool st.2.2]
theorem cellsR_row {s : ByteArray} {st : RSt} {v : Nat} (h : v < 7) : (cellsR s st)[2 + v]? = some (.int .i64 (st.2.1 v : Nat)) := by
  have : v = 0 ∨ v = 1 ∨ v = 2 ∨ v = 3 ∨ v = 4 ∨ v = 5 ∨ v = 6 := by omega
  rcases this with rfl | rfl | rfl | rfl | rfl | rfl | rfl <;> rfl
def updR (r : Nat → Nat) (v x : Nat) : Nat → Nat := fun j => if j = v then x else r j
theorem cellsR_set {s : ByteArray} {a : Nat} {r : Nat → Nat} {b : Bool} {v x : Nat} (h : v < 7) : (cellsR s (a, r, b)).set (2 + v) (.int .i64 (x : Nat)) = cellsR s (a, updR r v x, b) := by
  have : v = 0 ∨ v = 1 ∨ v = 2 ∨ v = 3 ∨ v = 4 ∨ v = 5 ∨ v = 6 := by omega
  rcases this with rfl | rfl | rfl | rfl | rfl | rfl | rfl <;> rfl
theorem cellsR_or1 {s : ByteArray} {a : Nat} {r : Nat → Nat} {b : Bool} {v x : Nat} (h : v < 7) (hr : ∀ v, r v < 128) (hx : x < 128) : (cellsR s (a, r, b)).set (2 + v) (.int .i64 (ior (r v : Nat) (x : Nat))) = cellsR s (a, updR r v (r v ||| x), b) := by
  have := hr v
  rw [ior_nat (by omega) (by omega)]; exact cellsR_set h
theorem or_lt128 {a b : Nat} (ha : a < 128) (hb : b < 128) : a ||| b < 128 := Nat.or_lt_two_pow (n := 7) ha hb
theorem cellsR_or2 {s : ByteArray} {a : Nat} {r : Nat → Nat} {b : Bool} {v x y : Nat} (h : v < 7) (hr : ∀ v, r v < 128) (hx : x < 128) (hy : y < 128) : ((cellsR s (a, r, b)).set (2 + v) (.int .i64 (ior (r v : Nat) (x : Nat)))).set (2 + v) (.int .i64 (ior (ior (r v : Nat) (x : Nat)) (y : Nat))) = cellsR s (a, updR r v (r v ||| x ||| y), b) := by
  have h1 := hr v
  have h2 := or_lt128 h1 hx
  rw [ior_nat (by omega) (by omega), ior_nat (by omega) (by omega), List.set_set]; exact cellsR_set h
def nextI (s : ByteArray) (st : RSt) : Nat × RSt := if st.1 = s.size then (0, (st.1, st.2.1, true)) else (byteAt s st.1, (st.1 + 1, st.2.1, st.2.2))
theorem nextI_end {s : ByteArray} {st : RSt} (h : st.1 = s.size) : nextI s st = (0, (st.1, st.2.1, true)) := if_pos h
theorem nextI_in {s : ByteArray} {st : RSt} (h : st.1 ≠ s.size) : nextI s st = (byteAt s st.1, (st.1 + 1, st.2.1, st.2.2)) := if_neg h
theorem nextI_pos (s : ByteArray) (st : RSt) (h : (nextI s st).1 ≠ 0) : st.1 ≠ s.size ∧ (nextI s st).2.1 = st.1 + 1 := by
  by_cases he : st.1 = s.size
  · rw [nextI_end he] at h; exact absurd rfl h
  · rw [nextI_in he]; exact ⟨he, rfl⟩
def joinK (sign out part : Nat) (r : Nat → Nat) (k : Nat) : Nat → Nat := fun v => if v < k ∧ sign = 42 then r v ||| (if part.testBit v then out else 0) ||| (if out.testBit v then part else 0) else r v
theorem joinK_zero (sign out part : Nat) (r : Nat → Nat) : joinK sign out part r 0 = r := by
  funext v; unfold joinK; rw [if_neg (by omega)]
theorem joinK_no {sign : Nat} (h : sign ≠ 42) (out part : Nat) (r : Nat → Nat) (k : Nat) : joinK sign out part r k = r := by
  funext v; unfold joinK; rw [if_neg (fun hh => h hh.2)]
theorem joinK_succ (out part : Nat) (r : Nat → Nat) (k : Nat) : joinK 42 out part r (k + 1) = updR (joinK 42 out part r k) k (r k ||| (if part.testBit k then out else 0) ||| (if out.testBit k then part else 0)) := by
  funext v
  unfold updR joinK
  by_cases h : v = k
  · subst h
    have c1 : v < v + 1 ∧ 42 = 42 := ⟨by omega, rfl⟩
    rw [if_pos c1, if_pos rfl]
  · have c3 : ¬ v = k := h
    rw [if_neg c3]
    by_cases h2 : v < k
    · have c1 : v < k + 1 ∧ 42 = 42 := ⟨by omega, rfl⟩
      have c2 : v < k ∧ 42 = 42 := ⟨h2, rfl⟩
      rw [if_pos c1, if_pos c2]
    · have c1 : ¬ (v < k + 1 ∧ 42 = 42) := fun hh => by omega
      have c2 : ¬ (v < k ∧ 42 = 42) := fun hh => h2 hh.1
      rw [if_neg c1, if_neg c2]
theorem joinK_at (sign out part : Nat) (r : Nat → Nat) (k : Nat) : joinK sign out part r k k = r k := by
  unfold joinK; rw [if_neg (by omega)]
theorem updR_self (r : Nat → Nat) (k : Nat) : updR r k (r k) = r := by
  funext v; unfold updR; split
  · rename_i h; rw [h]
  · rfl
def loopI (s : ByteArray) (g : RSt → Nat × RSt) (sign : Nat) : Nat → RSt → Nat → Nat × RSt
  | 0, st, out => (out, st)
  | k + 1, st, out => if st.2.2 = true then (out, st) else
      if (nextI s st).1 = 32 then loopI s g sign k ((g (nextI s st).2).2.1, joinK sign out (g (nextI s st).2).1 (g (nextI s st).2).2.2.1 7, (g (nextI s st).2).2.2.2) (out ||| (g (nextI s st).2).1)
      else (out, (nextI s st).2)
def setI (s : ByteArray) : Nat → RSt → Nat × RSt
  | 0, st => (0, st)
  | f + 1, st => if (nextI s st).1 = 40 then loopI s (setI s f) (nextI s (nextI s st).2).1 (s.size + 1) (nextI s (nextI s st).2).2 0
      else if (nextI s st).2.2.2 = true ∨ ¬ (48 ≤ (nextI s st).1 ∧ (nextI s st).1 ≤ 54) then (0, ((nextI s st).2.1, (nextI s st).2.2.1, true)) else (2 ^ ((nextI s st).1 - 48), (nextI s st).2)
def BdR (st : RSt) : Prop := ∀ v, st.2.1 v < 128
theorem nextI_ok {s : ByteArray} {st : RSt} (h : st.1 ≤ s.size) (hb : BdR st) : st.1 ≤ (nextI s st).2.1 ∧ (nextI s st).2.1 ≤ s.size ∧ BdR (nextI s st).2 ∧ (nextI s st).1 < 256 := by
  by_cases he : st.1 = s.size
  · rw [nextI_end he]; exact ⟨Nat.le_refl _, h, hb, by show 0 < 256; omega⟩
  · rw [nextI_in he]; exact ⟨by dsimp only; omega, by dsimp only; omega, hb, byteAt_lt _ _⟩
theorem joinK_lt {sign out part : Nat} {r : Nat → Nat} {k : Nat} (ho : out < 128) (hp : part < 128) (hr : ∀ v, r v < 128) : ∀ v, joinK sign out part r k v < 128 := fun v => by
  unfold joinK
  split
  · refine or_lt128 (or_lt128 (hr v) ?_) ?_
    · split <;> omega
    · split <;> omega
  · exact hr v
def OkG (s : ByteArray) (g : RSt → Nat × RSt) : Prop := ∀ st, st.1 ≤ s.size → BdR st → st.1 ≤ (g st).2.1 ∧ (g st).2.1 ≤ s.size ∧ BdR (g st).2 ∧ (g st).1 < 128
theorem loopI_ok {s : ByteArray} {g : RSt → Nat × RSt} (hg : OkG s g) (sign : Nat) : ∀ k st out, st.1 ≤ s.size → BdR st → out < 128 → st.1 ≤ (loopI s g sign k st out).2.1 ∧ (loopI s g sign k st out).2.1 ≤ s.size ∧ BdR (loopI s g sign k st out).2 ∧ (loopI s g sign k st out).1 < 128 := by
  intro k
  induction k with
  | zero => intro st out h1 h2 h3; exact ⟨Nat.le_refl _, h1, h2, h3⟩
  | succ k ih =>
    intro st out h1 h2 h3
    unfold loopI
    split
    · exact ⟨Nat.le_refl _, h1, h2, h3⟩
    · obtain ⟨n1, n2, n3, n4⟩ := nextI_ok h1 h2
      split
      · obtain ⟨g1, g2, g3, g4⟩ := hg _ n2 n3
        obtain ⟨i1, i2, i3, i4⟩ := ih ((g (nextI s st).2).2.1, joinK sign out (g (nextI s st).2).1 (g (nextI s st).2).2.2.1 7, (g (nextI s st).2).2.2.2) (out ||| (g (nextI s st).2).1) g2 (joinK_lt h3 g4 g3) (or_lt128 h3 g4)
        exact ⟨by dsimp only at i1; omega, i2, i3, i4⟩
      · exact ⟨n1, n2, n3, h3⟩
theorem setI_ok (s : ByteArray) : ∀ f, OkG s (setI s f) := by
  intro f
  induction f with
  | zero => intro st h1 h2; exact ⟨Nat.le_refl _, h1, h2, by show 0 < 128; omega⟩
  | succ f ih =>
    intro st h1 h2
    obtain ⟨n1, n2, n3, n4⟩ := nextI_ok h1 h2
    unfold setI
    split
    · obtain ⟨m1, m2, m3, m4⟩ := nextI_ok n2 n3
      obtain ⟨i1, i2, i3, i4⟩ := loopI_ok ih (nextI s (nextI s st).2).1 (s.size + 1) (nextI s (nextI s st).2).2 0 m2 m3 (by omega)
      exact ⟨by omega, i2, i3, i4⟩
    · split
      · exact ⟨n1, n2, n3, by show 0 < 128; omega⟩
      · rename_i hh
        refine ⟨n1, n2, n3, ?_⟩
        have : (nextI s st).1 - 48 ≤ 6 := by omega
        exact Nat.lt_of_le_of_lt (Nat.pow_le_pow_right (by omega) this) (by decide)
def rowsI (n : Nat) (r : Nat → Nat) : List Int := (List.range n).map fun v => (r v : Int)
theorem rowsI_length (n : Nat) (r : Nat → Nat) : (rowsI n r).length = n := by simp [rowsI]
theorem toList_beq (a b : ByteArray) : (a.toList == b.toList) = decide (a = b) := by
  rw [ByteArray.toList_eq, ByteArray.toList_eq]
  by_cases h : a = b
  · subst h; simp
  · rw [decide_eq_false h, beq_eq_false_iff_ne]
    exact fun hh => h (Go.WideShapes.bytes_inj hh)
def cogb (size : Int) (rows : List Int) : Bool := decide (IsG size rows ∧ pathX size rows 4 = none)
def gocA (s : ByteArray) : Nat × RSt := setI s 101 (0, fun _ => 0, false)
def gocN (s : ByteArray) : Nat := cntN (gocA s).1
def gocR (s : ByteArray) : List Int := rowsI (gocN s) (gocA s).2.2.1
def gocB (s : ByteArray) : Bool := decide (s.size ≤ 100) && (!(gocA s).2.2.2 && (cogb (gocN s) (gocR s) && decide (cotX (gocN s) (gocR s) = s)))
def gocZ (s : ByteArray) : Int := if gocB s = true then gocN s else 0
def gocL (s : ByteArray) : List Int := if gocB s = true then gocR s else []
theorem gocA_ok (s : ByteArray) : (gocA s).2.1 ≤ s.size ∧ BdR (gocA s).2 ∧ (gocA s).1 < 128 := by
  obtain ⟨_, h1, h2, h3⟩ := setI_ok s 101 (0, fun _ => 0, false) (Nat.zero_le _) (fun v => by show 0 < 128; omega)
  exact ⟨h1, h2, h3⟩
end Go.Pw
/- The readers of a cograph's tree, as functions: the reference's. -/
namespace Go.Pw
open Go Go.RowKit
abbrev Rel := Nat → Nat → Bool
def SymP (P : Rel) : Prop := ∀ x y, P x y = P y x
def IrrP (P : Rel) : Prop := ∀ x, P x x = false
def crS (set part x y : Nat) : Bool := set.testBit x && part.testBit y
def joinW (sign set part : Nat) (P : Rel) : Rel := fun x y => P x y || (decide (sign = 42) && (crS set part x y || crS set part y x))
theorem joinW_no {sign : Nat} (h : sign ≠ 42) (set part : Nat) (P : Rel) : joinW sign set part P = P := by
  funext x y; unfold joinW; rw [decide_eq_false h]; simp
def loopS (s : ByteArray) (g : Nat → Rel → Option (Rel × Nat × Nat)) (sign : Nat) : Nat → Nat → Rel → Nat → Option (Rel × Nat × Nat)
  | 0, _, _, _ => none
  | k + 1, i, P, set => if i < s.size ∧ byteAt s i = 32 then
      match g (i + 1) P with
      | none => none
      | some (P', part, next) => if part &&& set = 0 then loopS s g sign k next (joinW sign set part P') (set ||| part) else none
      else if i < s.size ∧ byteAt s i = 41 then some (P, set, i + 1) else none
def rdS (s : ByteArray) : Nat → Nat → Rel → Option (Rel × Nat × Nat)
  | 0, _, _ => none
  | f + 1, i, P => if s.size ≤ i then none
      else if 48 ≤ byteAt s i ∧ byteAt s i ≤ 54 then some (P, 2 ^ (byteAt s i - 48), i + 1)
      else if byteAt s i = 40 ∧ i + 1 < s.size ∧ (byteAt s (i + 1) = 43 ∨ byteAt s (i + 1) = 42) then loopS s (rdS s f) (byteAt s (i + 1)) (s.size + 1) (i + 2) P 0
      else none
theorem and_bit {a b : Nat} (h : a &&& b = 0) (x : Nat) : (a.testBit x && b.testBit x) = false := by
  have := congrArg (fun z => z.testBit x) h
  simpa [Nat.testBit_and] using this
theorem joinW_sym {sign set part : Nat} {P : Rel} (h : SymP P) : SymP (joinW sign set part P) := fun x y => by
  unfold joinW; rw [h x y, Bool.or_comm (crS set part x y)]
theorem joinW_irr {sign set part : Nat} {P : Rel} (h : IrrP P) (hd : part &&& set = 0) : IrrP (joinW sign set part P) := fun x => by
  have := and_bit hd x
  unfold joinW crS
  rw [h x, Bool.and_comm (set.testBit x), this]; simp
def OkR (s : ByteArray) (g : Nat → Rel → Option (Rel × Nat × Nat)) : Prop := ∀ i P r, SymP P → IrrP P → g i P = some r → SymP r.1 ∧ IrrP r.1 ∧ r.2.1 < 128 ∧ i < r.2.2 ∧ r.2.2 ≤ s.size
theorem loopS_ok {s : ByteArray} {g : Nat → Rel → Option (Rel × Nat × Nat)} (hg : OkR s g) (sign : Nat) : ∀ k i P set r, SymP P → IrrP P → set < 128 → loopS s g sign k i P set = some r → SymP r.1 ∧ IrrP r.1 ∧ r.2.1 < 128 ∧ i < r.2.2 ∧ r.2.2 ≤ s.size := by
  intro k
  induction k with
  | zero => intro i P set r _ _ _ h; cases h
  | succ k ih =>
    intro i P set r h1 h2 h3 h
    unfold loopS at h
    split at h
    · split at h
      · cases h
      · rename_i P' part next he
        obtain ⟨g1, g2, g3, g4, g5⟩ := hg _ _ _ h1 h2 he
        dsimp only at g1 g2 g3 g4 g5
        split at h
        · rename_i hd
          obtain ⟨a1, a2, a3, a4, a5⟩ := ih next _ _ r (joinW_sym g1) (joinW_irr g2 hd) (or_lt128 h3 g3) h
          exact ⟨a1, a2, a3, by omega, a5⟩
        · cases h
    · split at h
      · rename_i hc
        obtain rfl := Option.some.inj h
        exact ⟨h1, h2, h3, by dsimp only; omega, by dsimp only; omega⟩
      · cases h
theorem rdS_ok (s : ByteArray) : ∀ f, OkR s (rdS s f) := by
  intro f
  induction f with
  | zero => intro i P r _ _ h; cases h
  | succ f ih =>
    intro i P r h1 h2 h
    unfold rdS at h
    split at h
    · cases h
    · split at h
      · rename_i hl hd
        obtain rfl := Option.some.inj h
        refine ⟨h1, h2, ?_, by dsimp only; omega, by dsimp only; omega⟩
        exact Nat.lt_of_le_of_lt (Nat.pow_le_pow_right (by omega) (show byteAt s i - 48 ≤ 6 by omega)) (by decide)
      · split at h
        · obtain ⟨a1, a2, a3, a4, a5⟩ := loopS_ok ih _ _ _ _ _ r h1 h2 (by omega) h
          exact ⟨a1, a2, a3, by omega, a5⟩
        · cases h
def befP (v w x y : Nat) : Bool := decide (x < v ∨ x = v ∧ y < w)
def prP (set part : Nat) (P : Rel) (v w : Nat) : Rel := fun x y => P x y || ((crS set part x y && befP v w x y) || (crS set part y x && befP v w y x))
theorem prP_sym {set part : Nat} {P : Rel} (h : SymP P) (v w : Nat) : SymP (prP set part P v w) := fun x y => by
  unfold prP; rw [h x y, Bool.or_comm (crS set part x y && befP v w x y)]
theorem prP_irr {set part : Nat} {P : Rel} (h : IrrP P) (hd : part &&& set = 0) (v w : Nat) : IrrP (prP set part P v w) := fun x => by
  have := and_bit hd x
  unfold prP crS
  rw [h x, Bool.and_comm (set.testBit x), this]; simp
theorem prP_zero (set part : Nat) (P : Rel) : prP set part P 0 0 = P := by
  funext x y; simp [prP, befP]
theorem befP_succ (v u x y : Nat) : befP v (u + 1) x y = (befP v u x y || decide (x = v ∧ y = u)) := by
  unfold befP
  rw [← Bool.decide_or]
  apply decide_eq_decide.2
  omega
theorem prP_add {set part : Nat} {P : Rel} {v u : Nat} (h : crS set part v u = true) : pairAdd (prP set part P v u) v u = prP set part P v (u + 1) := by
  funext x y
  unfold pairAdd prP
  rw [befP_succ, befP_succ]
  by_cases h1 : x = v ∧ y = u
  · obtain ⟨rfl, rfl⟩ := h1
    rw [h]; simp
  · by_cases h2 : x = u ∧ y = v
    · obtain ⟨rfl, rfl⟩ := h2
      rw [h]; simp
    · have h3 : ¬ (y = v ∧ x = u) := fun hh => h2 ⟨hh.2, hh.1⟩
      simp [h1, h2, h3]
theorem prP_skip {set part : Nat} {P : Rel} {v u : Nat} (h : crS set part v u = false) : prP set part P v (u + 1) = prP set part P v u := by
  funext x y
  unfold prP
  rw [befP_succ, befP_succ]
  by_cases h1 : x = v ∧ y = u
  · obtain ⟨rfl, rfl⟩ := h1
    rw [h]
    by_cases h2 : y = x
    · subst h2; rw [h]; simp
    · simp [h2]
  · by_cases h2 : y = v ∧ x = u
    · obtain ⟨rfl, rfl⟩ := h2
      rw [h]; simp [h1]
    · simp [h1, h2]
theorem prP_row {set part : Nat} {P : Rel} {v n : Nat} {x y : Nat} (hx : x < n) (hy : y < n) : prP set part P v n x y = prP set part P (v + 1) 0 x y := by
  have b : ∀ a b, b < n → befP v n a b = befP (v + 1) 0 a b := fun a b hb => by
    unfold befP; apply decide_eq_decide.2; omega
  unfold prP
  rw [b x y hy, b y x hx]
theorem prP_all {set part : Nat} {P : Rel} {n : Nat} {x y : Nat} (hx : x < n) (hy : y < n) : prP set part P n 0 x y = joinW 42 set part P x y := by
  have b : ∀ a b, a < n → befP n 0 a b = true := fun a b ha => by unfold befP; exact decide_eq_true (.inl ha)
  unfold prP joinW
  rw [b x y hx, b y x hy]; simp
end Go.Pw
/- AddEdge, whether the edge is there or not. -/
namespace Go.Proofs.YtcicdnpmlcjcmaaGreat
open Go Go.RowKit Go.Pw
set_option maxHeartbeats 1000000 in
theorem s_AddEdge2_c (n : Nat) (gv : Value) (P : Nat → Nat → Bool) (v u : Nat) (w : World) (hr : Arr w gv (ints (gRows n P))) (h1 : 1 ≤ n) (hn : n ≤ 7) (hs : SymP P) (hi : IrrP P)
    (hv : v < n) (hu : u < n) (hvu : v ≠ u) :
    Gives Tryz.prog 63 #[.agg #[.int .i64 n, gv], .int .i64 v, .int .i64 u] w (fun x objs => ∃ sv' bb, x = .tuple #[.agg #[.int .i64 n, sv'], .bool bb] ∧ objs = [.row 3 sv' (ints (gRows n (pairAdd P v u)))]) := by
  by_cases hP : P v u = false
  · have := s_AddEdge_c n gv P v u w hr h1 hn hs hi hv hu hvu hP
    exact ⟨this.entry, this.out.mono fun e w' ⟨x, objs, he, ⟨sv', hx, ho⟩, hc⟩ => ⟨x, objs, he, ⟨sv', true, hx, ho⟩, hc⟩⟩
  have hP' : P v u = true := by simpa using hP
  have hg := gRows_isG h1 hn hs hi
  have hlen : (gRows n P).length = n := gRows_length n P
  have hhas := gRows_has hn P hv hu
  have hvu' : (v : Int) ≠ u := by omega
  have he : gRows n (pairAdd P v u) = gRows n P := gRows_congr fun i j _ _ => by
    unfold pairAdd
    by_cases h3 : i = v ∧ j = u
    · obtain ⟨rfl, rfl⟩ := h3; rw [hP']; rfl
    · by_cases h4 : i = u ∧ j = v
      · obtain ⟨rfl, rfl⟩ := h4; rw [hs, hP']; rfl
      · simp [h3, h4]
  rw [he]
  have kE : ∀ sv w', Arr w' sv (ints (gRows n P)) → Pure Tryz.prog 55 #[.agg #[.int .i64 n, sv], .int .i64 v, .int .i64 u] w' (.bool true) := fun sv w' h => by
    have := s_l2Edge_c n sv (gRows n P) v u w' h (by omega) (by omega)
    rw [show hasB ((gRows n P).getD (Int.toNat (v : Int)) 0) (u : Int) = P v u from hhas, hP'] at this; exact this
  refine gives_enter (args := [_, _, _]) en_s_AddEdge Tryz.func63 rfl Tryz.ntmps63 rfl ?_
  repeat' (first | apply pwp_seq | apply pwp_region | (apply px_run; (first | (apply opv_move; first | exact hid_int rfl | exact hid_bool rfl) | (apply opv_assign; first | exact hid_bool rfl) | (apply opv_pick_f <;> rfl) | (apply opv_not <;> rfl) | (apply opv_load_str 0 st_G; rfl; rfl; rfl) | (apply opv_load_str 1 st_G; rfl; rfl; rfl) | (apply opv_load_str 3 st_G; rfl; rfl; rfl) | (apply opv_call; rfl; rfl; exact Cl.stable _ _ _; exact fun w hw => s_l2Pair_c _ _ _ _ _ _ (by first | exact hw.arr (by assumption)) hg (by omega) (by omega) hvu') | (apply opv_call; rfl; rfl; exact Cl.stable _ _ _; exact fun w hw => kE _ _ (by first | exact hw.arr (by assumption)))); rfl; rfl) | apply px_nil | apply qseq_normal | apply qseq_ret | apply pwp_ret | (apply pwp_cond_t; rfl) | (apply px_box; rfl; rfl; rfl; rfl; intro bk) | (apply px_alloc st_G; rfl; rfl; rfl; intro bk) | (apply px_store_str 0 st_G; rfl; rfl; rfl; rfl; rfl; (intro w hw; (first | refine all2 rfl ?_ ?_) <;> (first | rfl | exact stor_row 1 hw rfl)); rfl) | (apply px_store_str 2 st_G; rfl; rfl; rfl; rfl; rfl; (intro w hw; (first | refine all2 rfl ?_ ?_) <;> (first | rfl | exact stor_row 1 hw rfl)); rfl) | (apply px_gives; rfl; rfl; rfl; rfl; rfl; exact fun w hw => s_l2Copy_c _ _ (gRows n P) _ (by first | exact hw.arr (by assumption)) (by omega); rintro _ _ ⟨sc, rfl, rfl⟩))
  refine qbody_cell_tmp 2 rfl st_G rfl rfl rfl rfl ⟨_, ⟨sc, false, rfl, rfl⟩, fun w' h => ?_⟩
  exact Cl.sub (by assumption) (by repeat (first | exact List.Sublist.slnil | exact List.Sublist.refl _ | apply List.Sublist.cons_cons | exact List.sublist_append_left _ _ | exact List.sublist_append_right _ _ | apply List.Sublist.cons))
theorem s_AddEdge3_c (n : Nat) (gv : Value) (P : Nat → Nat → Bool) (v u : Nat) (w : World) (hr : Arr w gv (ints (gRows n P))) (h1 : 1 ≤ n) (hn : n ≤ 7) (hs : SymP P) (hi : IrrP P)
    (hv : v < n) (hu : u < n) (hvu : v ≠ u) :
    Gives Tryz.prog 63 #[.agg #[.int .i64 n, gv], .int .i64 v, .int .i64 u] w (fun x objs => ∃ sv' bb, storable sv' = true ∧ x = .tuple #[.agg #[.int .i64 n, sv'], .bool bb] ∧ objs = [.row 3 sv' (ints (gRows n (pairAdd P v u)))]) := by
  have := s_AddEdge2_c n gv P v u w hr h1 hn hs hi hv hu hvu
  refine ⟨this.entry, this.out.mono fun e w' ⟨x, objs, he, ⟨sv', bb, hx, ho⟩, hc⟩ => ⟨x, objs, he, ⟨sv', bb, ?_, hx, ho⟩, hc⟩⟩
  subst ho
  exact stor_arr (arr_of_row (hc.holds _ (List.mem_singleton_self _)))
theorem s_l2PairNo_c (size : Int) (sv : Value) (rows : List Int) (v : Int) (w : World) (hr : Arr w sv (ints rows)) :
    Pure Tryz.prog 94 #[.agg #[.int .i64 size, sv], .int .i64 v, .int .i64 v] w (.bool false) := by
  refine pure_enter (args := [_, _, _]) en_s_l2Pair Tryz.func94 rfl Tryz.ntmps94 rfl ?_
  repeat' (first | apply pwp_seq | apply pwp_region | (apply px_run; (first | (apply opv_move; first | exact hid_int rfl | exact hid_bool rfl) | (apply opv_assign; first | exact hid_bool rfl) | (apply opv_lss <;> rfl) | (apply opv_geq <;> rfl) | (apply opv_neq <;> rfl) | (apply opv_pick_t <;> rfl) | (apply opv_pick_f <;> rfl) | (apply opv_field fld_G0; rfl) | (apply opv_load_blk 0; (first | with_reducible exact sc_int); rfl; rfl; rfl) | (apply opv_load_str 0 st_G; rfl; rfl; rfl) | (apply opv_call; rfl; rfl; exact Cl.stable _ _ _; exact fun w hw => s_IsGraph_c _ _ rows _ (by first | exact hw.arr (by assumption)))); rfl; rfl) | apply px_nil | (apply px_skip; rfl; rfl) | apply qseq_normal | apply pwp_ret | (apply px_guard_dec; rfl; rfl; rfl; all_goals (intro hc; try (first | contradiction))) | (apply px_box; rfl; rfl; rfl; rfl; intro bk))
  all_goals refine qbody_ret1 (v := .bool _) rfl rfl ⟨by first | rfl | (congr 1; simp_all), fun _ h => h.below⟩
theorem s_AddEdge4_c (n : Nat) (gv : Value) (P : Nat → Nat → Bool) (v u : Int) (w : World) (hr : Arr w gv (ints (gRows n P))) (h1 : 1 ≤ n) (hn : n ≤ 7) (hs : SymP P) (hi : IrrP P)
    (hv : 0 ≤ v ∧ v < n) (hu : 0 ≤ u ∧ u < n) :
    Gives Tryz.prog 63 #[.agg #[.int .i64 n, gv], .int .i64 v, .int .i64 u] w (fun x objs => ∃ sv' bb P', (SymP P' ∧ IrrP P') ∧ storable sv' = true ∧ x = .tuple #[.agg #[.int .i64 n, sv'], .bool bb] ∧ objs = [.row 3 sv' (ints (gRows n P'))]) := by
  obtain ⟨a, rfl⟩ : ∃ a : Nat, v = (a : Int) := ⟨v.toNat, by omega⟩
  obtain ⟨b, rfl⟩ : ∃ b : Nat, u = (b : Int) := ⟨u.toNat, by omega⟩
  by_cases hab : a = b
  case neg =>
    have := s_AddEdge3_c n gv P a b w hr h1 hn hs hi (by omega) (by omega) hab
    refine ⟨this.entry, this.out.mono fun e w' ⟨x, objs, he, ⟨sv', bb, h3, hx, ho⟩, hc⟩ => ⟨x, objs, he, ⟨sv', bb, pairAdd P a b, ⟨fun x y => ?_, fun x => ?_⟩, h3, hx, ho⟩, hc⟩⟩
    · unfold pairAdd
      rw [hs x y]
      congr 1
      rw [Bool.or_comm]
      congr 1
      · exact decide_eq_decide.2 ⟨fun h => ⟨h.2, h.1⟩, fun h => ⟨h.2, h.1⟩⟩
      · exact decide_eq_decide.2 ⟨fun h => ⟨h.2, h.1⟩, fun h => ⟨h.2, h.1⟩⟩
    · unfold pairAdd
      rw [hi x, decide_eq_false (fun h => hab (by omega)), decide_eq_false (fun h => hab (by omega))]; rfl
  subst hab
  have hlen : (gRows n P).length = n := gRows_length n P
  have key : Gives Tryz.prog 63 #[.agg #[.int .i64 n, gv], .int .i64 a, .int .i64 a] w (fun x objs => ∃ sv', x = .tuple #[.agg #[.int .i64 n, sv'], .bool false] ∧ objs = [.row 3 sv' (ints (gRows n P))]) := by
    refine gives_enter (args := [_, _, _]) en_s_AddEdge Tryz.func63 rfl Tryz.ntmps63 rfl ?_
    repeat' (first | apply pwp_seq | apply pwp_region | (apply px_run; (first | (apply opv_move; first | exact hid_int rfl | exact hid_bool rfl) | (apply opv_assign; first | exact hid_bool rfl) | (apply opv_pick_t <;> rfl) | (apply opv_not <;> rfl) | (apply opv_load_str 0 st_G; rfl; rfl; rfl) | (apply opv_load_str 1 st_G; rfl; rfl; rfl) | (apply opv_load_str 3 st_G; rfl; rfl; rfl) | (apply opv_call; rfl; rfl; exact Cl.stable _ _ _; exact fun w hw => s_l2PairNo_c _ _ (gRows n P) _ _ (by first | exact hw.arr (by assumption)))); rfl; rfl) | apply px_nil | (apply px_skip; rfl; rfl) | apply qseq_normal | apply qseq_ret | apply pwp_ret | (apply pwp_cond_t; rfl) | (apply px_box; rfl; rfl; rfl; rfl; intro bk) | (apply px_alloc st_G; rfl; rfl; rfl; intro bk) | (apply px_store_str 0 st_G; rfl; rfl; rfl; rfl; rfl; (intro w hw; (first | refine all2 rfl ?_ ?_) <;> (first | rfl | exact stor_row 1 hw rfl)); rfl) | (apply px_store_str 2 st_G; rfl; rfl; rfl; rfl; rfl; (intro w hw; (first | refine all2 rfl ?_ ?_) <;> (first | rfl | exact stor_row 1 hw rfl)); rfl) | (apply px_gives; rfl; rfl; rfl; rfl; rfl; exact fun w hw => s_l2Copy_c _ _ (gRows n P) _ (by first | exact hw.arr (by assumption)) (by omega); rintro _ _ ⟨sc, rfl, rfl⟩))
    refine qbody_cell_tmp 2 rfl st_G rfl rfl rfl rfl ⟨_, ⟨sc, rfl, rfl⟩, fun w' h => ?_⟩
    exact Cl.sub (by assumption) (by repeat (first | exact List.Sublist.slnil | exact List.Sublist.refl _ | apply List.Sublist.cons_cons | exact List.sublist_append_left _ _ | exact List.sublist_append_right _ _ | apply List.Sublist.cons))
  refine ⟨key.entry, key.out.mono fun e w' ⟨x, objs, he, ⟨sv', hx, ho⟩, hc⟩ => ⟨x, objs, he, ⟨sv', false, P, ⟨hs, hi⟩, ?_, hx, ho⟩, hc⟩⟩
  subst ho
  exact stor_arr (arr_of_row (hc.holds _ (List.mem_singleton_self _)))
end Go.Proofs.YtcicdnpmlcjcmaaGreat
/- Draws: graphs. -/
namespace Go.Proofs.YtcicdnpmlcjcmaaGreat
open Go Go.RowKit Go.Pw
/-- A graph of n vertices beside the cursor. -/
def GrP (cv : Value) (l : List Int) (cb : Nat) (n : Nat) (v : Value) (new : List Ob) : Prop := ∃ gv P i h, (SymP P ∧ IrrP P) ∧ storable gv = true ∧ v = .agg #[.int .i64 n, gv] ∧ (0 ≤ i ∧ i ≤ (l.length : Int)) ∧ new = [.row 3 gv (ints (gRows n P)), .blk cb (cells3 cv i h)]
theorem en_s_l2Random : Entry Tryz.prog 103 := ⟨_, Tryz.func103, by kernel_rfl, rfl⟩
set_option maxRecDepth 100000 in
set_option maxHeartbeats 1600000 in
theorem s_l2Random_c (cv : Value) (l : List Int) (cb : Nat) (i h odd : Int) (n : Nat) (w : World) (hcp : CodeP w cv l) (hi : 0 ≤ i ∧ i ≤ (l.length : Int)) (ho : Own w [.blk cb (cells3 cv i h)]) (h1 : 1 ≤ n) (hn : n ≤ 7) :
    GivesU Tryz.prog 103 #[.pointer (some ⟨cb, 0, none⟩), .int .i64 n, .int .i64 odd] w [.blk cb (cells3 cv i h)] (fun v new => GrP cv l cb n v new) := by
  have hap := code_apart hcp ho
  refine givesU_enterX (X := [cb]) (args := [_, _, _]) rfl ho en_s_l2Random Tryz.func103 rfl Tryz.ntmps103 rfl ?_
  have hg0 : gRows n (fun _ _ => false) = List.replicate n 0 := gRows_none (fun _ _ _ _ => rfl)
  have hrep : ints (List.replicate n 0) = List.replicate n (Value.int .i64 0) := by simp [ints]
  repeat' (first | apply pwp_seq | apply pwp_region | (apply px_run; (first | (apply opv_move; first | exact hid_int rfl) | (apply opv_assign; first | exact hid_int rfl) | (apply opv_build2 bl_G; rfl; rfl; (first | exact rd_row 0 rfl))); rfl; rfl) | apply px_nil | apply qseq_normal | apply pwp_block | (apply px_alloc st_G; rfl; rfl; rfl; intro bk) | (apply px_store_str 0 st_G; rfl; rfl; rfl; rfl; rfl; (intro w hw; (first | refine all2 rfl ?_ ?_) <;> (first | rfl | exact stor_row 1 hw rfl)); rfl) | (apply px_make ez_int; rfl; rfl; rfl; rfl; rfl; omega; (simp only [maxLen]; omega); intro sv))
  rename_i b6
  refine pwp_fact (φ := storable sv = true) (fun w' hw => by first | exact stor_row 0 hw rfl | exact stor_row 1 hw rfl | exact stor_row 2 hw rfl | exact stor_row 3 hw rfl) (fun hsv => ?_)
  refine pwp_loop (τ := Nat × Value × Rel × Int × Int) [(8,9), (14,36)] (fun x => [(8, .int .i64 (x.1 : Nat))]) (fun x => Cl [cb] w [.blk bk [.int .i64 n, x.2.1], .row 3 x.2.1 (ints (gRows n x.2.2.1)), .blk b6 [.int .i64 0, .slice none 0 0], .blk cb (cells3 cv x.2.2.2.1 x.2.2.2.2)])
    (fun x => x.1 ≤ n ∧ (SymP x.2.2.1 ∧ IrrP x.2.2.1) ∧ storable x.2.1 = true ∧ (0 ≤ x.2.2.2.1 ∧ x.2.2.2.1 ≤ (l.length : Int))) (fun x => n - x.1) (0, sv, (fun _ _ => false), i, h)
    ⟨rfl, trivial⟩ ⟨Nat.zero_le _, ⟨fun _ _ => rfl, fun _ => rfl⟩, hsv, hi⟩ (fun w' hw => by dsimp only; rw [hg0, hrep]; (have h := hw); exact Cl.ofSel (by assumption) (by repeat (first | exact sel_nil | refine sel_cons 0 rfl ?_ | refine sel_cons 1 rfl ?_ | refine sel_cons 2 rfl ?_ | refine sel_cons 3 rfl ?_ | refine sel_cons 4 rfl ?_ | refine sel_cons 5 rfl ?_ | refine sel_cons 6 rfl ?_ | refine sel_cons 7 rfl ?_ | refine sel_cons 8 rfl ?_ | refine sel_cons 9 rfl ?_ | refine sel_cons 10 rfl ?_ | refine sel_cons 11 rfl ?_ | refine sel_cons 12 rfl ?_ | refine sel_cons 13 rfl ?_))) (fun J x hx => ?_)
  obtain ⟨v, gv, P, i2, h2⟩ := x
  obtain ⟨v1, v2, v3, v4⟩ := hx
  dsimp only at v1 v2 v3 v4 ⊢
  by_cases hvn : v < n
  · repeat' (first | apply pwp_seq | apply pwp_region | (apply px_run; (first | (apply opv_move; first | exact hid_int rfl) | (apply opv_assign; first | exact hid_int rfl) | (apply opv_lss <;> rfl) | (apply opv_add_in; rfl; rfl; omega)); rfl; rfl) | apply px_nil | apply qseq_normal | apply pwp_block | apply pwp_skip | (apply pwp_cond_dec; rfl; all_goals (intro hc; try (first | (exfalso; omega)))))
    refine pwp_loop (τ := Nat × Value × Rel × Int × Int) [(9,9), (21,36)] (fun x => [(9, .int .i64 (x.1 : Nat))]) (fun x => Cl [cb] w [.blk bk [.int .i64 n, x.2.1], .row 3 x.2.1 (ints (gRows n x.2.2.1)), .blk b6 [.int .i64 0, .slice none 0 0], .blk cb (cells3 cv x.2.2.2.1 x.2.2.2.2)])
      (fun x => v < x.1 ∧ x.1 ≤ n ∧ (SymP x.2.2.1 ∧ IrrP x.2.2.1) ∧ storable x.2.1 = true ∧ (0 ≤ x.2.2.2.1 ∧ x.2.2.2.1 ≤ (l.length : Int))) (fun x => n - x.1) (v + 1, gv, P, i2, h2)
      ⟨rfl, trivial⟩ ⟨Nat.lt_succ_self _, hvn, v2, v3, v4⟩ (fun w' hw => (by have h := hw; exact Cl.ofSel (by assumption) (by repeat (first | exact sel_nil | refine sel_cons 0 rfl ?_ | refine sel_cons 1 rfl ?_ | refine sel_cons 2 rfl ?_ | refine sel_cons 3 rfl ?_ | refine sel_cons 4 rfl ?_ | refine sel_cons 5 rfl ?_ | refine sel_cons 6 rfl ?_ | refine sel_cons 7 rfl ?_ | refine sel_cons 8 rfl ?_ | refine sel_cons 9 rfl ?_ | refine sel_cons 10 rfl ?_ | refine sel_cons 11 rfl ?_ | refine sel_cons 12 rfl ?_ | refine sel_cons 13 rfl ?_)))) (fun J2 x hx => ?_)
    obtain ⟨u, gu, P2, i3, h3⟩ := x
    obtain ⟨u0, u1, u2, u3, u4⟩ := hx
    dsimp only at u0 u1 u2 u3 u4 ⊢
    by_cases hun : u < n
    · have kA := fun w' ha => s_AddEdge4_c n gu P2 v u w' ha h1 hn u2.1 u2.2 (by omega) (by omega)
      repeat' (first | apply pwp_seq | apply pwp_region | (apply px_run; (first | (apply opv_move; first | exact hid_int rfl | exact hid_ptr rfl | rfl) | (apply opv_assign; first | exact hid_int rfl) | (apply opv_lss <;> rfl) | (apply opv_add_in; rfl; rfl; omega) | (apply opv_load_str 1 st_G; rfl; rfl; rfl) | (apply opv_extract; rfl; rfl)); rfl; rfl) | apply px_nil | apply qseq_normal | apply pwp_block | apply qblock_normal | apply pwp_skip | (apply pwp_cond_dec; rfl; all_goals (intro hc; try (first | (exfalso; omega)))) | (apply px_givesV [3]; rfl; rfl; rfl; rfl; rfl; (exact fun w' hw ho' => s_l1Below_c cv l cb _ _ _ w' (hcp.at hap hw) (by assumption) ho'); rintro _ _ ⟨x, hx, rfl, ⟨ci, ch, hi, rfl⟩⟩) | (apply px_store_str 2 st_G; rfl; rfl; rfl; rfl; rfl; (intro w hw; (first | refine all2 rfl ?_ ?_) <;> (first | rfl | assumption)); rfl) | (apply px_gives; rfl; rfl; rfl; rfl; rfl; exact fun w hw => kA _ (by first | exact hw.rowArr (k := 2) rfl); rintro _ _ ⟨sc, bb, P3, hP3, hsc, rfl, rfl⟩))
      · refine qround_normal ?_ ⟨(u + 1, sc, P3, _, _), ⟨rfl, trivial⟩, ⟨by dsimp only; omega, by dsimp only; omega, hP3, hsc, by assumption⟩, by dsimp only; omega, fun w' hw => (by have h := hw; exact Cl.ofSel (by assumption) (by repeat (first | exact sel_nil | refine sel_cons 0 rfl ?_ | refine sel_cons 1 rfl ?_ | refine sel_cons 2 rfl ?_ | refine sel_cons 3 rfl ?_ | refine sel_cons 4 rfl ?_ | refine sel_cons 5 rfl ?_ | refine sel_cons 6 rfl ?_ | refine sel_cons 7 rfl ?_ | refine sel_cons 8 rfl ?_ | refine sel_cons 9 rfl ?_ | refine sel_cons 10 rfl ?_ | refine sel_cons 11 rfl ?_ | refine sel_cons 12 rfl ?_ | refine sel_cons 13 rfl ?_)))⟩
        repeat (first | exact same_refl | refine same_upd rfl ?_ | refine same_junk rfl ?_)
      · refine qround_normal ?_ ⟨(u + 1, gu, P2, _, _), ⟨rfl, trivial⟩, ⟨by dsimp only; omega, by dsimp only; omega, u2, u3, by assumption⟩, by dsimp only; omega, fun w' hw => (by have h := hw; exact Cl.ofSel (by assumption) (by repeat (first | exact sel_nil | refine sel_cons 0 rfl ?_ | refine sel_cons 1 rfl ?_ | refine sel_cons 2 rfl ?_ | refine sel_cons 3 rfl ?_ | refine sel_cons 4 rfl ?_ | refine sel_cons 5 rfl ?_ | refine sel_cons 6 rfl ?_ | refine sel_cons 7 rfl ?_ | refine sel_cons 8 rfl ?_ | refine sel_cons 9 rfl ?_ | refine sel_cons 10 rfl ?_ | refine sel_cons 11 rfl ?_ | refine sel_cons 12 rfl ?_ | refine sel_cons 13 rfl ?_)))⟩
        repeat (first | exact same_refl | refine same_upd rfl ?_ | refine same_junk rfl ?_)
    · obtain rfl : u = n := by omega
      repeat' (first | apply pwp_seq | apply pwp_region | (apply px_run; (first | (apply opv_move; first | exact hid_int rfl) | (apply opv_assign; first | exact hid_int rfl) | (apply opv_lss <;> rfl) | (apply opv_add_in; rfl; rfl; omega)); rfl; rfl) | apply px_nil | apply qseq_normal | apply qseq_exit | apply qblock_normal | (apply qblock_exit_same; rfl) | apply pwp_exit | apply qround_exit | (apply pwp_cond_dec; rfl; all_goals (intro hc; try (first | (exfalso; omega)))))
      refine qround_normal ?_ ⟨(v + 1, gu, P2, i3, h3), ⟨rfl, trivial⟩, ⟨by dsimp only; omega, u2, u3, u4⟩, by dsimp only; omega, fun w' hw => (by have h := hw; exact Cl.ofSel (by assumption) (by repeat (first | exact sel_nil | refine sel_cons 0 rfl ?_ | refine sel_cons 1 rfl ?_ | refine sel_cons 2 rfl ?_ | refine sel_cons 3 rfl ?_ | refine sel_cons 4 rfl ?_ | refine sel_cons 5 rfl ?_ | refine sel_cons 6 rfl ?_ | refine sel_cons 7 rfl ?_ | refine sel_cons 8 rfl ?_ | refine sel_cons 9 rfl ?_ | refine sel_cons 10 rfl ?_ | refine sel_cons 11 rfl ?_ | refine sel_cons 12 rfl ?_ | refine sel_cons 13 rfl ?_)))⟩
      repeat (first | exact same_refl | refine same_upd rfl ?_ | refine same_junk rfl ?_)
  · repeat' (first | apply pwp_seq | apply pwp_region | (apply px_run; (first | (apply opv_move; first | exact hid_int rfl) | (apply opv_lss <;> rfl) | (apply opv_load_str 0 st_G; rfl; rfl; rfl)); rfl; rfl) | apply px_nil | apply qseq_normal | apply qseq_exit | (apply qblock_exit_same; rfl) | apply pwp_exit | apply pwp_ret | apply qround_exit | (apply pwp_cond_dec; rfl; all_goals (intro hc; try (first | (exfalso; omega)))) | (apply px_store_str 2 st_G; rfl; rfl; rfl; rfl; rfl; (intro w hw; (first | refine all2 rfl ?_ ?_) <;> (first | rfl | assumption)); rfl))
    first
      | refine qbody_cell 0 rfl st_G rfl rfl rfl ⟨_, ⟨gv, P, i2, h2, v2, v3, rfl, v4, rfl⟩, fun w' hw => (by have h := hw; exact Cl.ofSel (by assumption) (by repeat (first | exact sel_nil | refine sel_cons 0 rfl ?_ | refine sel_cons 1 rfl ?_ | refine sel_cons 2 rfl ?_ | refine sel_cons 3 rfl ?_ | refine sel_cons 4 rfl ?_ | refine sel_cons 5 rfl ?_ | refine sel_cons 6 rfl ?_ | refine sel_cons 7 rfl ?_ | refine sel_cons 8 rfl ?_ | refine sel_cons 9 rfl ?_ | refine sel_cons 10 rfl ?_ | refine sel_cons 11 rfl ?_ | refine sel_cons 12 rfl ?_ | refine sel_cons 13 rfl ?_)))⟩
      | refine qbody_cell 1 rfl st_G rfl rfl rfl ⟨_, ⟨gv, P, i2, h2, v2, v3, rfl, v4, rfl⟩, fun w' hw => (by have h := hw; exact Cl.ofSel (by assumption) (by repeat (first | exact sel_nil | refine sel_cons 0 rfl ?_ | refine sel_cons 1 rfl ?_ | refine sel_cons 2 rfl ?_ | refine sel_cons 3 rfl ?_ | refine sel_cons 4 rfl ?_ | refine sel_cons 5 rfl ?_ | refine sel_cons 6 rfl ?_ | refine sel_cons 7 rfl ?_ | refine sel_cons 8 rfl ?_ | refine sel_cons 9 rfl ?_ | refine sel_cons 10 rfl ?_ | refine sel_cons 11 rfl ?_ | refine sel_cons 12 rfl ?_ | refine sel_cons 13 rfl ?_)))⟩
      | refine qbody_cell 2 rfl st_G rfl rfl rfl ⟨_, ⟨gv, P, i2, h2, v2, v3, rfl, v4, rfl⟩, fun w' hw => (by have h := hw; exact Cl.ofSel (by assumption) (by repeat (first | exact sel_nil | refine sel_cons 0 rfl ?_ | refine sel_cons 1 rfl ?_ | refine sel_cons 2 rfl ?_ | refine sel_cons 3 rfl ?_ | refine sel_cons 4 rfl ?_ | refine sel_cons 5 rfl ?_ | refine sel_cons 6 rfl ?_ | refine sel_cons 7 rfl ?_ | refine sel_cons 8 rfl ?_ | refine sel_cons 9 rfl ?_ | refine sel_cons 10 rfl ?_ | refine sel_cons 11 rfl ?_ | refine sel_cons 12 rfl ?_ | refine sel_cons 13 rfl ?_)))⟩
      | refine qbody_cell 3 rfl st_G rfl rfl rfl ⟨_, ⟨gv, P, i2, h2, v2, v3, rfl, v4, rfl⟩, fun w' hw => (by have h := hw; exact Cl.ofSel (by assumption) (by repeat (first | exact sel_nil | refine sel_cons 0 rfl ?_ | refine sel_cons 1 rfl ?_ | refine sel_cons 2 rfl ?_ | refine sel_cons 3 rfl ?_ | refine sel_cons 4 rfl ?_ | refine sel_cons 5 rfl ?_ | refine sel_cons 6 rfl ?_ | refine sel_cons 7 rfl ?_ | refine sel_cons 8 rfl ?_ | refine sel_cons 9 rfl ?_ | refine sel_cons 10 rfl ?_ | refine sel_cons 11 rfl ?_ | refine sel_cons 12 rfl ?_ | refine sel_cons 13 rfl ?_)))⟩
def names5 : List ByteArray := [⟨#[112, 97, 116, 104]⟩, ⟨#[99, 121, 99, 108, 101]⟩, ⟨#[99, 111, 109, 112, 108, 101, 116, 101]⟩, ⟨#[115, 116, 97, 114]⟩, ⟨#[119, 104, 101, 101, 108]⟩]
theorem en_s_NamedGraph : Entry Tryz.prog 101 := ⟨_, Tryz.func101, by kernel_rfl, rfl⟩
set_option maxRecDepth 100000 in
set_option maxHeartbeats 6400000 in
theorem s_NamedGraph_c (nm : ByteArray) (n : Nat) (w : World) (hnm : nm ∈ names5) (h1 : 1 ≤ n) (hn : n ≤ 7) :
    Gives Tryz.prog 101 #[.string nm, .int .i64 n] w (fun v objs => ∃ gv P bb, (SymP P ∧ IrrP P) ∧ storable gv = true ∧ v = .tuple #[.agg #[.int .i64 n, gv], .bool bb] ∧ objs = [.row 3 gv (ints (gRows n P))]) := by
  refine gives_enter (args := [_, _]) en_s_NamedGraph Tryz.func101 rfl Tryz.ntmps101 rfl ?_
  have hg0 : gRows n (fun _ _ => false) = List.replicate n 0 := gRows_none (fun _ _ _ _ => rfl)
  have hrep : ints (List.replicate n 0) = List.replicate n (Value.int .i64 0) := by simp [ints]
  have h5 : nm = ⟨#[112, 97, 116, 104]⟩ ∨ nm = ⟨#[99, 121, 99, 108, 101]⟩ ∨ nm = ⟨#[99, 111, 109, 112, 108, 101, 116, 101]⟩ ∨ nm = ⟨#[115, 116, 97, 114]⟩ ∨ nm = ⟨#[119, 104, 101, 101, 108]⟩ := by simpa [names5] using hnm
  have kin : ∀ w', Pure Tryz.prog 42 #[.int .i64 n, .int .i64 1, .int .i64 7] w' (.bool true) := fun w' => by
    have := s_l1In_c n 1 7 w'
    rw [decide_eq_true (by omega)] at this; exact this
  repeat' (first | apply pwp_seq | apply pwp_region | (apply px_run; (first | (apply opv_move; first | exact hid_int rfl) | (apply opv_assign; first | exact hid_int rfl | exact hid_bool rfl) | (apply opv_not <;> rfl) | (apply opv_build2 bl_G; rfl; rfl; (first | exact rd_row 0 rfl)) | (apply opv_call; rfl; rfl; exact Cl.stable _ _ _; exact fun w hw => kin _)); rfl; rfl) | apply px_nil | apply qseq_normal | apply pwp_block | apply pwp_skip | (apply pwp_cond_f; rfl) | (apply px_alloc st_G; rfl; rfl; rfl; intro bk) | (apply px_store_str 0 st_G; rfl; rfl; rfl; rfl; rfl; (intro w hw; (first | refine all2 rfl ?_ ?_) <;> (first | rfl | exact stor_row 1 hw rfl)); rfl) | (apply px_make ez_int; rfl; rfl; rfl; rfl; rfl; omega; (simp only [maxLen]; omega); intro sv))
  rename_i b6
  refine pwp_fact (φ := storable sv = true) (fun w' hw => by first | exact stor_row 0 hw rfl | exact stor_row 1 hw rfl | exact stor_row 2 hw rfl | exact stor_row 3 hw rfl) (fun hsv => ?_)
  refine pwp_loop (τ := Nat × Value × Rel) [(5,5), (7,9), (18,89)] (fun x => [(7, .int .i64 (x.1 : Nat))]) (fun x => Cl [] w [.blk bk [.int .i64 n, x.2.1], .row 3 x.2.1 (ints (gRows n x.2.2)), .blk b6 [.int .i64 0, .slice none 0 0]])
    (fun x => x.1 ≤ n ∧ (SymP x.2.2 ∧ IrrP x.2.2) ∧ storable x.2.1 = true) (fun x => n - x.1) (0, sv, (fun _ _ => false))
    ⟨rfl, trivial⟩ ⟨Nat.zero_le _, ⟨fun _ _ => rfl, fun _ => rfl⟩, hsv⟩ (fun w' hw => by dsimp only; rw [hg0, hrep]; (have h := hw); exact Cl.ofSel (by assumption) (by repeat (first | exact sel_nil | refine sel_cons 0 rfl ?_ | refine sel_cons 1 rfl ?_ | refine sel_cons 2 rfl ?_ | refine sel_cons 3 rfl ?_ | refine sel_cons 4 rfl ?_ | refine sel_cons 5 rfl ?_ | refine sel_cons 6 rfl ?_ | refine sel_cons 7 rfl ?_ | refine sel_cons 8 rfl ?_ | refine sel_cons 9 rfl ?_ | refine sel_cons 10 rfl ?_ | refine sel_cons 11 rfl ?_ | refine sel_cons 12 rfl ?_ | refine sel_cons 13 rfl ?_))) (fun J x hx => ?_)
  obtain ⟨v, gv, P⟩ := x
  obtain ⟨v1, v2, v3⟩ := hx
  dsimp only at v1 v2 v3 ⊢
  by_cases hvn : v < n
  · repeat' (first | apply pwp_seq | apply pwp_region | (apply px_run; (first | (apply opv_move; first | exact hid_int rfl) | (apply opv_assign; first | exact hid_int rfl) | (apply opv_lss <;> rfl) | (apply opv_add_in; rfl; rfl; omega)); rfl; rfl) | apply px_nil | apply qseq_normal | apply pwp_block | apply pwp_skip | (apply pwp_cond_dec; rfl; all_goals (intro hc; try (first | (exfalso; omega)))))
    refine pwp_loop (τ := Nat × Value × Rel) [(5,5), (8,9), (25,89)] (fun x => [(8, .int .i64 (x.1 : Nat))]) (fun x => Cl [] w [.blk bk [.int .i64 n, x.2.1], .row 3 x.2.1 (ints (gRows n x.2.2)), .blk b6 [.int .i64 0, .slice none 0 0]])
      (fun x => v < x.1 ∧ x.1 ≤ n ∧ (SymP x.2.2 ∧ IrrP x.2.2) ∧ storable x.2.1 = true) (fun x => n - x.1) (v + 1, gv, P)
      ⟨rfl, trivial⟩ ⟨Nat.lt_succ_self _, hvn, v2, v3⟩ (fun w' hw => (by have h := hw; exact Cl.ofSel (by assumption) (by repeat (first | exact sel_nil | refine sel_cons 0 rfl ?_ | refine sel_cons 1 rfl ?_ | refine sel_cons 2 rfl ?_ | refine sel_cons 3 rfl ?_ | refine sel_cons 4 rfl ?_ | refine sel_cons 5 rfl ?_ | refine sel_cons 6 rfl ?_ | refine sel_cons 7 rfl ?_ | refine sel_cons 8 rfl ?_ | refine sel_cons 9 rfl ?_ | refine sel_cons 10 rfl ?_ | refine sel_cons 11 rfl ?_ | refine sel_cons 12 rfl ?_ | refine sel_cons 13 rfl ?_)))) (fun J2 x hx => ?_)
    obtain ⟨u, gu, P2⟩ := x
    obtain ⟨u0, u1, u2, u3⟩ := hx
    dsimp only at u0 u1 u2 u3 ⊢
    by_cases hun : u < n
    · have kA := fun w' ha => s_AddEdge4_c n gu P2 v u w' ha h1 hn u2.1 u2.2 (by omega) (by omega)
      rcases h5 with rfl | rfl | rfl | rfl | rfl
      all_goals
        repeat' (first | apply pwp_seq | apply pwp_region | (apply px_run; (first | (apply opv_eql_s_r (r := true); rfl; rfl; (rw [toList_beq]; decide)) | (apply opv_eql_s_r (r := false); rfl; rfl; (rw [toList_beq]; decide)) | (apply opv_move; first | exact hid_int rfl | exact hid_bool rfl | rfl) | (apply opv_assign; first | exact hid_int rfl | exact hid_bool rfl) | (apply opv_lss <;> rfl) | (apply opv_eql <;> rfl) | (apply opv_pick_t <;> rfl) | (apply opv_pick_f <;> rfl) | (apply opv_add_in; rfl; rfl; omega) | (apply opv_sub_in; rfl; rfl; omega) | (apply opv_load_str 0 st_G; rfl; rfl; rfl) | (apply opv_extract; rfl; rfl)); rfl; rfl) | apply px_nil | (apply px_skip; rfl; rfl) | apply qseq_normal | apply pwp_block | apply qblock_normal | apply pwp_skip | (apply pwp_cond_t; rfl) | (apply pwp_cond_f; rfl) | (apply px_guard_dec; rfl; rfl; rfl; all_goals (intro hc; try (first | fail))) | (apply pwp_cond_dec; rfl; all_goals (intro hc; try (first | (exfalso; omega)))) | (apply px_store_str 1 st_G; rfl; rfl; rfl; rfl; rfl; (intro w hw; (first | refine all2 rfl ?_ ?_) <;> (first | rfl | assumption)); rfl) | (apply px_gives; rfl; rfl; rfl; rfl; rfl; exact fun w hw => kA _ (by first | exact hw.rowArr (k := 1) rfl); rintro _ _ ⟨sc, bb, P3, hP3, hsc, rfl, rfl⟩))
        all_goals first
          | (refine qround_normal ?_ ⟨(u + 1, sc, P3), ⟨rfl, trivial⟩, ⟨by dsimp only; omega, by dsimp only; omega, hP3, hsc⟩, by dsimp only; omega, fun w' hw => (by have h := hw; exact Cl.ofSel (by assumption) (by repeat (first | exact sel_nil | refine sel_cons 0 rfl ?_ | refine sel_cons 1 rfl ?_ | refine sel_cons 2 rfl ?_ | refine sel_cons 3 rfl ?_ | refine sel_cons 4 rfl ?_ | refine sel_cons 5 rfl ?_ | refine sel_cons 6 rfl ?_ | refine sel_cons 7 rfl ?_ | refine sel_cons 8 rfl ?_ | refine sel_cons 9 rfl ?_ | refine sel_cons 10 rfl ?_ | refine sel_cons 11 rfl ?_ | refine sel_cons 12 rfl ?_ | refine sel_cons 13 rfl ?_)))⟩
             repeat (first | exact same_refl | refine same_upd rfl ?_ | refine same_junk rfl ?_))
          | (refine qround_normal ?_ ⟨(u + 1, gu, P2), ⟨rfl, trivial⟩, ⟨by dsimp only; omega, by dsimp only; omega, u2, u3⟩, by dsimp only; omega, fun w' hw => (by have h := hw; exact Cl.ofSel (by assumption) (by repeat (first | exact sel_nil | refine sel_cons 0 rfl ?_ | refine sel_cons 1 rfl ?_ | refine sel_cons 2 rfl ?_ | refine sel_cons 3 rfl ?_ | refine sel_cons 4 rfl ?_ | refine sel_cons 5 rfl ?_ | refine sel_cons 6 rfl ?_ | refine sel_cons 7 rfl ?_ | refine sel_cons 8 rfl ?_ | refine sel_cons 9 rfl ?_ | refine sel_cons 10 rfl ?_ | refine sel_cons 11 rfl ?_ | refine sel_cons 12 rfl ?_ | refine sel_cons 13 rfl ?_)))⟩
             repeat (first | exact same_refl | refine same_upd rfl ?_ | refine same_junk rfl ?_))
    · obtain rfl : u = n := by omega
      repeat' (first | apply pwp_seq | apply pwp_region | (apply px_run; (first | (apply opv_move; first | exact hid_int rfl) | (apply opv_assign; first | exact hid_int rfl) | (apply opv_lss <;> rfl) | (apply opv_add_in; rfl; rfl; omega)); rfl; rfl) | apply px_nil | apply qseq_normal | apply qseq_exit | apply qblock_normal | (apply qblock_exit_same; rfl) | apply pwp_exit | apply qround_exit | (apply pwp_cond_dec; rfl; all_goals (intro hc; try (first | (exfalso; omega)))))
      refine qround_normal ?_ ⟨(v + 1, gu, P2), ⟨rfl, trivial⟩, ⟨by dsimp only; omega, u2, u3⟩, by dsimp only; omega, fun w' hw => (by have h := hw; exact Cl.ofSel (by assumption) (by repeat (first | exact sel_nil | refine sel_cons 0 rfl ?_ | refine sel_cons 1 rfl ?_ | refine sel_cons 2 rfl ?_ | refine sel_cons 3 rfl ?_ | refine sel_cons 4 rfl ?_ | refine sel_cons 5 rfl ?_ | refine sel_cons 6 rfl ?_ | refine sel_cons 7 rfl ?_ | refine sel_cons 8 rfl ?_ | refine sel_cons 9 rfl ?_ | refine sel_cons 10 rfl ?_ | refine sel_cons 11 rfl ?_ | refine sel_cons 12 rfl ?_ | refine sel_cons 13 rfl ?_)))⟩
      repeat (first | exact same_refl | refine same_upd rfl ?_ | refine same_junk rfl ?_)
  · rcases h5 with rfl | rfl | rfl | rfl | rfl
    all_goals
      repeat' (first | apply pwp_seq | apply pwp_region | (apply px_run; (first | (apply opv_neq_s_r (r := true); rfl; rfl; (rw [toList_beq]; decide)) | (apply opv_neq_s_r (r := false); rfl; rfl; (rw [toList_beq]; decide)) | (apply opv_move; first | exact hid_int rfl | exact hid_bool rfl | rfl) | (apply opv_assign; first | exact hid_bool rfl) | (apply opv_lss <;> rfl) | (apply opv_eql <;> rfl) | (apply opv_pick_t <;> rfl) | (apply opv_pick_f <;> rfl) | (apply opv_load_str 0 st_G; rfl; rfl; rfl)); rfl; rfl) | apply px_nil | (apply px_skip; rfl; rfl) | apply qseq_normal | apply qseq_exit | (apply qblock_exit_same; rfl) | apply pwp_skip | apply pwp_exit | apply pwp_ret | apply qround_exit | (apply pwp_cond_f; rfl) | (apply px_guard_dec; rfl; rfl; rfl; all_goals (intro hc; try (first | fail))) | (apply pwp_cond_dec; rfl; all_goals (intro hc; try (first | (exfalso; omega)))) | (apply px_store_str 2 st_G; rfl; rfl; rfl; rfl; rfl; (intro w hw; (first | refine all2 rfl ?_ ?_) <;> (first | rfl | assumption)); rfl))
      all_goals first
        | refine qbody_cell_tmp 0 rfl st_G rfl rfl rfl rfl ⟨_, ⟨gv, P, true, v2, v3, rfl, rfl⟩, fun w' hw => (by have h := hw; exact Cl.ofSel (by assumption) (by repeat (first | exact sel_nil | refine sel_cons 0 rfl ?_ | refine sel_cons 1 rfl ?_ | refine sel_cons 2 rfl ?_ | refine sel_cons 3 rfl ?_ | refine sel_cons 4 rfl ?_ | refine sel_cons 5 rfl ?_ | refine sel_cons 6 rfl ?_ | refine sel_cons 7 rfl ?_ | refine sel_cons 8 rfl ?_ | refine sel_cons 9 rfl ?_ | refine sel_cons 10 rfl ?_ | refine sel_cons 11 rfl ?_ | refine sel_cons 12 rfl ?_ | refine sel_cons 13 rfl ?_)))⟩
        | refine qbody_cell_tmp 1 rfl st_G rfl rfl rfl rfl ⟨_, ⟨gv, P, true, v2, v3, rfl, rfl⟩, fun w' hw => (by have h := hw; exact Cl.ofSel (by assumption) (by repeat (first | exact sel_nil | refine sel_cons 0 rfl ?_ | refine sel_cons 1 rfl ?_ | refine sel_cons 2 rfl ?_ | refine sel_cons 3 rfl ?_ | refine sel_cons 4 rfl ?_ | refine sel_cons 5 rfl ?_ | refine sel_cons 6 rfl ?_ | refine sel_cons 7 rfl ?_ | refine sel_cons 8 rfl ?_ | refine sel_cons 9 rfl ?_ | refine sel_cons 10 rfl ?_ | refine sel_cons 11 rfl ?_ | refine sel_cons 12 rfl ?_ | refine sel_cons 13 rfl ?_)))⟩
        | refine qbody_cell_tmp 2 rfl st_G rfl rfl rfl rfl ⟨_, ⟨gv, P, true, v2, v3, rfl, rfl⟩, fun w' hw => (by have h := hw; exact Cl.ofSel (by assumption) (by repeat (first | exact sel_nil | refine sel_cons 0 rfl ?_ | refine sel_cons 1 rfl ?_ | refine sel_cons 2 rfl ?_ | refine sel_cons 3 rfl ?_ | refine sel_cons 4 rfl ?_ | refine sel_cons 5 rfl ?_ | refine sel_cons 6 rfl ?_ | refine sel_cons 7 rfl ?_ | refine sel_cons 8 rfl ?_ | refine sel_cons 9 rfl ?_ | refine sel_cons 10 rfl ?_ | refine sel_cons 11 rfl ?_ | refine sel_cons 12 rfl ?_ | refine sel_cons 13 rfl ?_)))⟩
        | refine qbody_cell_tmp 3 rfl st_G rfl rfl rfl rfl ⟨_, ⟨gv, P, true, v2, v3, rfl, rfl⟩, fun w' hw => (by have h := hw; exact Cl.ofSel (by assumption) (by repeat (first | exact sel_nil | refine sel_cons 0 rfl ?_ | refine sel_cons 1 rfl ?_ | refine sel_cons 2 rfl ?_ | refine sel_cons 3 rfl ?_ | refine sel_cons 4 rfl ?_ | refine sel_cons 5 rfl ?_ | refine sel_cons 6 rfl ?_ | refine sel_cons 7 rfl ?_ | refine sel_cons 8 rfl ?_ | refine sel_cons 9 rfl ?_ | refine sel_cons 10 rfl ?_ | refine sel_cons 11 rfl ?_ | refine sel_cons 12 rfl ?_ | refine sel_cons 13 rfl ?_)))⟩
def GrQ (cv : Value) (l : List Int) (cb : Nat) (n : Int) (v : Value) (new : List Ob) : Prop := ∃ gv P i h, (SymP P ∧ IrrP P) ∧ storable gv = true ∧ v = .agg #[.int .i64 n, gv] ∧ (0 ≤ i ∧ i ≤ (l.length : Int)) ∧ new = [.row 3 gv (ints (gRows n.toNat P)), .blk cb (cells3 cv i h)]
theorem s_l2Random_i (cv : Value) (l : List Int) (cb : Nat) (i h odd : Int) (n : Int) (w : World) (hcp : CodeP w cv l) (hi : 0 ≤ i ∧ i ≤ (l.length : Int)) (ho : Own w [.blk cb (cells3 cv i h)]) (hn : 1 ≤ n ∧ n ≤ 7) :
    GivesU Tryz.prog 103 #[.pointer (some ⟨cb, 0, none⟩), .int .i64 n, .int .i64 odd] w [.blk cb (cells3 cv i h)] (fun v new => GrQ cv l cb n v new) := by
  obtain ⟨m, rfl⟩ : ∃ m : Nat, n = (m : Int) := ⟨n.toNat, by omega⟩
  exact s_l2Random_c cv l cb i h odd m w hcp hi ho (by omega) (by omega)
theorem s_NamedGraph_i (nm : ByteArray) (n : Int) (w : World) (hnm : nm ∈ names5) (hn : 1 ≤ n ∧ n ≤ 7) :
    Gives Tryz.prog 101 #[.string nm, .int .i64 n] w (fun v objs => ∃ gv P bb, (SymP P ∧ IrrP P) ∧ storable gv = true ∧ v = .tuple #[.agg #[.int .i64 n, gv], .bool bb] ∧ objs = [.row 3 gv (ints (gRows n.toNat P))]) := by
  obtain ⟨m, rfl⟩ : ∃ m : Nat, n = (m : Int) := ⟨n.toNat, by omega⟩
  exact s_NamedGraph_c nm m w hnm (by omega) (by omega)
theorem s_AddEdge_i (n : Int) (gv : Value) (P : Nat → Nat → Bool) (v u : Int) (w : World) (hr : Arr w gv (ints (gRows n.toNat P))) (hn : 1 ≤ n ∧ n ≤ 7) (hs : SymP P ∧ IrrP P) (hv : 0 ≤ v ∧ v < n) (hu : 0 ≤ u ∧ u < n) :
    Gives Tryz.prog 63 #[.agg #[.int .i64 n, gv], .int .i64 v, .int .i64 u] w (fun x objs => ∃ sv' bb P', (SymP P' ∧ IrrP P') ∧ storable sv' = true ∧ x = .tuple #[.agg #[.int .i64 n, sv'], .bool bb] ∧ objs = [.row 3 sv' (ints (gRows n.toNat P'))]) := by
  obtain ⟨m, rfl⟩ : ∃ m : Nat, n = (m : Int) := ⟨n.toNat, by omega⟩
  exact s_AddEdge4_c m gv P v u w hr (by omega) (by omega) hs.1 hs.2 hv hu
theorem en_s_l2Draw : Entry Tryz.prog 82 := ⟨_, Tryz.func82, by kernel_rfl, rfl⟩
set_option maxRecDepth 100000 in
set_option maxHeartbeats 3200000 in
theorem s_l2Draw_c (cv : Value) (l : List Int) (cb : Nat) (i h : Int) (w : World) (hcp : CodeP w cv l) (hi : 0 ≤ i ∧ i ≤ (l.length : Int)) (ho : Own w [.blk cb (cells3 cv i h)]) :
    GivesU Tryz.prog 82 #[.pointer (some ⟨cb, 0, none⟩)] w [.blk cb (cells3 cv i h)] (fun v new => ∃ n : Int, (1 ≤ n ∧ n ≤ 6) ∧ GrQ cv l cb n v new) := by
  have hap := code_apart hcp ho
  refine givesU_enterX (X := [cb]) (args := [_]) rfl ho en_s_l2Draw Tryz.func82 rfl Tryz.ntmps82 rfl ?_
  repeat' (first | apply pwp_seq | apply pwp_region | (apply px_run; (first | (apply opv_move; first | exact hid_int rfl | exact hid_ptr rfl | rfl) | (apply opv_assign; first | exact hid_int rfl | exact hid_bool rfl) | (apply opv_eql <;> rfl) | (apply opv_add_in; rfl; rfl; omega) | (apply opv_load_str 1 st_G; rfl; rfl; rfl) | (apply opv_load_str 2 st_G; rfl; rfl; rfl) | (apply opv_extract; rfl; rfl)); rfl; rfl) | apply px_nil | apply qseq_normal | apply qseq_ret | apply pwp_block | apply qblock_normal | apply qblock_ret | apply pwp_skip | apply pwp_ret | (apply pwp_cond_dec; rfl; all_goals (intro hc; try (first | fail))) | (apply pwp_cond; rfl; all_goals (intro hc; try (first | fail))) | (apply px_givesV [1]; rfl; rfl; rfl; rfl; rfl; (exact fun w' hw ho' => s_l1Below_c cv l cb _ _ 6 w' (hcp.at hap hw) (by assumption) ho'); rintro _ _ ⟨x0, hx0, rfl, ⟨ci, ch, hi, rfl⟩⟩) | (apply px_givesV [0]; rfl; rfl; rfl; rfl; rfl; (exact fun w' hw ho' => s_l1Below_c cv l cb _ _ _ w' (hcp.at hap hw) (by assumption) ho'); rintro _ _ ⟨x, hx, rfl, ⟨ci, ch, hi, rfl⟩⟩) | (apply px_givesV [2]; rfl; rfl; rfl; rfl; rfl; (exact fun w' hw ho' => s_l1Below_c cv l cb _ _ _ w' (hcp.at hap hw) (by assumption) ho'); rintro _ _ ⟨x, hx, rfl, ⟨ci, ch, hi, rfl⟩⟩) | (apply px_givesV [0]; rfl; rfl; rfl; rfl; rfl; (exact fun w' hw ho' => s_l1Once_c cv l cb _ _ _ w' (hcp.at hap hw) (by assumption) ho'); rintro _ _ ⟨b, rfl, ⟨ci, ch, hi, rfl⟩⟩) | (apply px_givesV [1]; rfl; rfl; rfl; rfl; rfl; (exact fun w' hw ho' => s_l1Pick_c cv _ l names5 cb _ _ w' (hcp.at hap hw) (by assumption) ho' (hw.rowArr (k := 0) rfl) (hw.rowNe 0 0 rfl rfl) (by decide)); rintro _ _ ⟨nm, hnm, rfl, ⟨ci, ch, hi, rfl⟩⟩) | (apply px_givesV [0]; rfl; rfl; rfl; rfl; rfl; (exact fun w' hw ho' => s_l2Random_i cv l cb _ _ _ _ w' (hcp.at hap hw) (by assumption) ho' (by omega)); rintro _ _ ⟨gr, Pr, ri, rh, hPr, hgr, rfl, hri, rfl⟩) | (apply px_lit5 ez_strD; rfl; rfl; rfl; rfl; rfl; rfl; rfl; rfl; rfl; rfl; rfl; rfl; rfl; intro sv) | (apply px_alloc st_G; rfl; rfl; rfl; intro bk) | (apply px_store_str 0 st_G; rfl; rfl; rfl; rfl; rfl; (intro w hw; (first | refine all2 rfl ?_ ?_) <;> (first | rfl | assumption)); rfl) | (apply px_store_str 2 st_G; rfl; rfl; rfl; rfl; rfl; (intro w hw; (first | refine all2 rfl ?_ ?_) <;> (first | rfl | assumption)); rfl) | (apply px_store_str 4 st_G; rfl; rfl; rfl; rfl; rfl; (intro w hw; (first | refine all2 rfl ?_ ?_) <;> (first | rfl | assumption)); rfl) | (apply px_store_str 5 st_G; rfl; rfl; rfl; rfl; rfl; (intro w hw; (first | refine all2 rfl ?_ ?_) <;> (first | rfl | assumption)); rfl) | (apply px_gives; rfl; rfl; rfl; rfl; rfl; exact fun w hw => s_NamedGraph_i _ _ _ (by assumption) (by omega); rintro _ _ ⟨ga, Pa, ba, hPa, hga, rfl, rfl⟩) | (apply px_gives; rfl; rfl; rfl; rfl; rfl; exact fun w hw => s_AddEdge_i _ _ Pa _ _ _ (by first | exact hw.rowArr (k := 2) rfl) (by omega) hPa (by omega) (by omega); rintro _ _ ⟨gb, bb, Pb, hPb, hgb, rfl, rfl⟩))
  all_goals first
    | refine qbody_cell 0 rfl st_G rfl rfl rfl ⟨_, ⟨1 + x0, by omega, gb, Pb, ci, ch, hPb, hgb, rfl, by assumption, rfl⟩, fun w' hw => (by have h := hw; exact Cl.ofSel (by assumption) (by repeat (first | exact sel_nil | refine sel_cons 0 rfl ?_ | refine sel_cons 1 rfl ?_ | refine sel_cons 2 rfl ?_ | refine sel_cons 3 rfl ?_ | refine sel_cons 4 rfl ?_ | refine sel_cons 5 rfl ?_ | refine sel_cons 6 rfl ?_ | refine sel_cons 7 rfl ?_ | refine sel_cons 8 rfl ?_ | refine sel_cons 9 rfl ?_ | refine sel_cons 10 rfl ?_ | refine sel_cons 11 rfl ?_ | refine sel_cons 12 rfl ?_ | refine sel_cons 13 rfl ?_)))⟩
    | refine qbody_cell 0 rfl st_G rfl rfl rfl ⟨_, ⟨1 + x0, by omega, ga, Pa, ci, ch, hPa, hga, rfl, by assumption, rfl⟩, fun w' hw => (by have h := hw; exact Cl.ofSel (by assumption) (by repeat (first | exact sel_nil | refine sel_cons 0 rfl ?_ | refine sel_cons 1 rfl ?_ | refine sel_cons 2 rfl ?_ | refine sel_cons 3 rfl ?_ | refine sel_cons 4 rfl ?_ | refine sel_cons 5 rfl ?_ | refine sel_cons 6 rfl ?_ | refine sel_cons 7 rfl ?_ | refine sel_cons 8 rfl ?_ | refine sel_cons 9 rfl ?_ | refine sel_cons 10 rfl ?_ | refine sel_cons 11 rfl ?_ | refine sel_cons 12 rfl ?_ | refine sel_cons 13 rfl ?_)))⟩
    | refine qbody_cell 0 rfl st_G rfl rfl rfl ⟨_, ⟨1 + x0, by omega, gr, Pr, ri, rh, hPr, hgr, rfl, hri, rfl⟩, fun w' hw => (by have h := hw; exact Cl.ofSel (by assumption) (by repeat (first | exact sel_nil | refine sel_cons 0 rfl ?_ | refine sel_cons 1 rfl ?_ | refine sel_cons 2 rfl ?_ | refine sel_cons 3 rfl ?_ | refine sel_cons 4 rfl ?_ | refine sel_cons 5 rfl ?_ | refine sel_cons 6 rfl ?_ | refine sel_cons 7 rfl ?_ | refine sel_cons 8 rfl ?_ | refine sel_cons 9 rfl ?_ | refine sel_cons 10 rfl ?_ | refine sel_cons 11 rfl ?_ | refine sel_cons 12 rfl ?_ | refine sel_cons 13 rfl ?_)))⟩
    | refine qbody_cell 1 rfl st_G rfl rfl rfl ⟨_, ⟨1 + x0, by omega, gb, Pb, ci, ch, hPb, hgb, rfl, by assumption, rfl⟩, fun w' hw => (by have h := hw; exact Cl.ofSel (by assumption) (by repeat (first | exact sel_nil | refine sel_cons 0 rfl ?_ | refine sel_cons 1 rfl ?_ | refine sel_cons 2 rfl ?_ | refine sel_cons 3 rfl ?_ | refine sel_cons 4 rfl ?_ | refine sel_cons 5 rfl ?_ | refine sel_cons 6 rfl ?_ | refine sel_cons 7 rfl ?_ | refine sel_cons 8 rfl ?_ | refine sel_cons 9 rfl ?_ | refine sel_cons 10 rfl ?_ | refine sel_cons 11 rfl ?_ | refine sel_cons 12 rfl ?_ | refine sel_cons 13 rfl ?_)))⟩
    | refine qbody_cell 1 rfl st_G rfl rfl rfl ⟨_, ⟨1 + x0, by omega, ga, Pa, ci, ch, hPa, hga, rfl, by assumption, rfl⟩, fun w' hw => (by have h := hw; exact Cl.ofSel (by assumption) (by repeat (first | exact sel_nil | refine sel_cons 0 rfl ?_ | refine sel_cons 1 rfl ?_ | refine sel_cons 2 rfl ?_ | refine sel_cons 3 rfl ?_ | refine sel_cons 4 rfl ?_ | refine sel_cons 5 rfl ?_ | refine sel_cons 6 rfl ?_ | refine sel_cons 7 rfl ?_ | refine sel_cons 8 rfl ?_ | refine sel_cons 9 rfl ?_ | refine sel_cons 10 rfl ?_ | refine sel_cons 11 rfl ?_ | refine sel_cons 12 rfl ?_ | refine sel_cons 13 rfl ?_)))⟩
    | refine qbody_cell 1 rfl st_G rfl rfl rfl ⟨_, ⟨1 + x0, by omega, gr, Pr, ri, rh, hPr, hgr, rfl, hri, rfl⟩, fun w' hw => (by have h := hw; exact Cl.ofSel (by assumption) (by repeat (first | exact sel_nil | refine sel_cons 0 rfl ?_ | refine sel_cons 1 rfl ?_ | refine sel_cons 2 rfl ?_ | refine sel_cons 3 rfl ?_ | refine sel_cons 4 rfl ?_ | refine sel_cons 5 rfl ?_ | refine sel_cons 6 rfl ?_ | refine sel_cons 7 rfl ?_ | refine sel_cons 8 rfl ?_ | refine sel_cons 9 rfl ?_ | refine sel_cons 10 rfl ?_ | refine sel_cons 11 rfl ?_ | refine sel_cons 12 rfl ?_ | refine sel_cons 13 rfl ?_)))⟩
    | refine qbody_cell 2 rfl st_G rfl rfl rfl ⟨_, ⟨1 + x0, by omega, gb, Pb, ci, ch, hPb, hgb, rfl, by assumption, rfl⟩, fun w' hw => (by have h := hw; exact Cl.ofSel (by assumption) (by repeat (first | exact sel_nil | refine sel_cons 0 rfl ?_ | refine sel_cons 1 rfl ?_ | refine sel_cons 2 rfl ?_ | refine sel_cons 3 rfl ?_ | refine sel_cons 4 rfl ?_ | refine sel_cons 5 rfl ?_ | refine sel_cons 6 rfl ?_ | refine sel_cons 7 rfl ?_ | refine sel_cons 8 rfl ?_ | refine sel_cons 9 rfl ?_ | refine sel_cons 10 rfl ?_ | refine sel_cons 11 rfl ?_ | refine sel_cons 12 rfl ?_ | refine sel_cons 13 rfl ?_)))⟩
    | refine qbody_cell 2 rfl st_G rfl rfl rfl ⟨_, ⟨1 + x0, by omega, ga, Pa, ci, ch, hPa, hga, rfl, by assumption, rfl⟩, fun w' hw => (by have h := hw; exact Cl.ofSel (by assumption) (by repeat (first | exact sel_nil | refine sel_cons 0 rfl ?_ | refine sel_cons 1 rfl ?_ | refine sel_cons 2 rfl ?_ | refine sel_cons 3 rfl ?_ | refine sel_cons 4 rfl ?_ | refine sel_cons 5 rfl ?_ | refine sel_cons 6 rfl ?_ | refine sel_cons 7 rfl ?_ | refine sel_cons 8 rfl ?_ | refine sel_cons 9 rfl ?_ | refine sel_cons 10 rfl ?_ | refine sel_cons 11 rfl ?_ | refine sel_cons 12 rfl ?_ | refine sel_cons 13 rfl ?_)))⟩
    | refine qbody_cell 2 rfl st_G rfl rfl rfl ⟨_, ⟨1 + x0, by omega, gr, Pr, ri, rh, hPr, hgr, rfl, hri, rfl⟩, fun w' hw => (by have h := hw; exact Cl.ofSel (by assumption) (by repeat (first | exact sel_nil | refine sel_cons 0 rfl ?_ | refine sel_cons 1 rfl ?_ | refine sel_cons 2 rfl ?_ | refine sel_cons 3 rfl ?_ | refine sel_cons 4 rfl ?_ | refine sel_cons 5 rfl ?_ | refine sel_cons 6 rfl ?_ | refine sel_cons 7 rfl ?_ | refine sel_cons 8 rfl ?_ | refine sel_cons 9 rfl ?_ | refine sel_cons 10 rfl ?_ | refine sel_cons 11 rfl ?_ | refine sel_cons 12 rfl ?_ | refine sel_cons 13 rfl ?_)))⟩
    | refine qbody_cell 3 rfl st_G rfl rfl rfl ⟨_, ⟨1 + x0, by omega, gb, Pb, ci, ch, hPb, hgb, rfl, by assumption, rfl⟩, fun w' hw => (by have h := hw; exact Cl.ofSel (by assumption) (by repeat (first | exact sel_nil | refine sel_cons 0 rfl ?_ | refine sel_cons 1 rfl ?_ | refine sel_cons 2 rfl ?_ | refine sel_cons 3 rfl ?_ | refine sel_cons 4 rfl ?_ | refine sel_cons 5 rfl ?_ | refine sel_cons 6 rfl ?_ | refine sel_cons 7 rfl ?_ | refine sel_cons 8 rfl ?_ | refine sel_cons 9 rfl ?_ | refine sel_cons 10 rfl ?_ | refine sel_cons 11 rfl ?_ | refine sel_cons 12 rfl ?_ | refine sel_cons 13 rfl ?_)))⟩
    | refine qbody_cell 3 rfl st_G rfl rfl rfl ⟨_, ⟨1 + x0, by omega, ga, Pa, ci, ch, hPa, hga, rfl, by assumption, rfl⟩, fun w' hw => (by have h := hw; exact Cl.ofSel (by assumption) (by repeat (first | exact sel_nil | refine sel_cons 0 rfl ?_ | refine sel_cons 1 rfl ?_ | refine sel_cons 2 rfl ?_ | refine sel_cons 3 rfl ?_ | refine sel_cons 4 rfl ?_ | refine sel_cons 5 rfl ?_ | refine sel_cons 6 rfl ?_ | refine sel_cons 7 rfl ?_ | refine sel_cons 8 rfl ?_ | refine sel_cons 9 rfl ?_ | refine sel_cons 10 rfl ?_ | refine sel_cons 11 rfl ?_ | refine sel_cons 12 rfl ?_ | refine sel_cons 13 rfl ?_)))⟩
    | refine qbody_cell 3 rfl st_G rfl rfl rfl ⟨_, ⟨1 + x0, by omega, gr, Pr, ri, rh, hPr, hgr, rfl, hri, rfl⟩, fun w' hw => (by have h := hw; exact Cl.ofSel (by assumption) (by repeat (first | exact sel_nil | refine sel_cons 0 rfl ?_ | refine sel_cons 1 rfl ?_ | refine sel_cons 2 rfl ?_ | refine sel_cons 3 rfl ?_ | refine sel_cons 4 rfl ?_ | refine sel_cons 5 rfl ?_ | refine sel_cons 6 rfl ?_ | refine sel_cons 7 rfl ?_ | refine sel_cons 8 rfl ?_ | refine sel_cons 9 rfl ?_ | refine sel_cons 10 rfl ?_ | refine sel_cons 11 rfl ?_ | refine sel_cons 12 rfl ?_ | refine sel_cons 13 rfl ?_)))⟩
    | refine qbody_cell 4 rfl st_G rfl rfl rfl ⟨_, ⟨1 + x0, by omega, gb, Pb, ci, ch, hPb, hgb, rfl, by assumption, rfl⟩, fun w' hw => (by have h := hw; exact Cl.ofSel (by assumption) (by repeat (first | exact sel_nil | refine sel_cons 0 rfl ?_ | refine sel_cons 1 rfl ?_ | refine sel_cons 2 rfl ?_ | refine sel_cons 3 rfl ?_ | refine sel_cons 4 rfl ?_ | refine sel_cons 5 rfl ?_ | refine sel_cons 6 rfl ?_ | refine sel_cons 7 rfl ?_ | refine sel_cons 8 rfl ?_ | refine sel_cons 9 rfl ?_ | refine sel_cons 10 rfl ?_ | refine sel_cons 11 rfl ?_ | refine sel_cons 12 rfl ?_ | refine sel_cons 13 rfl ?_)))⟩
    | refine qbody_cell 4 rfl st_G rfl rfl rfl ⟨_, ⟨1 + x0, by omega, ga, Pa, ci, ch, hPa, hga, rfl, by assumption, rfl⟩, fun w' hw => (by have h := hw; exact Cl.ofSel (by assumption) (by repeat (first | exact sel_nil | refine sel_cons 0 rfl ?_ | refine sel_cons 1 rfl ?_ | refine sel_cons 2 rfl ?_ | refine sel_cons 3 rfl ?_ | refine sel_cons 4 rfl ?_ | refine sel_cons 5 rfl ?_ | refine sel_cons 6 rfl ?_ | refine sel_cons 7 rfl ?_ | refine sel_cons 8 rfl ?_ | refine sel_cons 9 rfl ?_ | refine sel_cons 10 rfl ?_ | refine sel_cons 11 rfl ?_ | refine sel_cons 12 rfl ?_ | refine sel_cons 13 rfl ?_)))⟩
    | refine qbody_cell 4 rfl st_G rfl rfl rfl ⟨_, ⟨1 + x0, by omega, gr, Pr, ri, rh, hPr, hgr, rfl, hri, rfl⟩, fun w' hw => (by have h := hw; exact Cl.ofSel (by assumption) (by repeat (first | exact sel_nil | refine sel_cons 0 rfl ?_ | refine sel_cons 1 rfl ?_ | refine sel_cons 2 rfl ?_ | refine sel_cons 3 rfl ?_ | refine sel_cons 4 rfl ?_ | refine sel_cons 5 rfl ?_ | refine sel_cons 6 rfl ?_ | refine sel_cons 7 rfl ?_ | refine sel_cons 8 rfl ?_ | refine sel_cons 9 rfl ?_ | refine sel_cons 10 rfl ?_ | refine sel_cons 11 rfl ?_ | refine sel_cons 12 rfl ?_ | refine sel_cons 13 rfl ?_)))⟩
    | refine qbody_cell 5 rfl st_G rfl rfl rfl ⟨_, ⟨1 + x0, by omega, gb, Pb, ci, ch, hPb, hgb, rfl, by assumption, rfl⟩, fun w' hw => (by have h := hw; exact Cl.ofSel (by assumption) (by repeat (first | exact sel_nil | refine sel_cons 0 rfl ?_ | refine sel_cons 1 rfl ?_ | refine sel_cons 2 rfl ?_ | refine sel_cons 3 rfl ?_ | refine sel_cons 4 rfl ?_ | refine sel_cons 5 rfl ?_ | refine sel_cons 6 rfl ?_ | refine sel_cons 7 rfl ?_ | refine sel_cons 8 rfl ?_ | refine sel_cons 9 rfl ?_ | refine sel_cons 10 rfl ?_ | refine sel_cons 11 rfl ?_ | refine sel_cons 12 rfl ?_ | refine sel_cons 13 rfl ?_)))⟩
    | refine qbody_cell 5 rfl st_G rfl rfl rfl ⟨_, ⟨1 + x0, by omega, ga, Pa, ci, ch, hPa, hga, rfl, by assumption, rfl⟩, fun w' hw => (by have h := hw; exact Cl.ofSel (by assumption) (by repeat (first | exact sel_nil | refine sel_cons 0 rfl ?_ | refine sel_cons 1 rfl ?_ | refine sel_cons 2 rfl ?_ | refine sel_cons 3 rfl ?_ | refine sel_cons 4 rfl ?_ | refine sel_cons 5 rfl ?_ | refine sel_cons 6 rfl ?_ | refine sel_cons 7 rfl ?_ | refine sel_cons 8 rfl ?_ | refine sel_cons 9 rfl ?_ | refine sel_cons 10 rfl ?_ | refine sel_cons 11 rfl ?_ | refine sel_cons 12 rfl ?_ | refine sel_cons 13 rfl ?_)))⟩
    | refine qbody_cell 5 rfl st_G rfl rfl rfl ⟨_, ⟨1 + x0, by omega, gr, Pr, ri, rh, hPr, hgr, rfl, hri, rfl⟩, fun w' hw => (by have h := hw; exact Cl.ofSel (by assumption) (by repeat (first | exact sel_nil | refine sel_cons 0 rfl ?_ | refine sel_cons 1 rfl ?_ | refine sel_cons 2 rfl ?_ | refine sel_cons 3 rfl ?_ | refine sel_cons 4 rfl ?_ | refine sel_cons 5 rfl ?_ | refine sel_cons 6 rfl ?_ | refine sel_cons 7 rfl ?_ | refine sel_cons 8 rfl ?_ | refine sel_cons 9 rfl ?_ | refine sel_cons 10 rfl ?_ | refine sel_cons 11 rfl ?_ | refine sel_cons 12 rfl ?_ | refine sel_cons 13 rfl ?_)))⟩
    | refine qbody_cell 6 rfl st_G rfl rfl rfl ⟨_, ⟨1 + x0, by omega, gb, Pb, ci, ch, hPb, hgb, rfl, by assumption, rfl⟩, fun w' hw => (by have h := hw; exact Cl.ofSel (by assumption) (by repeat (first | exact sel_nil | refine sel_cons 0 rfl ?_ | refine sel_cons 1 rfl ?_ | refine sel_cons 2 rfl ?_ | refine sel_cons 3 rfl ?_ | refine sel_cons 4 rfl ?_ | refine sel_cons 5 rfl ?_ | refine sel_cons 6 rfl ?_ | refine sel_cons 7 rfl ?_ | refine sel_cons 8 rfl ?_ | refine sel_cons 9 rfl ?_ | refine sel_cons 10 rfl ?_ | refine sel_cons 11 rfl ?_ | refine sel_cons 12 rfl ?_ | refine sel_cons 13 rfl ?_)))⟩
    | refine qbody_cell 6 rfl st_G rfl rfl rfl ⟨_, ⟨1 + x0, by omega, ga, Pa, ci, ch, hPa, hga, rfl, by assumption, rfl⟩, fun w' hw => (by have h := hw; exact Cl.ofSel (by assumption) (by repeat (first | exact sel_nil | refine sel_cons 0 rfl ?_ | refine sel_cons 1 rfl ?_ | refine sel_cons 2 rfl ?_ | refine sel_cons 3 rfl ?_ | refine sel_cons 4 rfl ?_ | refine sel_cons 5 rfl ?_ | refine sel_cons 6 rfl ?_ | refine sel_cons 7 rfl ?_ | refine sel_cons 8 rfl ?_ | refine sel_cons 9 rfl ?_ | refine sel_cons 10 rfl ?_ | refine sel_cons 11 rfl ?_ | refine sel_cons 12 rfl ?_ | refine sel_cons 13 rfl ?_)))⟩
    | refine qbody_cell 6 rfl st_G rfl rfl rfl ⟨_, ⟨1 + x0, by omega, gr, Pr, ri, rh, hPr, hgr, rfl, hri, rfl⟩, fun w' hw => (by have h := hw; exact Cl.ofSel (by assumption) (by repeat (first | exact sel_nil | refine sel_cons 0 rfl ?_ | refine sel_cons 1 rfl ?_ | refine sel_cons 2 rfl ?_ | refine sel_cons 3 rfl ?_ | refine sel_cons 4 rfl ?_ | refine sel_cons 5 rfl ?_ | refine sel_cons 6 rfl ?_ | refine sel_cons 7 rfl ?_ | refine sel_cons 8 rfl ?_ | refine sel_cons 9 rfl ?_ | refine sel_cons 10 rfl ?_ | refine sel_cons 11 rfl ?_ | refine sel_cons 12 rfl ?_ | refine sel_cons 13 rfl ?_)))⟩
end Go.Proofs.YtcicdnpmlcjcmaaGreat
/- Draws: any graph, a set, and what the laws of modules draw. -/
namespace Go.Proofs.YtcicdnpmlcjcmaaGreat
open Go Go.RowKit Go.Pw
/-- Some graph, not always a good one, beside the cursor. -/
def AnyG (cv : Value) (l : List Int) (cb : Nat) (v : Value) (new : List Ob) : Prop := ∃ n gv rows i h, (-1 ≤ n ∧ n ≤ 8) ∧ (1 ≤ rows.length ∧ rows.length ≤ 7) ∧ storable gv = true ∧ v = .agg #[.int .i64 n, gv] ∧ (0 ≤ i ∧ i ≤ (l.length : Int)) ∧ new = [.row 3 gv (ints rows), .blk cb (cells3 cv i h)]
theorem en_s_l2Any : Entry Tryz.prog 45 := ⟨_, Tryz.func45, by kernel_rfl, rfl⟩
set_option maxRecDepth 100000 in
set_option maxHeartbeats 3200000 in
theorem s_l2Any_c (cv : Value) (l : List Int) (cb : Nat) (i h : Int) (w : World) (hcp : CodeP w cv l) (hi : 0 ≤ i ∧ i ≤ (l.length : Int)) (ho : Own w [.blk cb (cells3 cv i h)]) :
    GivesU Tryz.prog 45 #[.pointer (some ⟨cb, 0, none⟩)] w [.blk cb (cells3 cv i h)] (fun v new => AnyG cv l cb v new) := by
  have hap := code_apart hcp ho
  refine givesU_enterX (X := [cb]) (args := [_]) rfl ho en_s_l2Any Tryz.func45 rfl Tryz.ntmps45 rfl ?_
  have hm4 : ∀ y ∈ [(0 : Int), -1, 8, 3], -1 ≤ y ∧ y ≤ 8 := by decide
  have hlenG : ∀ (n : Int) (P : Rel), 1 ≤ n ∧ n ≤ 6 → 1 ≤ (gRows n.toNat P).length ∧ (gRows n.toNat P).length ≤ 7 := fun n P hn => by rw [gRows_length]; omega
  repeat' (first | apply pwp_seq | apply pwp_region | (apply px_run; (first | (apply opv_move; first | exact hid_ptr rfl) | (apply opv_assign; first | exact hid_bool rfl) | (apply opv_eql <;> rfl) | (apply opv_field fld_G0; rfl) | (apply opv_field fld_G1; rfl) | (apply opv_load_blk 0; (first | with_reducible exact sc_ints); rfl; rfl; rfl) | (apply opv_index_nat (vs := ints _) el_int; rfl; rfl; (first | exact rd_row 3 rfl); (first | (simp [ints]; omega))) | (apply opv_load_str 1 st_G; rfl; rfl; rfl) | (apply opv_load_str 2 st_G; rfl; rfl; rfl)); rfl; rfl) | apply px_nil | apply qseq_normal | apply pwp_block | apply qblock_normal | apply pwp_skip | apply pwp_ret | (apply pwp_region_any [0, 1, 2] [6] 4 (Cl [cb] w [.blk _ [.int .i64 n, gv], .row _ gv (ints (gRows n.toNat P))]); kernel_rfl; decide +kernel; exact Cl.stable _ _ _; exact fun w h => h.sub (by repeat (first | apply List.Sublist.cons_cons | exact List.sublist_append_left _ _ | apply List.Sublist.cons))) | apply qlooks_normal | (apply qstep_out; decide +kernel) | (apply qstep_in; exact fun w h => h.sub (by repeat (first | apply List.Sublist.cons_cons | exact List.sublist_append_left _ _ | apply List.Sublist.cons))) | (apply pxa_nil; decide +kernel) | (apply pxa_one 3; decide +kernel; rfl) | (apply pxa_one 4; decide +kernel; rfl) | (apply pxa_one 5; decide +kernel; rfl) | (apply pxa_one 6; decide +kernel; rfl) | (apply pwp_cond_dec; rfl; all_goals (intro hc; try (first | fail))) | (apply px_givesV [1]; rfl; rfl; rfl; rfl; rfl; (exact fun w' hw ho' => s_l2Draw_c cv l cb _ _ w' (hcp.at hap hw) (by assumption) ho'); rintro _ _ ⟨n, hn, gv, P, ci, ch, hP, hgv, rfl, hi, rfl⟩) | (apply px_givesV [2]; rfl; rfl; rfl; rfl; rfl; (exact fun w' hw ho' => s_l1Below_c cv l cb _ _ _ w' (hcp.at hap hw) (by assumption) ho'); rintro _ _ ⟨x, hx, rfl, ⟨ci, ch, hi, rfl⟩⟩) | (apply px_givesV [1]; rfl; rfl; rfl; rfl; rfl; (exact fun w' hw ho' => s_l1PickInt_c cv _ l [0, -1, 8, 3] cb _ _ w' (hcp.at hap hw) (by assumption) ho' (hw.rowArr (k := 0) rfl) (hw.rowNe 0 0 rfl rfl) (by decide)); rintro _ _ ⟨y, hy, rfl, ⟨ci, ch, hi, rfl⟩⟩) | (apply px_givesV [1]; rfl; rfl; rfl; rfl; rfl; (exact fun w' hw ho' => s_l1PickInt_c cv _ l [-1, 1, 2, 128, 9223372036854775807] cb _ _ w' (hcp.at hap hw) (by assumption) ho' (hw.rowArr (k := 0) rfl) (hw.rowNe 0 0 rfl rfl) (by decide)); rintro _ _ ⟨y, hy, rfl, ⟨ci, ch, hi, rfl⟩⟩) | (apply px_lit4 ez_int; rfl; (intro w hw; rfl); rfl; (intro w hw; rfl); rfl; (intro w hw; rfl); rfl; (intro w hw; rfl); rfl; rfl; rfl; intro sv) | (apply px_lit5 ez_int; rfl; rfl; rfl; rfl; rfl; rfl; rfl; rfl; rfl; rfl; rfl; rfl; rfl; intro sv) | (apply px_alloc st_G; rfl; rfl; rfl; intro bk) | (apply px_store_str 0 st_G; rfl; rfl; rfl; rfl; rfl; (intro w hw; (first | refine all2 rfl ?_ ?_) <;> (first | rfl | assumption)); rfl) | (apply px_store_str 3 st_G; rfl; rfl; rfl; rfl; rfl; (intro w hw; (first | refine all2 rfl ?_ ?_) <;> (first | rfl | assumption)); rfl) | (apply px_store_str 4 st_G; rfl; rfl; rfl; rfl; rfl; (intro w hw; (first | refine all2 rfl ?_ ?_) <;> (first | rfl | assumption)); rfl) | (apply px_store_blk 2; (first | with_reducible exact co_int); rfl; rfl; rfl; (intro w hw; (first | rfl)); rfl; rfl) | (apply px_store_int 3 co_int; rfl; rfl; rfl; (first | (simp; omega)); rfl))
  all_goals first
    | (refine qbody_cell 0 rfl st_G rfl rfl rfl ⟨_, ⟨_, gv, _, ci, ch, ?_, ?_, hgv, rfl, hi, rfl⟩, fun w' hw => (by have h := hw; exact Cl.ofSel (by assumption) (by repeat (first | exact sel_nil | refine sel_cons 0 rfl ?_ | refine sel_cons 1 rfl ?_ | refine sel_cons 2 rfl ?_ | refine sel_cons 3 rfl ?_ | refine sel_cons 4 rfl ?_ | refine sel_cons 5 rfl ?_ | refine sel_cons 6 rfl ?_ | refine sel_cons 7 rfl ?_ | refine sel_cons 8 rfl ?_ | refine sel_cons 9 rfl ?_ | refine sel_cons 10 rfl ?_ | refine sel_cons 11 rfl ?_ | refine sel_cons 12 rfl ?_ | refine sel_cons 13 rfl ?_)))⟩
       · first | omega | exact hm4 _ hy
       · first | exact hlenG n P hn | (rw [List.length_set]; exact hlenG n P hn))
    | (refine qbody_cell 1 rfl st_G rfl rfl rfl ⟨_, ⟨_, gv, _, ci, ch, ?_, ?_, hgv, rfl, hi, rfl⟩, fun w' hw => (by have h := hw; exact Cl.ofSel (by assumption) (by repeat (first | exact sel_nil | refine sel_cons 0 rfl ?_ | refine sel_cons 1 rfl ?_ | refine sel_cons 2 rfl ?_ | refine sel_cons 3 rfl ?_ | refine sel_cons 4 rfl ?_ | refine sel_cons 5 rfl ?_ | refine sel_cons 6 rfl ?_ | refine sel_cons 7 rfl ?_ | refine sel_cons 8 rfl ?_ | refine sel_cons 9 rfl ?_ | refine sel_cons 10 rfl ?_ | refine sel_cons 11 rfl ?_ | refine sel_cons 12 rfl ?_ | refine sel_cons 13 rfl ?_)))⟩
       · first | omega | exact hm4 _ hy
       · first | exact hlenG n P hn | (rw [List.length_set]; exact hlenG n P hn))
    | (refine qbody_cell 2 rfl st_G rfl rfl rfl ⟨_, ⟨_, gv, _, ci, ch, ?_, ?_, hgv, rfl, hi, rfl⟩, fun w' hw => (by have h := hw; exact Cl.ofSel (by assumption) (by repeat (first | exact sel_nil | refine sel_cons 0 rfl ?_ | refine sel_cons 1 rfl ?_ | refine sel_cons 2 rfl ?_ | refine sel_cons 3 rfl ?_ | refine sel_cons 4 rfl ?_ | refine sel_cons 5 rfl ?_ | refine sel_cons 6 rfl ?_ | refine sel_cons 7 rfl ?_ | refine sel_cons 8 rfl ?_ | refine sel_cons 9 rfl ?_ | refine sel_cons 10 rfl ?_ | refine sel_cons 11 rfl ?_ | refine sel_cons 12 rfl ?_ | refine sel_cons 13 rfl ?_)))⟩
       · first | omega | exact hm4 _ hy
       · first | exact hlenG n P hn | (rw [List.length_set]; exact hlenG n P hn))
    | (refine qbody_cell 3 rfl st_G rfl rfl rfl ⟨_, ⟨_, gv, _, ci, ch, ?_, ?_, hgv, rfl, hi, rfl⟩, fun w' hw => (by have h := hw; exact Cl.ofSel (by assumption) (by repeat (first | exact sel_nil | refine sel_cons 0 rfl ?_ | refine sel_cons 1 rfl ?_ | refine sel_cons 2 rfl ?_ | refine sel_cons 3 rfl ?_ | refine sel_cons 4 rfl ?_ | refine sel_cons 5 rfl ?_ | refine sel_cons 6 rfl ?_ | refine sel_cons 7 rfl ?_ | refine sel_cons 8 rfl ?_ | refine sel_cons 9 rfl ?_ | refine sel_cons 10 rfl ?_ | refine sel_cons 11 rfl ?_ | refine sel_cons 12 rfl ?_ | refine sel_cons 13 rfl ?_)))⟩
       · first | omega | exact hm4 _ hy
       · first | exact hlenG n P hn | (rw [List.length_set]; exact hlenG n P hn))
    | (refine qbody_cell 4 rfl st_G rfl rfl rfl ⟨_, ⟨_, gv, _, ci, ch, ?_, ?_, hgv, rfl, hi, rfl⟩, fun w' hw => (by have h := hw; exact Cl.ofSel (by assumption) (by repeat (first | exact sel_nil | refine sel_cons 0 rfl ?_ | refine sel_cons 1 rfl ?_ | refine sel_cons 2 rfl ?_ | refine sel_cons 3 rfl ?_ | refine sel_cons 4 rfl ?_ | refine sel_cons 5 rfl ?_ | refine sel_cons 6 rfl ?_ | refine sel_cons 7 rfl ?_ | refine sel_cons 8 rfl ?_ | refine sel_cons 9 rfl ?_ | refine sel_cons 10 rfl ?_ | refine sel_cons 11 rfl ?_ | refine sel_cons 12 rfl ?_ | refine sel_cons 13 rfl ?_)))⟩
       · first | omega | exact hm4 _ hy
       · first | exact hlenG n P hn | (rw [List.length_set]; exact hlenG n P hn))
    | (refine qbody_cell 5 rfl st_G rfl rfl rfl ⟨_, ⟨_, gv, _, ci, ch, ?_, ?_, hgv, rfl, hi, rfl⟩, fun w' hw => (by have h := hw; exact Cl.ofSel (by assumption) (by repeat (first | exact sel_nil | refine sel_cons 0 rfl ?_ | refine sel_cons 1 rfl ?_ | refine sel_cons 2 rfl ?_ | refine sel_cons 3 rfl ?_ | refine sel_cons 4 rfl ?_ | refine sel_cons 5 rfl ?_ | refine sel_cons 6 rfl ?_ | refine sel_cons 7 rfl ?_ | refine sel_cons 8 rfl ?_ | refine sel_cons 9 rfl ?_ | refine sel_cons 10 rfl ?_ | refine sel_cons 11 rfl ?_ | refine sel_cons 12 rfl ?_ | refine sel_cons 13 rfl ?_)))⟩
       · first | omega | exact hm4 _ hy
       · first | exact hlenG n P hn | (rw [List.length_set]; exact hlenG n P hn))
    | (refine qbody_cell 6 rfl st_G rfl rfl rfl ⟨_, ⟨_, gv, _, ci, ch, ?_, ?_, hgv, rfl, hi, rfl⟩, fun w' hw => (by have h := hw; exact Cl.ofSel (by assumption) (by repeat (first | exact sel_nil | refine sel_cons 0 rfl ?_ | refine sel_cons 1 rfl ?_ | refine sel_cons 2 rfl ?_ | refine sel_cons 3 rfl ?_ | refine sel_cons 4 rfl ?_ | refine sel_cons 5 rfl ?_ | refine sel_cons 6 rfl ?_ | refine sel_cons 7 rfl ?_ | refine sel_cons 8 rfl ?_ | refine sel_cons 9 rfl ?_ | refine sel_cons 10 rfl ?_ | refine sel_cons 11 rfl ?_ | refine sel_cons 12 rfl ?_ | refine sel_cons 13 rfl ?_)))⟩
       · first | omega | exact hm4 _ hy
       · first | exact hlenG n P hn | (rw [List.length_set]; exact hlenG n P hn))
theorem en_s_l3Set : Entry Tryz.prog 50 := ⟨_, Tryz.func50, by kernel_rfl, rfl⟩
set_option maxHeartbeats 1600000 in
theorem s_l3Set_c (cv gv : Value) (l : List Int) (cb : Nat) (i h n : Int) (w : World) (hcp : CodeP w cv l) (hi : 0 ≤ i ∧ i ≤ (l.length : Int)) (ho : Own w [.blk cb (cells3 cv i h)]) :
    GivesU Tryz.prog 50 #[.pointer (some ⟨cb, 0, none⟩), .agg #[.int .i64 n, gv]] w [.blk cb (cells3 cv i h)] (fun v new => ∃ x, v = .int .i64 x ∧ CurP cv l cb new) := by
  have hap := code_apart hcp ho
  refine givesU_enterX (X := [cb]) (args := [_, _]) rfl ho en_s_l3Set Tryz.func50 rfl Tryz.ntmps50 rfl ?_
  have hmx : 0 ≤ max 0 (min 7 n) := by omega
  repeat' (first | apply pwp_seq | apply pwp_region | (apply px_run; (first | (apply opv_max; rfl; rfl) | (apply opv_min; rfl; rfl) | (apply opv_shl; rfl; rfl; exact hmx) | (apply opv_move; first | exact hid_ptr rfl) | (apply opv_assign; first | exact hid_int rfl) | (apply opv_field fld_G0; rfl) | (apply opv_load_blk 1; (first | with_reducible exact sc_int); rfl; rfl; rfl)); rfl; rfl) | apply px_nil | apply qseq_normal | apply qseq_ret | apply pwp_skip | apply pwp_ret | (apply pwp_cond; rfl; all_goals (intro hc; try (first | fail))) | (apply px_box; rfl; rfl; rfl; rfl; intro bk) | (apply px_givesV [1]; rfl; rfl; rfl; rfl; rfl; (exact fun w' hw ho' => s_l1Once_c cv l cb _ _ _ w' (hcp.at hap hw) (by assumption) ho'); rintro _ _ ⟨b, rfl, ⟨ci, ch, hi, rfl⟩⟩) | (apply px_givesV [0]; rfl; rfl; rfl; rfl; rfl; (exact fun w' hw ho' => s_l1Below_c cv l cb _ _ _ w' (hcp.at hap hw) (by assumption) ho'); rintro _ _ ⟨x, hx, rfl, ⟨ci, ch, hi, rfl⟩⟩) | (apply px_givesV [1]; rfl; rfl; rfl; rfl; rfl; (exact fun w' hw ho' => s_l1PickInt_c cv _ l [-1, 64, 127, 128, 9223372036854775807] cb _ _ w' (hcp.at hap hw) (by assumption) ho' (hw.rowArr (k := 0) rfl) (hw.rowNe 0 0 rfl rfl) (by decide)); rintro _ _ ⟨y, hy, rfl, ⟨ci, ch, hi, rfl⟩⟩) | (apply px_lit5 ez_int; rfl; rfl; rfl; rfl; rfl; rfl; rfl; rfl; rfl; rfl; rfl; rfl; rfl; intro sv))
  · refine qbody_ret1 (v := .int _ _) rfl rfl ⟨_, ⟨_, rfl, ⟨ci, ch, hi, rfl⟩⟩, fun w' hw => (by have h := hw; exact Cl.ofSel (by assumption) (by repeat (first | exact sel_nil | refine sel_cons 0 rfl ?_ | refine sel_cons 1 rfl ?_ | refine sel_cons 2 rfl ?_ | refine sel_cons 3 rfl ?_ | refine sel_cons 4 rfl ?_ | refine sel_cons 5 rfl ?_ | refine sel_cons 6 rfl ?_ | refine sel_cons 7 rfl ?_ | refine sel_cons 8 rfl ?_ | refine sel_cons 9 rfl ?_ | refine sel_cons 10 rfl ?_ | refine sel_cons 11 rfl ?_ | refine sel_cons 12 rfl ?_ | refine sel_cons 13 rfl ?_)))⟩
  · refine qbody_ret1 (v := .int _ _) rfl rfl ⟨_, ⟨_, rfl, ⟨ci, ch, hi, rfl⟩⟩, fun w' hw => (by have h := hw; exact Cl.ofSel (by assumption) (by repeat (first | exact sel_nil | refine sel_cons 0 rfl ?_ | refine sel_cons 1 rfl ?_ | refine sel_cons 2 rfl ?_ | refine sel_cons 3 rfl ?_ | refine sel_cons 4 rfl ?_ | refine sel_cons 5 rfl ?_ | refine sel_cons 6 rfl ?_ | refine sel_cons 7 rfl ?_ | refine sel_cons 8 rfl ?_ | refine sel_cons 9 rfl ?_ | refine sel_cons 10 rfl ?_ | refine sel_cons 11 rfl ?_ | refine sel_cons 12 rfl ?_ | refine sel_cons 13 rfl ?_)))⟩
/-- Some graph that a draw hands back. -/
def DrG (n : Int) (gv : Value) (rows : List Int) : Prop := (-1 ≤ n ∧ n ≤ 8) ∧ (1 ≤ rows.length ∧ rows.length ≤ 7) ∧ storable gv = true
theorem nox {cv : Value} {l : List Int} : ∀ b off n c, cv = .slice (some ⟨b, off, none⟩) n c → b ∈ ([] : List Nat) → byts l = [] := fun _ _ _ _ _ h => absurd h List.not_mem_nil
end Go.Proofs.YtcicdnpmlcjcmaaGreat
/- The plain mathematics of threshold orders. -/
namespace Go.Pw
open Go

/-- May a vertex be taken from those left? -/
def thrQ (rows : List Int) (left : Int) (v : Nat) : Prop := hasB left v = true ∧ (iand (rows.getD v 0) left = 0 ∨ iand (rows.getD v 0) left = left - ishl 1 v)
instance (rows : List Int) (left : Int) (v : Nat) : Decidable (thrQ rows left v) := by unfold thrQ; infer_instance
/-- The greatest one below k, -1 if there is none. -/
def bestU (rows : List Int) (left : Int) : Nat → Int
  | 0 => -1
  | k + 1 => if thrQ rows left k then k else bestU rows left k
theorem bestU_range (rows : List Int) (left : Int) : ∀ k : Nat, -1 ≤ bestU rows left k ∧ bestU rows left k < k ∧ (0 ≤ bestU rows left k → thrQ rows left (bestU rows left k).toNat)
  | 0 => ⟨by simp [bestU], by simp [bestU], fun h => by simp [bestU] at h⟩
  | k + 1 => by
    obtain ⟨h1, h2, h3⟩ := bestU_range rows left k
    unfold bestU
    split
    · next h => exact ⟨by omega, by omega, fun _ => by rw [Int.toNat_natCast]; exact h⟩
    · exact ⟨h1, by omega, h3⟩
/-- The same over a list of vertices. -/
def bestL (rows : List Int) (left : Int) (l : List Int) : Int := l.foldl (fun b x => if thrQ rows left x.toNat then x else b) (-1)
theorem bestL_snoc (rows : List Int) (left : Int) (l : List Int) (x : Int) : bestL rows left (l ++ [x]) = if thrQ rows left x.toNat then x else bestL rows left l := by simp [bestL]
theorem bestL_listU (rows : List Int) (left : Int) : ∀ k : Nat, bestL rows left (listU left k) = bestU rows left k
  | 0 => rfl
  | k + 1 => by
    rw [listU_succ]
    split
    · rw [bestL_snoc, bestL_listU rows left k]; rfl
    · next h =>
      rw [bestL_listU rows left k, show bestU rows left (k + 1) = if thrQ rows left k then (k : Int) else bestU rows left k from rfl, if_neg (fun hq => h hq.1)]
/-- The program's condition on a vertex of those left. -/
theorem thr_iff {size : Int} {rows : List Int} {left : Int} (hg : IsG size rows) (hl : 0 ≤ left ∧ left < ishl 1 size) {v : Nat} (hv : hasB left v = true) (hvr : v < rows.length) :
    (iand (rows.getD v 0) left = 0 ∨ ior (iand (rows.getD v 0) left) (ishl 1 v) = left) ↔ thrQ rows left v := by
  obtain ⟨n, hn, hrl, _, hn7⟩ := isG_size hg
  obtain ⟨S, rfl, hS, hS'⟩ := set_nat hn hn7 hl
  obtain ⟨R, h1, h2, h3⟩ := row_nat hg hn v
  have hb := hv
  rw [hasB_nat (by omega) (by omega)] at hb
  have hno := (hg.2.2.1 v hvr).2
  rw [h1, hasB_nat (by omega) (by omega)] at hno
  have h4 := add_pow_nat ⟨v, by omega⟩ ⟨R &&& S, Nat.lt_of_le_of_lt Nat.and_le_left h3⟩ (by dsimp only; rw [Nat.testBit_and, hno]; rfl)
  dsimp only at h4
  have h5 : R &&& S ≤ S := Nat.and_le_right
  have h6 : 2 ^ v < 2 ^ 7 := Nat.pow_lt_pow_right (by omega) (by omega)
  unfold thrQ
  rw [h1, iand_nat (by omega) (by omega), ishl_one_nat (by omega), ior_nat (by omega) (by omega)]
  have e1 : (((R &&& S ||| 2 ^ v : Nat) : Int) = S) ↔ (R &&& S) + 2 ^ v = S := by rw [← h4]; omega
  have e2 : (((R &&& S : Nat) : Int) = (S : Int) - ((2 ^ v : Nat) : Int)) ↔ (R &&& S) + 2 ^ v = S := by omega
  rw [e1, e2]
  exact ⟨fun h => ⟨hv, h⟩, fun h => h.2⟩
/-- The rounds: what is left, the order and the joins so far. -/
def thrR (rows : List Int) : Nat → Int → List Int → List Bool → Option (List Int × List Bool)
  | 0, _, _, _ => none
  | f + 1, left, o, j => if left = 0 then some (o, j) else
    if bestU rows left 7 < 0 then none else
    thrR rows f (left - ishl 1 (bestU rows left 7)) (o ++ [bestU rows left 7]) (j ++ [decide (¬ iand (rows.getD (bestU rows left 7).toNat 0) left = 0)])
def thrX (size : Int) (rows : List Int) : Option (List Int × List Bool) := if IsG size rows then thrR rows 129 (ishl 1 size - 1) [] [] else none
theorem bit_sub : ∀ l : Fin 128, ∀ v : Fin 7, l.val.testBit v.val = true → l.val ^^^ (l.val &&& 2 ^ v.val) = l.val - 2 ^ v.val ∧ 2 ^ v.val ≤ l.val := by decide +kernel
/-- A member taken away. -/
theorem take_bit {size : Int} {rows : List Int} {left : Int} (hg : IsG size rows) (hl : 0 ≤ left ∧ left < ishl 1 size) {v : Nat} (hv : hasB left v = true) (hv7 : v < 7) :
    iandnot left (ishl 1 v) = left - ishl 1 v ∧ 1 ≤ ishl 1 v ∧ ishl 1 v ≤ left := by
  obtain ⟨n, hn, hrl, _, hn7⟩ := isG_size hg
  obtain ⟨S, rfl, hS, hS'⟩ := set_nat hn hn7 hl
  rw [hasB_nat (by omega) (by omega)] at hv
  obtain ⟨h1, h2⟩ := bit_sub ⟨S, hS'⟩ ⟨v, hv7⟩ hv
  dsimp only at h1 h2
  have h3 : 0 < 2 ^ v := Nat.pow_pos (by omega)
  rw [ishl_one_nat (by omega), iandnot_nat (by omega), h1]
  omega
theorem thrX_none {size : Int} {rows : List Int} (h : ¬ IsG size rows) : thrX size rows = none := by unfold thrX; rw [if_neg h]
theorem thrX_some {size : Int} {rows : List Int} (h : IsG size rows) : thrX size rows = thrR rows 129 (ishl 1 size - 1) [] [] := by unfold thrX; rw [if_pos h]
theorem thrR_done (rows : List Int) (f : Nat) (o : List Int) (j : List Bool) : thrR rows (f + 1) 0 o j = some (o, j) := by unfold thrR; rw [if_pos rfl]
theorem thrR_stop {rows : List Int} {f : Nat} {left : Int} {o : List Int} {j : List Bool} (h : ¬ left = 0) (hb : bestU rows left 7 < 0) : thrR rows (f + 1) left o j = none := by unfold thrR; rw [if_neg h, if_pos hb]
theorem thrR_next {rows : List Int} {f : Nat} {left : Int} {o : List Int} {j : List Bool} (h : ¬ left = 0) (hb : ¬ bestU rows left 7 < 0) :
    thrR rows (f + 1) left o j = thrR rows f (left - ishl 1 (bestU rows left 7)) (o ++ [bestU rows left 7]) (j ++ [decide (¬ iand (rows.getD (bestU rows left 7).toNat 0) left = 0)]) := by
  rw [thrR, if_neg h, if_neg hb]
/-- The order and the joins, the last taken first. -/
def thrO (size : Int) (rows : List Int) : List Int := ((thrX size rows).map fun p => p.1.reverse).getD []
def thrJ (size : Int) (rows : List Int) : List Bool := ((thrX size rows).map fun p => p.2.reverse).getD []
theorem thrO_none {size : Int} {rows : List Int} (h : thrX size rows = none) : thrO size rows = [] := by unfold thrO; rw [h]; rfl
theorem thrJ_none {size : Int} {rows : List Int} (h : thrX size rows = none) : thrJ size rows = [] := by unfold thrJ; rw [h]; rfl
theorem thrO_some {size : Int} {rows o : List Int} {j : List Bool} (h : thrX size rows = some (o, j)) : thrO size rows = o.reverse := by unfold thrO; rw [h]; rfl
theorem thrJ_some {size : Int} {rows o : List Int} {j : List Bool} (h : thrX size rows = some (o, j)) : thrJ size rows = j.reverse := by unfold thrJ; rw [h]; rfl
theorem bestU_top {rows : List Int} {left : Int} {n : Nat} (h : ∀ v : Nat, n ≤ v → v < 7 → hasB left v = false) : ∀ m : Nat, n ≤ m → m ≤ 7 → bestU rows left m = bestU rows left n
  | 0, h1, _ => by obtain rfl : n = 0 := by omega
                   rfl
  | m + 1, h1, h2 => by
    by_cases hmn : n = m + 1
    · rw [hmn]
    · rw [← bestU_top h m (by omega) (by omega), show bestU rows left (m + 1) = if thrQ rows left m then (m : Int) else bestU rows left m from rfl, if_neg (fun hq => by have := hq.1; rw [h m (by omega) (by omega)] at this; cases this)]
def allU (rows : List Int) (left : Int) : Nat → Bool
  | 0 => false
  | k + 1 => if thrQ rows left k then decide (¬ iand (rows.getD k 0) left = 0) else allU rows left k
theorem allU_best (rows : List Int) (left : Int) : ∀ k : Nat, 0 ≤ bestU rows left k → allU rows left k = decide (¬ iand (rows.getD (bestU rows left k).toNat 0) left = 0)
  | 0, h => by simp [bestU] at h
  | k + 1, h => by
    unfold allU
    rw [show bestU rows left (k + 1) = if thrQ rows left k then (k : Int) else bestU rows left k from rfl] at h ⊢
    by_cases hq : thrQ rows left k
    · rw [if_pos hq, if_pos hq]; rfl
    · rw [if_neg hq, if_neg hq]
      rw [if_neg hq] at h
      exact allU_best rows left k h
theorem hasB_top {left : Int} {n v : Nat} (hn7 : n ≤ 7) (hl : 0 ≤ left ∧ left < ishl 1 n) (h1 : n ≤ v) (h2 : v < 7) : hasB left v = false := by
  obtain ⟨S, rfl, hS, hS'⟩ := set_nat (size := n) rfl hn7 hl
  rw [hasB_nat (by omega) (by omega)]
  cases h : S.testBit v with
  | false => rfl
  | true => have := has_lt hS h; omega
theorem thrR_length (rows : List Int) : ∀ (f : Nat) (left : Int) (o : List Int) (j : List Bool) (o' : List Int) (j' : List Bool), thrR rows f left o j = some (o', j') → o'.length ≤ o.length + f ∧ j'.length ≤ j.length + f
  | 0, _, _, _, _, _, h => by simp [thrR] at h
  | f + 1, left, o, j, o', j', h => by
    by_cases h0 : left = 0
    · subst h0
      rw [thrR_done] at h
      have h := Option.some.inj h
      have h1 := congrArg Prod.fst h
      have h2 := congrArg Prod.snd h
      dsimp only at h1 h2
      subst h1 h2
      omega
    · by_cases hb : bestU rows left 7 < 0
      · rw [thrR_stop h0 hb] at h; cases h
      · rw [thrR_next h0 hb] at h
        have := thrR_length rows f _ _ _ _ _ h
        simp at this
        omega
theorem thr_lengths (size : Int) (rows : List Int) : (thrO size rows).length ≤ 129 ∧ (thrJ size rows).length ≤ 129 := by
  cases h : thrX size rows with
  | none => rw [thrO_none h, thrJ_none h]; simp
  | some p =>
    obtain ⟨o, j⟩ := p
    rw [thrO_some h, thrJ_some h]
    by_cases hg : IsG size rows
    · rw [thrX_some hg] at h
      have := thrR_length rows _ _ _ _ _ _ h
      simp at this ⊢
      exact this
    · rw [thrX_none hg] at h; cases h
end Go.Pw
/- The plain mathematics of threshold weights. -/
namespace Go.Pw
open Go

theorem thrR_inv {size : Int} {rows : List Int} {n : Nat} (hg : IsG size rows) (hn : size = n) : ∀ (f S : Nat) (o : List Int) (j : List Bool) (o' : List Int) (j' : List Bool), S < 2 ^ n → (∀ x ∈ o, 0 ≤ x ∧ x < n ∧ S.testBit x.toNat = false) → o.Nodup → o.length = j.length →
    thrR rows f (S : Int) o j = some (o', j') → (∀ x ∈ o', 0 ≤ x ∧ x < n) ∧ o'.Nodup ∧ o'.length = j'.length
  | 0, _, _, _, _, _, _, _, _, _, h => by simp [thrR] at h
  | f + 1, S, o, j, o', j', hS, ho, hd, hl, h => by
    have hng := ng_of hg hn
    have h7 := pow_le7 hng.le
    have hn7 := hng.le
    by_cases h0 : (S : Int) = 0
    · rw [h0, thrR_done] at h
      have h := Option.some.inj h
      have h1 := congrArg Prod.fst h
      have h2 := congrArg Prod.snd h
      dsimp only at h1 h2
      subst h1 h2
      exact ⟨fun x hx => ⟨(ho x hx).1, (ho x hx).2.1⟩, hd, hl⟩
    · by_cases hb : bestU rows (S : Int) 7 < 0
      · rw [thrR_stop h0 hb] at h; cases h
      · rw [thrR_next h0 hb] at h
        obtain ⟨b1, b2, b3⟩ := bestU_range rows (S : Int) 7
        obtain ⟨v, hv⟩ := Int.eq_ofNat_of_zero_le (show 0 ≤ bestU rows (S : Int) 7 by omega)
        rw [hv] at h b2 b3
        have hq := (b3 (by omega)).1
        rw [Int.toNat_natCast, hasB_nat (by omega) (by omega)] at hq
        have hvn := has_lt hS hq
        have hps := pow_sub hq
        have hle := sub_le hps
        have e : (S : Int) - ishl 1 (v : Int) = ((S - 2 ^ v : Nat) : Int) := by rw [ishl_one_nat (by omega)]; omega
        rw [e] at h
        refine thrR_inv hg hn f (S - 2 ^ v) _ _ _ _ (Nat.lt_of_le_of_lt (Nat.sub_le _ _) hS) (fun x hx => ?_) ?_ (by simp [hl]) h
        · rcases List.mem_append.1 hx with hx | hx
          · obtain ⟨x1, x2, x3⟩ := ho x hx
            refine ⟨x1, x2, ?_⟩
            rw [sub_bit (by omega) hps, x3]; rfl
          · have := List.mem_singleton.1 hx
            subst this
            refine ⟨by omega, by omega, ?_⟩
            rw [sub_bit (by omega) hps, Int.toNat_natCast, Nat.testBit_two_pow]; simp
        · refine List.nodup_append.2 ⟨hd, by simp, fun x hx y hy => ?_⟩
          have := List.mem_singleton.1 hy
          subst this
          intro e
          have h3 := (ho x hx).2.2
          rw [e, Int.toNat_natCast, hq] at h3
          cases h3
/-- A threshold order has each vertex at most once. -/
theorem thr_order {size : Int} {rows : List Int} {n : Nat} (hg : IsG size rows) (hn : size = n) {p : List Int × List Bool} (h : thrX size rows = some p) :
    (∀ i, i < (thrO size rows).length → 0 ≤ (thrO size rows).getD i 0 ∧ (thrO size rows).getD i 0 < n) ∧ (∀ i, i < (thrO size rows).length → ∀ k, k < i → (thrO size rows).getD k 0 ≠ (thrO size rows).getD i 0) ∧ (thrO size rows).length = (thrJ size rows).length := by
  obtain ⟨o, j⟩ := p
  have hpos : 0 < 2 ^ n := Nat.pow_pos (by omega)
  have hng := ng_of hg hn
  have hX := h
  rw [thrX_some hg] at hX
  have e : ishl 1 size - 1 = ((2 ^ n - 1 : Nat) : Int) := by rw [hn, ishl_one_nat (by have := hng.le; omega)]; omega
  rw [e] at hX
  obtain ⟨h1, h2, h3⟩ := thrR_inv hg hn 129 (2 ^ n - 1) [] [] o j (by omega) (fun x hx => by cases hx) (by simp) rfl hX
  rw [thrO_some h, thrJ_some h]
  refine ⟨fun i hi => ?_, fun i hi k hk => ?_, by simp [h3]⟩
  · exact h1 _ (List.mem_reverse.1 (getD_mem hi))
  · have hd : o.reverse.Pairwise (fun a b => a ≠ b) := List.pairwise_reverse.2 (h2.imp fun h e => h e.symm)
    have hk' : k < o.reverse.length := by omega
    have := List.pairwise_iff_getElem.1 hd k i hk' hi hk
    rw [show o.reverse.getD k 0 = o.reverse[k] from by simp only [List.getD]; rw [List.getElem?_eq_getElem hk']; rfl, show o.reverse.getD i 0 = o.reverse[i] from by simp only [List.getD]; rw [List.getElem?_eq_getElem hi]; rfl]
    exact this

/-- One more for the first k of an order. -/
def incU (o w : List Int) : Nat → List Int
  | 0 => w
  | k + 1 => (incU o w k).set (o.getD k 0).toNat ((incU o w k).getD (o.getD k 0).toNat 0 + 1)
@[simp] theorem incU_length (o w : List Int) : ∀ k, (incU o w k).length = w.length
  | 0 => rfl
  | k + 1 => by rw [incU, List.length_set, incU_length o w k]
theorem getD_set_int (l : List Int) (i k : Nat) (x : Int) : (l.set i x).getD k 0 = if k = i ∧ i < l.length then x else l.getD k 0 := by
  simp only [List.getD, List.getElem?_set]
  by_cases h : i = k
  · subst h
    by_cases hl : i < l.length
    · simp [hl]
    · simp [hl]
  · rw [if_neg h, if_neg (fun e => h e.1.symm)]
theorem incU_bound (o w : List Int) (B : Int) (hw : ∀ x, 0 ≤ w.getD x 0 ∧ w.getD x 0 ≤ B) : ∀ k x, 0 ≤ (incU o w k).getD x 0 ∧ (incU o w k).getD x 0 ≤ B + k
  | 0, x => by have := hw x; show 0 ≤ w.getD x 0 ∧ w.getD x 0 ≤ B + ((0 : Nat) : Int); omega
  | k + 1, x => by
    have h1 := incU_bound o w B hw k x
    have h2 := incU_bound o w B hw k (o.getD k 0).toNat
    rw [incU, getD_set_int]
    split
    · push_cast; omega
    · push_cast; omega
theorem incU_same (o w : List Int) (x : Nat) : ∀ k, (∀ m, m < k → (o.getD m 0).toNat ≠ x) → (incU o w k).getD x 0 = w.getD x 0
  | 0, _ => rfl
  | k + 1, h => by
    rw [incU, getD_set_int, if_neg (fun e => h k (by omega) e.1.symm)]
    exact incU_same o w x k fun m hm => h m (by omega)
def wtU (n : Nat) (o : List Int) (j : List Bool) : Nat → List Int × Int
  | 0 => (List.replicate n 0, 0)
  | i + 1 => if j.getD i false = true then ((wtU n o j i).1.set (o.getD i 0).toNat ((wtU n o j i).2 + 1), (wtU n o j i).2) else (incU o (wtU n o j i).1 i, (wtU n o j i).2 + 2)
theorem wtU_spec (n : Nat) (o : List Int) (j : List Bool) : ∀ i, (wtU n o j i).1.length = n ∧ (0 ≤ (wtU n o j i).2 ∧ (wtU n o j i).2 ≤ 2 * i) ∧ (∀ x, 0 ≤ (wtU n o j i).1.getD x 0 ∧ (wtU n o j i).1.getD x 0 ≤ 1000 * i * i)
  | 0 => ⟨by simp [wtU], by simp [wtU], fun x => by simp [wtU, List.getD, List.getElem?_replicate]; split <;> simp⟩
  | i + 1 => by
    obtain ⟨h1, h2, h3⟩ := wtU_spec n o j i
    have hq : (1000 : Int) * ((i + 1 : Nat) : Int) * ((i + 1 : Nat) : Int) = 1000 * i * i + 2000 * i + 1000 := by
      push_cast
      rw [Int.mul_assoc, Int.mul_assoc, Int.mul_add, Int.add_mul]
      omega
    unfold wtU
    split
    · refine ⟨by simp [h1], ⟨h2.1, by push_cast; omega⟩, fun x => ?_⟩
      have := h3 x
      rw [getD_set_int]
      split
      · rw [hq]; have := Int.mul_nonneg (show (0 : Int) ≤ 1000 * i by omega) (show (0 : Int) ≤ i by omega); omega
      · rw [hq]; omega
    · refine ⟨by simp [h1], ⟨by omega, by push_cast; omega⟩, fun x => ?_⟩
      have := incU_bound o (wtU n o j i).1 (1000 * i * i) h3 i x
      dsimp only
      rw [hq]; omega
theorem wtU_zero (n : Nat) (o : List Int) (j : List Bool) (x : Nat) : ∀ i, (∀ m, m < i → (o.getD m 0).toNat ≠ x) → (wtU n o j i).1.getD x 0 = 0
  | 0, _ => by simp [wtU, List.getD, List.getElem?_replicate]; split <;> rfl
  | i + 1, h => by
    have ih := wtU_zero n o j x i fun m hm => h m (by omega)
    unfold wtU
    split
    · dsimp only; rw [getD_set_int, if_neg (fun e => h i (by omega) e.1.symm)]; exact ih
    · dsimp only; rw [incU_same _ _ _ _ fun m hm => h m (by omega)]; exact ih
theorem set_same (l : List Int) (i : Nat) (h : l.getD i 0 = 0) (hi : i < l.length) : l.set i 0 = l := by
  apply List.ext_getElem (by simp)
  intro k h1 h2
  rw [List.getElem_set]
  split
  · next e => subst e; simpa [List.getD, hi] using h.symm
  · rfl
def wtW (size : Int) (rows : List Int) : List Int := if (thrX size rows).isSome = true then (wtU size.toNat (thrO size rows) (thrJ size rows) (thrO size rows).length).1 else []
def wtL (size : Int) (rows : List Int) : Int := if (thrX size rows).isSome = true then (wtU size.toNat (thrO size rows) (thrJ size rows) (thrO size rows).length).2 else 0
theorem wtW_length (size : Int) (rows : List Int) : (wtW size rows).length ≤ 7 := by
  unfold wtW
  split
  · next h =>
    have hg : IsG size rows := by
      apply Classical.byContradiction
      intro hg
      rw [thrX_none hg] at h; cases h
    rw [(wtU_spec _ _ _ _).1]
    have := hg.1; omega
  · simp
end Go.Pw
/- A literal of three values. -/
namespace Go.Pw
open Go Go.RowKit
section
variable {P : Program} {E : Env} {n : Nat} {d : Option Tmp} {t ty e : TypeId} {pos : String} {af : Array Edge} {g : Option (Nat × Bool)} {ops l : List Oper} {Q : Post} {X : List Nat} {w0 : World} {objs : List Ob}
theorem px_lit3 {md : Md} {zv : Value} {bytes : Nat} {x0 x1 x2 : Operand} {v0 v1 v2 : Value} (he : ElemZ P t e zv bytes) (h0 : ev E x0 = v0) (s0 : storable v0 = true) (h1 : ev E x1 = v1) (s1 : storable v1 = true) (h2 : ev E x2 = v2) (s2 : storable v2 = true) (hmd : mdOk md (.buildSlice t 3 #[(0, x0), (1, x1), (2, x2)]) = true) (hw : wantE ops E g = true) (hd : okDst d n = true)
    (h : ∀ sv, Px P n ops md l Q (updo E d sv) (Cl X w0 (.row e sv [v0, v1, v2] :: objs))) :
    Px P n ops md (⟨d, .buildSlice t 3 #[(0, x0), (1, x1), (2, x2)], ty, pos, af, g⟩ :: l) Q E (Cl X w0 objs) :=
  px_opN hmd hw hd fun w hC => by
    obtain ⟨i, hi, z1, z2, z3⟩ := info_parts he.info
    have hsz : ∀ w, (sizeOf e).run P w = .ok 1 w := fun w => by simp [sizeOf, typeInfo, hi, z2]
    have hzero : ∀ w, (zeroValue e).run P w = .ok zv w := fun w => by simp [zeroValue, typeInfo, hi, z1]
    have hcell := he.cell
    have c0 := storable_cells s0
    have c1 := storable_cells s1
    have c2 := storable_cells s2
    refine ⟨.slice (some ⟨w.heap.size, 0, Option.none⟩) 3 3, w.alloc (.cells #[v0, v1, v2] e), _, ?_, hC.push (below_alloc w _) (.row e (.slice (some ⟨w.heap.size, 0, Option.none⟩) 3 3) [v0, v1, v2]) (row_lit w e [v0, v1, v2] (by simp)) (fun k hk => by obtain rfl := Option.some.inj hk; exact Nat.le_refl _), fun w hw => hw.sub (List.sublist_cons_self _ _), h _⟩
    simp [execOp, Instr.buildSlice, Instr.fill, run_underlying he.und, hsz, hzero, hcell, newRow, h0, c0, h1, c1, h2, c2]
    rw [show Array.range 3 = #[0, 1, 2] by decide]
    simp
end
section
variable {P : Program} {C : Cls} {n : Nat} {E : Env} {Q : Post}
/-- A mark at a region: the walk stops ahead of it. -/
theorem pwp_here (k : Nat) {ops : List Oper} {d : Bool} (h : Pwp P n (.region k ops.toArray d) Q E C) : Pwp P n (.region k ops.toArray d) Q E C := h
/-- Code that leaves the world as it was, said once. -/
theorem pwp_keep {c : Code} (S : List (Nat × Nat)) (l : List (Nat × Value)) (h1 : Pwp P n c (qjoin S (fun _ : Unit => l) (fun _ => C) (fun _ => True) E) E C)
    (h2 : ∀ J : Env, Q .normal (upds l (junk S J E)) C) : Pwp P n c Q E C := pwp_join S _ _ _ h1 fun J _ _ => h2 J
end
theorem opv_neq_self {P : Program} {C : Cls} {ρ : Operand → Value} {x y : Operand} {t t' ty : TypeId} {d : Option Nat} {pos : String} {af : Array Edge} {g : Option (Nat × Bool)} {a : Bool} (ht : P.underlying t = some .bool) (hx : ρ x = .bool a) (hy : ρ y = .bool a) :
    Opv P C ρ ⟨d, .binOp .neq t x y t', ty, pos, af, g⟩ (.bool false) := by
  have h := opv_neq_bool (P := P) (C := C) (d := d) (t' := t') (ty := ty) (pos := pos) (af := af) (g := g) ht hx hy
  rwa [show (a != a) = false by simp] at h
theorem opv_neq_of {P : Program} {C : Cls} {ρ : Operand → Value} {x y : Operand} {t t' ty : TypeId} {d : Option Nat} {pos : String} {af : Array Edge} {g : Option (Nat × Bool)} {a b : Bool} (ht : P.underlying t = some .bool) (hx : ρ x = .bool a) (hy : ρ y = .bool b) (hab : a = b) :
    Opv P C ρ ⟨d, .binOp .neq t x y t', ty, pos, af, g⟩ (.bool false) := by
  subst hab
  exact opv_neq_self ht hx hy
theorem opv_eql_self {P : Program} {C : Cls} {ρ : Operand → Value} {x y : Operand} {t t' ty : TypeId} {d : Option Nat} {pos : String} {af : Array Edge} {g : Option (Nat × Bool)} {a : Bool} (ht : P.underlying t = some .bool) (hx : ρ x = .bool a) (hy : ρ y = .bool a) :
    Opv P C ρ ⟨d, .binOp .eql t x y t', ty, pos, af, g⟩ (.bool true) := by
  have h := opv_eql_bool (P := P) (C := C) (d := d) (t' := t') (ty := ty) (pos := pos) (af := af) (g := g) ht hx hy
  rwa [show (a == a) = true by simp] at h
theorem opv_eql_of {P : Program} {C : Cls} {ρ : Operand → Value} {x y : Operand} {t t' ty : TypeId} {d : Option Nat} {pos : String} {af : Array Edge} {g : Option (Nat × Bool)} {a b : Bool} (ht : P.underlying t = some .bool) (hx : ρ x = .bool a) (hy : ρ y = .bool b) (hab : a = b) :
    Opv P C ρ ⟨d, .binOp .eql t x y t', ty, pos, af, g⟩ (.bool true) := by
  subst hab
  exact opv_eql_self ht hx hy
end Go.Pw
/- Draws: lists, orders, split graphs and threshold graphs. -/
namespace Go.Proofs.YtcicdnpmlcjcmaaGreat
open Go Go.RowKit Go.Pw
theorem ints_app (a b : List Int) : ints (a ++ b) = ints a ++ ints b := List.map_append ..
theorem bools_app (a b : List Bool) : bools (a ++ b) = bools a ++ bools b := List.map_append ..
/-- Some list beside the cursor. -/
def LstP (cv : Value) (l : List Int) (cb lo hi : Nat) (v : Value) (new : List Ob) : Prop := ∃ L i h, (lo ≤ L.length ∧ L.length ≤ hi) ∧ (0 ≤ i ∧ i ≤ (l.length : Int)) ∧ new = [.row 3 v (ints L), .blk cb (cells3 cv i h)]
/-- Some graph, good or not, beside the cursor. -/
def AnyH (cv : Value) (l : List Int) (cb : Nat) (v : Value) (new : List Ob) : Prop := ∃ n gv rows i h, v = .agg #[.int .i64 n, gv] ∧ (0 ≤ i ∧ i ≤ (l.length : Int)) ∧ new = [.row 3 gv (ints rows), .blk cb (cells3 cv i h)]
theorem en_s_l4List : Entry Tryz.prog 51 := ⟨_, Tryz.func51, by kernel_rfl, rfl⟩
set_option maxHeartbeats 3200000 in
theorem s_l4List_c (cv gv : Value) (l : List Int) (cb : Nat) (i h n : Int) (w : World) (hcp : CodeP w cv l) (hi : 0 ≤ i ∧ i ≤ (l.length : Int)) (ho : Own w [.blk cb (cells3 cv i h)]) :
    GivesU Tryz.prog 51 #[.pointer (some ⟨cb, 0, none⟩), .agg #[.int .i64 n, gv]] w [.blk cb (cells3 cv i h)] (fun v new => LstP cv l cb 0 6 v new) := by
  have hap := code_apart hcp ho
  refine givesU_enterX (X := [cb]) (args := [_, _]) rfl ho en_s_l4List Tryz.func51 rfl Tryz.ntmps51 rfl ?_
  have hm7 : 1 ≤ max 1 (min 7 n) := by omega
  repeat' (first | apply pwp_seq | apply pwp_region | (apply px_run; (first | (apply opv_move; first | exact hid_ptr rfl) | (apply opv_assign; first | exact hid_int rfl | rfl)); rfl; rfl) | apply px_nil | apply qseq_normal | apply pwp_block | (apply px_box; rfl; rfl; rfl; rfl; intro bk) | (apply px_givesV [2]; rfl; rfl; rfl; rfl; rfl; (exact fun w' hw ho' => s_l1Below_c cv l cb _ _ 6 w' (hcp.at hap hw) (by first | assumption) ho'); rintro _ _ ⟨x, hx, rfl, ⟨ci, ch, hi, rfl⟩⟩) | (apply px_lit0 ez_int; rfl; rfl; rfl; intro sv))
  refine pwp_loop (τ := Int × Value × List Int × Int × Int) [(5,6), (10,22)] (fun x => [(5, x.2.1), (6, .int .i64 x.1)]) (fun x => Cl [cb] w [.row 3 x.2.1 (ints x.2.2.1), .blk bk [.int .i64 n, gv], .blk cb (cells3 cv x.2.2.2.1 x.2.2.2.2)])
    (fun x => (0 ≤ x.1 ∧ x.1 + (x.2.2.1.length : Int) ≤ 5) ∧ (0 ≤ x.2.2.2.1 ∧ x.2.2.2.1 ≤ (l.length : Int))) (fun x => x.1.toNat) (x, sv, [], ci, ch)
    ⟨rfl, rfl, trivial⟩ ⟨⟨by dsimp only; omega, by simp; omega⟩, by assumption⟩ (fun w' hw => (by have h := hw; exact Cl.ofSel (by assumption) (by repeat (first | exact sel_nil | refine sel_cons 0 rfl ?_ | refine sel_cons 1 rfl ?_ | refine sel_cons 2 rfl ?_ | refine sel_cons 3 rfl ?_ | refine sel_cons 4 rfl ?_ | refine sel_cons 5 rfl ?_ | refine sel_cons 6 rfl ?_ | refine sel_cons 7 rfl ?_ | refine sel_cons 8 rfl ?_ | refine sel_cons 9 rfl ?_ | refine sel_cons 10 rfl ?_ | refine sel_cons 11 rfl ?_ | refine sel_cons 12 rfl ?_ | refine sel_cons 13 rfl ?_)))) (fun J y hy => ?_)
  obtain ⟨k, lv, L, i2, h2⟩ := y
  obtain ⟨⟨v1, v2⟩, v3⟩ := hy
  dsimp only at v1 v2 v3 ⊢
  by_cases hk : 0 < k
  · repeat' (first | apply pwp_seq | apply pwp_region | (apply px_run; (first | (apply opv_max; rfl; rfl) | (apply opv_min; rfl; rfl) | (apply opv_move; first | exact hid_int rfl | exact hid_ptr rfl | rfl) | (apply opv_assign; first | exact hid_int rfl | rfl) | (apply opv_gtr <;> rfl) | (apply opv_sub_in; rfl; rfl; omega) | (apply opv_field fld_G0; rfl) | (apply opv_load_blk 1; (first | with_reducible exact sc_int); rfl; rfl; rfl)); rfl; rfl) | apply px_nil | apply qseq_normal | apply pwp_block | apply qblock_normal | apply pwp_skip | (apply pwp_cond_dec; rfl; all_goals (intro hc; try (first | contradiction))) | (apply px_givesV [2]; rfl; rfl; rfl; rfl; rfl; (exact fun w' hw ho' => s_l1Below_c cv l cb _ _ _ w' (hcp.at hap hw) (by first | assumption) ho'); rintro _ _ ⟨x, hx, rfl, ⟨ci, ch, hi, rfl⟩⟩) | (apply px_lit1 ez_int; rfl; (intro w hw; (first | rfl)); rfl; rfl; rfl; intro sv) | (apply px_append 2 ez_int; rfl; rfl; rfl; (first | exact rd_row 0 rfl); (first | (intro _ _ u hu; simp at hu; subst hu; rfl)); (simp [ints]; omega); decide; rfl; rfl; intro sv))
    refine qround_normal ?_ ⟨(k - 1, _, L ++ [x], ci, ch), ⟨rfl, rfl, trivial⟩, ⟨⟨by dsimp only; omega, by simp; omega⟩, by assumption⟩, by dsimp only; omega, fun w' hw => (by have h := hw; (try dsimp only); rw [ints_app]; exact Cl.ofSel (by assumption) (by repeat (first | exact sel_nil | refine sel_cons 0 rfl ?_ | refine sel_cons 1 rfl ?_ | refine sel_cons 2 rfl ?_ | refine sel_cons 3 rfl ?_ | refine sel_cons 4 rfl ?_ | refine sel_cons 5 rfl ?_ | refine sel_cons 6 rfl ?_ | refine sel_cons 7 rfl ?_ | refine sel_cons 8 rfl ?_ | refine sel_cons 9 rfl ?_ | refine sel_cons 10 rfl ?_ | refine sel_cons 11 rfl ?_ | refine sel_cons 12 rfl ?_ | refine sel_cons 13 rfl ?_)))⟩
    repeat (first | exact same_refl | refine same_upd rfl ?_ | refine same_junk rfl ?_)
  · repeat' (first | apply pwp_seq | apply pwp_region | (apply px_run; (first | (apply opv_move; first | exact hid_int rfl | exact hid_ptr rfl | rfl) | (apply opv_assign; first | rfl) | (apply opv_gtr <;> rfl)); rfl; rfl) | apply px_nil | apply qseq_normal | apply qseq_exit | (apply qblock_exit_same; rfl) | apply pwp_skip | apply pwp_exit | apply pwp_ret | apply qround_exit | (apply pwp_cond_dec; rfl; all_goals (intro hc; try (first | contradiction))) | (apply pwp_cond; rfl; all_goals (intro hc; try (first | fail))) | (apply px_givesV [2]; rfl; rfl; rfl; rfl; rfl; (exact fun w' hw ho' => s_l1Once_c cv l cb _ _ _ w' (hcp.at hap hw) (by first | assumption) ho'); rintro _ _ ⟨b, rfl, ⟨ci, ch, hi, rfl⟩⟩) | (apply px_lit2 ez_int; rfl; (intro w hw; rfl); rfl; (intro w hw; rfl); rfl; rfl; rfl; intro sv) | (apply px_givesV [1]; rfl; rfl; rfl; rfl; rfl; (exact fun w' hw ho' => s_l1PickInt_c cv _ l [-1, 7] cb _ _ w' (hcp.at hap hw) (by first | assumption) ho' (hw.rowArr (k := 0) rfl) (hw.rowNe 0 0 rfl rfl) (by decide)); rintro _ _ ⟨y, hy, rfl, ⟨ci, ch, hi, rfl⟩⟩) | (apply px_lit1 ez_int; rfl; (intro w hw; (first | rfl)); rfl; rfl; rfl; intro sv) | (apply px_append 3 ez_int; rfl; rfl; rfl; (first | exact rd_row 0 rfl); (first | (intro _ _ u hu; simp at hu; subst hu; rfl)); (simp [ints]; omega); decide; rfl; rfl; intro sv))
    · refine qbody_ret1 rfl rfl ⟨_, ⟨L ++ [y], ci, ch, by simp; omega, by assumption, rfl⟩, fun w' hw => (by have h := hw; (try dsimp only); rw [ints_app]; exact Cl.ofSel (by assumption) (by repeat (first | exact sel_nil | refine sel_cons 0 rfl ?_ | refine sel_cons 1 rfl ?_ | refine sel_cons 2 rfl ?_ | refine sel_cons 3 rfl ?_ | refine sel_cons 4 rfl ?_ | refine sel_cons 5 rfl ?_ | refine sel_cons 6 rfl ?_ | refine sel_cons 7 rfl ?_ | refine sel_cons 8 rfl ?_ | refine sel_cons 9 rfl ?_ | refine sel_cons 10 rfl ?_ | refine sel_cons 11 rfl ?_ | refine sel_cons 12 rfl ?_ | refine sel_cons 13 rfl ?_)))⟩
    · refine qbody_ret1 rfl rfl ⟨_, ⟨L, _, _, by omega, by assumption, rfl⟩, fun w' hw => (by have h := hw; exact Cl.ofSel (by assumption) (by repeat (first | exact sel_nil | refine sel_cons 0 rfl ?_ | refine sel_cons 1 rfl ?_ | refine sel_cons 2 rfl ?_ | refine sel_cons 3 rfl ?_ | refine sel_cons 4 rfl ?_ | refine sel_cons 5 rfl ?_ | refine sel_cons 6 rfl ?_ | refine sel_cons 7 rfl ?_ | refine sel_cons 8 rfl ?_ | refine sel_cons 9 rfl ?_ | refine sel_cons 10 rfl ?_ | refine sel_cons 11 rfl ?_ | refine sel_cons 12 rfl ?_ | refine sel_cons 13 rfl ?_)))⟩
theorem s_AddEdge_g (n : Int) (gv : Value) (rows : List Int) (v u : Nat) (w : World) (hr : Arr w gv (ints rows)) (hg : IsG n rows) (hv : (v : Int) < n) (hu : u < v) :
    Gives Tryz.prog 63 #[.agg #[.int .i64 n, gv], .int .i64 v, .int .i64 u] w (fun x objs => ∃ sv' bb rows', IsG n rows' ∧ storable sv' = true ∧ x = .tuple #[.agg #[.int .i64 n, sv'], .bool bb] ∧ objs = [.row 3 sv' (ints rows')]) := by
  obtain ⟨m, rfl, hrl, h1, h7⟩ := isG_size hg
  have hb := bits_rows hg
  rw [hrl] at hb
  have hs := bits_sym hg
  have hi := bits_irr hg
  generalize bitsP rows = P at *
  subst hb
  have := s_AddEdge3_c m gv P v u w hr h1 h7 hs hi (by omega) (by omega) (by omega)
  refine ⟨this.entry, this.out.mono fun e w' ⟨x, objs, he, ⟨sv', bb, h3, hx, ho⟩, hc⟩ => ⟨x, objs, he, ⟨sv', bb, _, gRows_isG h1 h7 (P := pairAdd P v u) (fun x y => ?_) (fun x => ?_), h3, hx, ho⟩, hc⟩⟩
  · unfold pairAdd
    rw [hs x y]
    congr 1
    rw [Bool.or_comm]
    congr 1 <;> exact decide_eq_decide.2 ⟨fun h => ⟨h.2, h.1⟩, fun h => ⟨h.2, h.1⟩⟩
  · unfold pairAdd
    rw [hi x, Bool.false_or, Bool.or_eq_false_iff]
    exact ⟨decide_eq_false fun h => by omega, decide_eq_false fun h => by omega⟩
theorem s_RemoveEdge_g (n : Int) (gv : Value) (rows : List Int) (v u : Nat) (w : World) (hr : Arr w gv (ints rows)) (hg : IsG n rows) (hv : (v : Int) < n) (hu : u < v) :
    Gives Tryz.prog 64 #[.agg #[.int .i64 n, gv], .int .i64 v, .int .i64 u] w (fun x objs => ∃ sv' bb rows', IsG n rows' ∧ storable sv' = true ∧ x = .tuple #[.agg #[.int .i64 n, sv'], .bool bb] ∧ objs = [.row 3 sv' (ints rows')]) := by
  obtain ⟨m, rfl, hrl, h1, h7⟩ := isG_size hg
  have hb := bits_rows hg
  rw [hrl] at hb
  have hs := bits_sym hg
  have hi := bits_irr hg
  generalize bitsP rows = P at *
  subst hb
  have := s_RemoveEdge_c m gv P v u w hr h1 h7 hs hi (by omega) (by omega) (by omega)
  refine ⟨this.entry, this.out.mono fun e w' ⟨x, objs, he, ⟨sv', hx, ho⟩, hc⟩ => ⟨x, objs, he, ⟨sv', P v u, _, gRows_isG h1 h7 (P := remP P v u) (fun x y => ?_) (fun x => ?_), ?_, hx, ho⟩, hc⟩⟩
  · unfold remP
    rw [hs x y]
    congr 2
    rw [Bool.or_comm]
    congr 1 <;> exact decide_eq_decide.2 ⟨fun h => ⟨h.2, h.1⟩, fun h => ⟨h.2, h.1⟩⟩
  · unfold remP
    rw [hi x, Bool.false_and]
  · subst ho
    exact stor_arr (arr_of_row (hc.holds _ (List.mem_singleton_self _)))
theorem en_s_l18Graph : Entry Tryz.prog 30 := ⟨_, Tryz.func30, by kernel_rfl, rfl⟩
set_option maxHeartbeats 3200000 in
theorem s_l18Graph_c (cv : Value) (l : List Int) (cb : Nat) (i h : Int) (w : World) (hcp : CodeP w cv l) (hi : 0 ≤ i ∧ i ≤ (l.length : Int)) (ho : Own w [.blk cb (cells3 cv i h)]) :
    GivesU Tryz.prog 30 #[.pointer (some ⟨cb, 0, none⟩)] w [.blk cb (cells3 cv i h)] (fun v new => AnyH cv l cb v new) := by
  have hap := code_apart hcp ho
  refine givesU_enterX (X := [cb]) (args := [_]) rfl ho en_s_l18Graph Tryz.func30 rfl Tryz.ntmps30 rfl ?_
  repeat' (first | apply pwp_seq | apply pwp_region | (apply px_run; (first | (apply opv_move; first | exact hid_bool rfl | exact hid_ptr rfl) | (apply opv_assign; first | exact hid_int rfl) | (apply opv_pick_t <;> rfl) | (apply opv_pick_f <;> rfl) | (apply opv_not_dec <;> rfl) | (apply opv_add_in; rfl; rfl; omega) | (apply opv_field fld_G0; rfl) | (apply opv_load_blk 1; (first | with_reducible exact sc_int); rfl; rfl; rfl) | (apply opv_load_str 0 st_G; rfl; rfl; rfl) | (apply opv_load_str 1 st_G; rfl; rfl; rfl) | (apply opv_call; rfl; rfl; exact Cl.stable _ _ _; exact fun w hw => s_IsGraph_c _ _ rows _ (by first | exact hw.rowArr (k := 1) rfl))); rfl; rfl) | apply px_nil | (apply px_skip; rfl; rfl) | apply qseq_normal | apply qseq_ret | apply pwp_block | apply pwp_skip | apply pwp_ret | (apply pwp_cond_t; rfl) | (apply px_guard_ndec; rfl; rfl; rfl; all_goals (intro hc; try (first | fail))) | (apply pwp_cond; rfl; all_goals (intro hc; try (first | fail))) | (apply px_givesV [1]; rfl; rfl; rfl; rfl; rfl; (exact fun w' hw ho' => s_l2Any_c cv l cb _ _ w' (hcp.at hap hw) (by first | assumption) ho'); rintro _ _ ⟨n, gv, rows, ci, ch, hn, hrl, hgv, rfl, hi, rfl⟩) | (apply px_givesV [2]; rfl; rfl; rfl; rfl; rfl; (exact fun w' hw ho' => s_l1Once_c cv l cb _ _ _ w' (hcp.at hap hw) (by first | assumption) ho'); rintro _ _ ⟨b, rfl, ⟨ci, ch, hi, rfl⟩⟩) | (apply px_givesV [0]; rfl; rfl; rfl; rfl; rfl; (exact fun w' hw ho' => s_l1Below_c cv l cb _ _ _ w' (hcp.at hap hw) (by first | assumption) ho'); rintro _ _ ⟨x, hx, rfl, ⟨ci, ch, hi, rfl⟩⟩) | (apply px_alloc st_G; rfl; rfl; rfl; intro bk) | (apply px_store_str 0 st_G; rfl; rfl; rfl; rfl; rfl; (intro w hw; (first | refine all2 rfl ?_ ?_) <;> (first | rfl | assumption)); rfl) | (apply px_store_str 3 st_G; rfl; rfl; rfl; rfl; rfl; (intro w hw; (first | refine all2 rfl ?_ ?_) <;> (first | rfl | assumption)); rfl))
  · first
    | refine qbody_cell 0 rfl st_G rfl rfl rfl ⟨_, ⟨n, gv, rows, ci, ch, rfl, hi, rfl⟩, fun w' hw => (by have h := hw; exact Cl.ofSel (by assumption) (by repeat (first | exact sel_nil | refine sel_cons 0 rfl ?_ | refine sel_cons 1 rfl ?_ | refine sel_cons 2 rfl ?_ | refine sel_cons 3 rfl ?_ | refine sel_cons 4 rfl ?_ | refine sel_cons 5 rfl ?_ | refine sel_cons 6 rfl ?_ | refine sel_cons 7 rfl ?_ | refine sel_cons 8 rfl ?_ | refine sel_cons 9 rfl ?_ | refine sel_cons 10 rfl ?_ | refine sel_cons 11 rfl ?_ | refine sel_cons 12 rfl ?_ | refine sel_cons 13 rfl ?_)))⟩
    | refine qbody_cell 1 rfl st_G rfl rfl rfl ⟨_, ⟨n, gv, rows, ci, ch, rfl, hi, rfl⟩, fun w' hw => (by have h := hw; exact Cl.ofSel (by assumption) (by repeat (first | exact sel_nil | refine sel_cons 0 rfl ?_ | refine sel_cons 1 rfl ?_ | refine sel_cons 2 rfl ?_ | refine sel_cons 3 rfl ?_ | refine sel_cons 4 rfl ?_ | refine sel_cons 5 rfl ?_ | refine sel_cons 6 rfl ?_ | refine sel_cons 7 rfl ?_ | refine sel_cons 8 rfl ?_ | refine sel_cons 9 rfl ?_ | refine sel_cons 10 rfl ?_ | refine sel_cons 11 rfl ?_ | refine sel_cons 12 rfl ?_ | refine sel_cons 13 rfl ?_)))⟩
    | refine qbody_cell 2 rfl st_G rfl rfl rfl ⟨_, ⟨n, gv, rows, ci, ch, rfl, hi, rfl⟩, fun w' hw => (by have h := hw; exact Cl.ofSel (by assumption) (by repeat (first | exact sel_nil | refine sel_cons 0 rfl ?_ | refine sel_cons 1 rfl ?_ | refine sel_cons 2 rfl ?_ | refine sel_cons 3 rfl ?_ | refine sel_cons 4 rfl ?_ | refine sel_cons 5 rfl ?_ | refine sel_cons 6 rfl ?_ | refine sel_cons 7 rfl ?_ | refine sel_cons 8 rfl ?_ | refine sel_cons 9 rfl ?_ | refine sel_cons 10 rfl ?_ | refine sel_cons 11 rfl ?_ | refine sel_cons 12 rfl ?_ | refine sel_cons 13 rfl ?_)))⟩
    | refine qbody_cell 3 rfl st_G rfl rfl rfl ⟨_, ⟨n, gv, rows, ci, ch, rfl, hi, rfl⟩, fun w' hw => (by have h := hw; exact Cl.ofSel (by assumption) (by repeat (first | exact sel_nil | refine sel_cons 0 rfl ?_ | refine sel_cons 1 rfl ?_ | refine sel_cons 2 rfl ?_ | refine sel_cons 3 rfl ?_ | refine sel_cons 4 rfl ?_ | refine sel_cons 5 rfl ?_ | refine sel_cons 6 rfl ?_ | refine sel_cons 7 rfl ?_ | refine sel_cons 8 rfl ?_ | refine sel_cons 9 rfl ?_ | refine sel_cons 10 rfl ?_ | refine sel_cons 11 rfl ?_ | refine sel_cons 12 rfl ?_ | refine sel_cons 13 rfl ?_)))⟩
    | refine qbody_cell 4 rfl st_G rfl rfl rfl ⟨_, ⟨n, gv, rows, ci, ch, rfl, hi, rfl⟩, fun w' hw => (by have h := hw; exact Cl.ofSel (by assumption) (by repeat (first | exact sel_nil | refine sel_cons 0 rfl ?_ | refine sel_cons 1 rfl ?_ | refine sel_cons 2 rfl ?_ | refine sel_cons 3 rfl ?_ | refine sel_cons 4 rfl ?_ | refine sel_cons 5 rfl ?_ | refine sel_cons 6 rfl ?_ | refine sel_cons 7 rfl ?_ | refine sel_cons 8 rfl ?_ | refine sel_cons 9 rfl ?_ | refine sel_cons 10 rfl ?_ | refine sel_cons 11 rfl ?_ | refine sel_cons 12 rfl ?_ | refine sel_cons 13 rfl ?_)))⟩
    | refine qbody_cell 5 rfl st_G rfl rfl rfl ⟨_, ⟨n, gv, rows, ci, ch, rfl, hi, rfl⟩, fun w' hw => (by have h := hw; exact Cl.ofSel (by assumption) (by repeat (first | exact sel_nil | refine sel_cons 0 rfl ?_ | refine sel_cons 1 rfl ?_ | refine sel_cons 2 rfl ?_ | refine sel_cons 3 rfl ?_ | refine sel_cons 4 rfl ?_ | refine sel_cons 5 rfl ?_ | refine sel_cons 6 rfl ?_ | refine sel_cons 7 rfl ?_ | refine sel_cons 8 rfl ?_ | refine sel_cons 9 rfl ?_ | refine sel_cons 10 rfl ?_ | refine sel_cons 11 rfl ?_ | refine sel_cons 12 rfl ?_ | refine sel_cons 13 rfl ?_)))⟩
    | refine qbody_cell 6 rfl st_G rfl rfl rfl ⟨_, ⟨n, gv, rows, ci, ch, rfl, hi, rfl⟩, fun w' hw => (by have h := hw; exact Cl.ofSel (by assumption) (by repeat (first | exact sel_nil | refine sel_cons 0 rfl ?_ | refine sel_cons 1 rfl ?_ | refine sel_cons 2 rfl ?_ | refine sel_cons 3 rfl ?_ | refine sel_cons 4 rfl ?_ | refine sel_cons 5 rfl ?_ | refine sel_cons 6 rfl ?_ | refine sel_cons 7 rfl ?_ | refine sel_cons 8 rfl ?_ | refine sel_cons 9 rfl ?_ | refine sel_cons 10 rfl ?_ | refine sel_cons 11 rfl ?_ | refine sel_cons 12 rfl ?_ | refine sel_cons 13 rfl ?_)))⟩
    | refine qbody_cell 7 rfl st_G rfl rfl rfl ⟨_, ⟨n, gv, rows, ci, ch, rfl, hi, rfl⟩, fun w' hw => (by have h := hw; exact Cl.ofSel (by assumption) (by repeat (first | exact sel_nil | refine sel_cons 0 rfl ?_ | refine sel_cons 1 rfl ?_ | refine sel_cons 2 rfl ?_ | refine sel_cons 3 rfl ?_ | refine sel_cons 4 rfl ?_ | refine sel_cons 5 rfl ?_ | refine sel_cons 6 rfl ?_ | refine sel_cons 7 rfl ?_ | refine sel_cons 8 rfl ?_ | refine sel_cons 9 rfl ?_ | refine sel_cons 10 rfl ?_ | refine sel_cons 11 rfl ?_ | refine sel_cons 12 rfl ?_ | refine sel_cons 13 rfl ?_)))⟩
  · first
    | refine qbody_cell 0 rfl st_G rfl rfl rfl ⟨_, ⟨n, gv, rows, ci, ch, rfl, hi, rfl⟩, fun w' hw => (by have h := hw; exact Cl.ofSel (by assumption) (by repeat (first | exact sel_nil | refine sel_cons 0 rfl ?_ | refine sel_cons 1 rfl ?_ | refine sel_cons 2 rfl ?_ | refine sel_cons 3 rfl ?_ | refine sel_cons 4 rfl ?_ | refine sel_cons 5 rfl ?_ | refine sel_cons 6 rfl ?_ | refine sel_cons 7 rfl ?_ | refine sel_cons 8 rfl ?_ | refine sel_cons 9 rfl ?_ | refine sel_cons 10 rfl ?_ | refine sel_cons 11 rfl ?_ | refine sel_cons 12 rfl ?_ | refine sel_cons 13 rfl ?_)))⟩
    | refine qbody_cell 1 rfl st_G rfl rfl rfl ⟨_, ⟨n, gv, rows, ci, ch, rfl, hi, rfl⟩, fun w' hw => (by have h := hw; exact Cl.ofSel (by assumption) (by repeat (first | exact sel_nil | refine sel_cons 0 rfl ?_ | refine sel_cons 1 rfl ?_ | refine sel_cons 2 rfl ?_ | refine sel_cons 3 rfl ?_ | refine sel_cons 4 rfl ?_ | refine sel_cons 5 rfl ?_ | refine sel_cons 6 rfl ?_ | refine sel_cons 7 rfl ?_ | refine sel_cons 8 rfl ?_ | refine sel_cons 9 rfl ?_ | refine sel_cons 10 rfl ?_ | refine sel_cons 11 rfl ?_ | refine sel_cons 12 rfl ?_ | refine sel_cons 13 rfl ?_)))⟩
    | refine qbody_cell 2 rfl st_G rfl rfl rfl ⟨_, ⟨n, gv, rows, ci, ch, rfl, hi, rfl⟩, fun w' hw => (by have h := hw; exact Cl.ofSel (by assumption) (by repeat (first | exact sel_nil | refine sel_cons 0 rfl ?_ | refine sel_cons 1 rfl ?_ | refine sel_cons 2 rfl ?_ | refine sel_cons 3 rfl ?_ | refine sel_cons 4 rfl ?_ | refine sel_cons 5 rfl ?_ | refine sel_cons 6 rfl ?_ | refine sel_cons 7 rfl ?_ | refine sel_cons 8 rfl ?_ | refine sel_cons 9 rfl ?_ | refine sel_cons 10 rfl ?_ | refine sel_cons 11 rfl ?_ | refine sel_cons 12 rfl ?_ | refine sel_cons 13 rfl ?_)))⟩
    | refine qbody_cell 3 rfl st_G rfl rfl rfl ⟨_, ⟨n, gv, rows, ci, ch, rfl, hi, rfl⟩, fun w' hw => (by have h := hw; exact Cl.ofSel (by assumption) (by repeat (first | exact sel_nil | refine sel_cons 0 rfl ?_ | refine sel_cons 1 rfl ?_ | refine sel_cons 2 rfl ?_ | refine sel_cons 3 rfl ?_ | refine sel_cons 4 rfl ?_ | refine sel_cons 5 rfl ?_ | refine sel_cons 6 rfl ?_ | refine sel_cons 7 rfl ?_ | refine sel_cons 8 rfl ?_ | refine sel_cons 9 rfl ?_ | refine sel_cons 10 rfl ?_ | refine sel_cons 11 rfl ?_ | refine sel_cons 12 rfl ?_ | refine sel_cons 13 rfl ?_)))⟩
    | refine qbody_cell 4 rfl st_G rfl rfl rfl ⟨_, ⟨n, gv, rows, ci, ch, rfl, hi, rfl⟩, fun w' hw => (by have h := hw; exact Cl.ofSel (by assumption) (by repeat (first | exact sel_nil | refine sel_cons 0 rfl ?_ | refine sel_cons 1 rfl ?_ | refine sel_cons 2 rfl ?_ | refine sel_cons 3 rfl ?_ | refine sel_cons 4 rfl ?_ | refine sel_cons 5 rfl ?_ | refine sel_cons 6 rfl ?_ | refine sel_cons 7 rfl ?_ | refine sel_cons 8 rfl ?_ | refine sel_cons 9 rfl ?_ | refine sel_cons 10 rfl ?_ | refine sel_cons 11 rfl ?_ | refine sel_cons 12 rfl ?_ | refine sel_cons 13 rfl ?_)))⟩
    | refine qbody_cell 5 rfl st_G rfl rfl rfl ⟨_, ⟨n, gv, rows, ci, ch, rfl, hi, rfl⟩, fun w' hw => (by have h := hw; exact Cl.ofSel (by assumption) (by repeat (first | exact sel_nil | refine sel_cons 0 rfl ?_ | refine sel_cons 1 rfl ?_ | refine sel_cons 2 rfl ?_ | refine sel_cons 3 rfl ?_ | refine sel_cons 4 rfl ?_ | refine sel_cons 5 rfl ?_ | refine sel_cons 6 rfl ?_ | refine sel_cons 7 rfl ?_ | refine sel_cons 8 rfl ?_ | refine sel_cons 9 rfl ?_ | refine sel_cons 10 rfl ?_ | refine sel_cons 11 rfl ?_ | refine sel_cons 12 rfl ?_ | refine sel_cons 13 rfl ?_)))⟩
    | refine qbody_cell 6 rfl st_G rfl rfl rfl ⟨_, ⟨n, gv, rows, ci, ch, rfl, hi, rfl⟩, fun w' hw => (by have h := hw; exact Cl.ofSel (by assumption) (by repeat (first | exact sel_nil | refine sel_cons 0 rfl ?_ | refine sel_cons 1 rfl ?_ | refine sel_cons 2 rfl ?_ | refine sel_cons 3 rfl ?_ | refine sel_cons 4 rfl ?_ | refine sel_cons 5 rfl ?_ | refine sel_cons 6 rfl ?_ | refine sel_cons 7 rfl ?_ | refine sel_cons 8 rfl ?_ | refine sel_cons 9 rfl ?_ | refine sel_cons 10 rfl ?_ | refine sel_cons 11 rfl ?_ | refine sel_cons 12 rfl ?_ | refine sel_cons 13 rfl ?_)))⟩
    | refine qbody_cell 7 rfl st_G rfl rfl rfl ⟨_, ⟨n, gv, rows, ci, ch, rfl, hi, rfl⟩, fun w' hw => (by have h := hw; exact Cl.ofSel (by assumption) (by repeat (first | exact sel_nil | refine sel_cons 0 rfl ?_ | refine sel_cons 1 rfl ?_ | refine sel_cons 2 rfl ?_ | refine sel_cons 3 rfl ?_ | refine sel_cons 4 rfl ?_ | refine sel_cons 5 rfl ?_ | refine sel_cons 6 rfl ?_ | refine sel_cons 7 rfl ?_ | refine sel_cons 8 rfl ?_ | refine sel_cons 9 rfl ?_ | refine sel_cons 10 rfl ?_ | refine sel_cons 11 rfl ?_ | refine sel_cons 12 rfl ?_ | refine sel_cons 13 rfl ?_)))⟩
  rename_i i0 b2 c1 d1 e1 hgG c2 d2 e2
  refine pwp_loop (τ := Nat × Value × List Int) [(5,6), (22,52)] (fun y => [(5, .int .i64 (y.1 : Nat))]) (fun y => Cl [cb] w [.blk cb (cells3 cv ci ch), .blk bk [.int .i64 n, y.2.1], .row 3 y.2.1 (ints y.2.2), .blk b2 [.int .i64 0, .slice none 0 0]])
    (fun y => (y.1 : Int) ≤ n ∧ IsG n y.2.2 ∧ storable y.2.1 = true) (fun y => n.toNat - y.1) (0, gv, rows)
    ⟨rfl, trivial⟩ ⟨by have := hgG.1; dsimp only; omega, hgG, hgv⟩ (fun w' hw => (by have h := hw; exact Cl.ofSel (by assumption) (by repeat (first | exact sel_nil | refine sel_cons 0 rfl ?_ | refine sel_cons 1 rfl ?_ | refine sel_cons 2 rfl ?_ | refine sel_cons 3 rfl ?_ | refine sel_cons 4 rfl ?_ | refine sel_cons 5 rfl ?_ | refine sel_cons 6 rfl ?_ | refine sel_cons 7 rfl ?_ | refine sel_cons 8 rfl ?_ | refine sel_cons 9 rfl ?_ | refine sel_cons 10 rfl ?_ | refine sel_cons 11 rfl ?_ | refine sel_cons 12 rfl ?_ | refine sel_cons 13 rfl ?_)))) (fun J y hy => ?_)
  obtain ⟨v, g1, r1⟩ := y
  obtain ⟨v1, v2, v3⟩ := hy
  dsimp only at v1 v2 v3 ⊢
  by_cases hvn : (v : Int) < n
  · repeat' (first | apply pwp_seq | apply pwp_region | (apply px_run; (first | (apply opv_move; first | exact hid_int rfl) | (apply opv_assign; first | exact hid_int rfl) | (apply opv_lss <;> rfl) | (apply opv_field fld_G0; rfl) | (apply opv_load_blk 1; (first | with_reducible exact sc_int); rfl; rfl; rfl)); rfl; rfl) | apply px_nil | apply qseq_normal | apply pwp_block | apply pwp_skip | (apply pwp_cond_dec; rfl; all_goals (intro hc; try (first | contradiction))))
    refine pwp_loop (τ := Nat × Value × List Int) [(6,6), (28,52)] (fun y => [(6, .int .i64 (y.1 : Nat))]) (fun y => Cl [cb] w [.blk cb (cells3 cv ci ch), .blk bk [.int .i64 n, y.2.1], .row 3 y.2.1 (ints y.2.2), .blk b2 [.int .i64 0, .slice none 0 0]])
      (fun y => y.1 ≤ v ∧ IsG n y.2.2 ∧ storable y.2.1 = true) (fun y => v - y.1) (0, g1, r1)
      ⟨rfl, trivial⟩ ⟨Nat.zero_le _, v2, v3⟩ (fun w' hw => (by have h := hw; exact Cl.ofSel (by assumption) (by repeat (first | exact sel_nil | refine sel_cons 0 rfl ?_ | refine sel_cons 1 rfl ?_ | refine sel_cons 2 rfl ?_ | refine sel_cons 3 rfl ?_ | refine sel_cons 4 rfl ?_ | refine sel_cons 5 rfl ?_ | refine sel_cons 6 rfl ?_ | refine sel_cons 7 rfl ?_ | refine sel_cons 8 rfl ?_ | refine sel_cons 9 rfl ?_ | refine sel_cons 10 rfl ?_ | refine sel_cons 11 rfl ?_ | refine sel_cons 12 rfl ?_ | refine sel_cons 13 rfl ?_)))) (fun J2 y hy => ?_)
    obtain ⟨u, g2, r2⟩ := y
    obtain ⟨u1, u2, u3⟩ := hy
    dsimp only at u1 u2 u3 ⊢
    by_cases huv : u < v
    · have kA := fun w' ha => s_AddEdge_g n g2 r2 v u w' ha u2 hvn huv
      have kR := fun w' ha => s_RemoveEdge_g n g2 r2 v u w' ha u2 hvn huv
      repeat' (first | apply pwp_seq | apply pwp_region | (apply px_run; (first | (apply opv_move; first | exact hid_int rfl | rfl) | (apply opv_assign; first | exact hid_int rfl) | (apply opv_lss <;> rfl) | (apply opv_geq <;> rfl) | (apply opv_add_in; rfl; rfl; omega) | (apply opv_load_str 1 st_G; rfl; rfl; rfl) | (apply opv_extract; rfl; rfl)); rfl; rfl) | apply px_nil | apply qseq_normal | apply pwp_block | apply qblock_normal | apply pwp_skip | (apply pwp_cond_dec; rfl; all_goals (intro hc; try (first | (exfalso; omega)))) | (apply px_store_str 2 st_G; rfl; rfl; rfl; rfl; rfl; (intro w hw; (first | refine all2 rfl ?_ ?_) <;> (first | rfl | assumption)); rfl) | (apply px_gives; rfl; rfl; rfl; rfl; rfl; exact fun w hw => kA _ (by first | exact hw.rowArr (k := 2) rfl); rintro _ _ ⟨sc, bb, r3, hg3, hsc, rfl, rfl⟩) | (apply px_gives; rfl; rfl; rfl; rfl; rfl; exact fun w hw => kR _ (by first | exact hw.rowArr (k := 2) rfl); rintro _ _ ⟨sc, bb, r3, hg3, hsc, rfl, rfl⟩))
      all_goals first
        | (refine qround_normal ?_ ⟨(u + 1, g2, r2), ⟨rfl, trivial⟩, ⟨by dsimp only; omega, u2, u3⟩, by dsimp only; omega, fun w' hw => ?_⟩
           rotate_left
           (refine Cl.ofSel hw ?_)
           (repeat (first | exact sel_nil | refine sel_cons 0 rfl ?_ | refine sel_cons 1 rfl ?_ | refine sel_cons 2 rfl ?_ | refine sel_cons 3 rfl ?_ | refine sel_cons 4 rfl ?_ | refine sel_cons 5 rfl ?_ | refine sel_cons 6 rfl ?_ | refine sel_cons 7 rfl ?_ | refine sel_cons 8 rfl ?_))
           (repeat (first | exact same_refl | refine same_upd rfl ?_ | refine same_junk rfl ?_))
           done)
        | (refine qround_normal ?_ ⟨(u + 1, sc, r3), ⟨rfl, trivial⟩, ⟨by dsimp only; omega, hg3, hsc⟩, by dsimp only; omega, fun w' hw => ?_⟩
           rotate_left
           (refine Cl.ofSel hw ?_)
           (repeat (first | exact sel_nil | refine sel_cons 0 rfl ?_ | refine sel_cons 1 rfl ?_ | refine sel_cons 2 rfl ?_ | refine sel_cons 3 rfl ?_ | refine sel_cons 4 rfl ?_ | refine sel_cons 5 rfl ?_ | refine sel_cons 6 rfl ?_ | refine sel_cons 7 rfl ?_ | refine sel_cons 8 rfl ?_))
           (repeat (first | exact same_refl | refine same_upd rfl ?_ | refine same_junk rfl ?_))
           done)
    · obtain rfl : u = v := by omega
      repeat' (first | apply pwp_seq | apply pwp_region | (apply px_run; (first | (apply opv_move; first | exact hid_int rfl) | (apply opv_assign; first | exact hid_int rfl) | (apply opv_lss <;> rfl) | (apply opv_add_in; rfl; rfl; omega)); rfl; rfl) | apply px_nil | apply qseq_normal | apply qseq_exit | apply qblock_normal | (apply qblock_exit_same; rfl) | apply pwp_exit | apply qround_exit | (apply pwp_cond_dec; rfl; all_goals (intro hc; try (first | (exfalso; omega)))))
      refine qround_normal ?_ ⟨(u + 1, g2, r2), ⟨rfl, trivial⟩, ⟨by dsimp only; omega, u2, u3⟩, by dsimp only; omega, fun w' hw => (by have h := hw; exact Cl.ofSel (by assumption) (by repeat (first | exact sel_nil | refine sel_cons 0 rfl ?_ | refine sel_cons 1 rfl ?_ | refine sel_cons 2 rfl ?_ | refine sel_cons 3 rfl ?_ | refine sel_cons 4 rfl ?_ | refine sel_cons 5 rfl ?_ | refine sel_cons 6 rfl ?_ | refine sel_cons 7 rfl ?_ | refine sel_cons 8 rfl ?_ | refine sel_cons 9 rfl ?_ | refine sel_cons 10 rfl ?_ | refine sel_cons 11 rfl ?_ | refine sel_cons 12 rfl ?_ | refine sel_cons 13 rfl ?_)))⟩
      repeat (first | exact same_refl | refine same_upd rfl ?_ | refine same_junk rfl ?_)
  · repeat' (first | apply pwp_seq | apply pwp_region | (apply px_run; (first | (apply opv_move; first | exact hid_int rfl) | (apply opv_lss <;> rfl) | (apply opv_field fld_G0; rfl) | (apply opv_load_blk 1; (first | with_reducible exact sc_int); rfl; rfl; rfl) | (apply opv_load_str 1 st_G; rfl; rfl; rfl)); rfl; rfl) | apply px_nil | apply qseq_normal | apply qseq_exit | (apply qblock_exit_same; rfl) | apply pwp_exit | apply pwp_ret | apply qround_exit | (apply pwp_cond_dec; rfl; all_goals (intro hc; try (first | contradiction))) | (apply px_store_str 3 st_G; rfl; rfl; rfl; rfl; rfl; (intro w hw; (first | refine all2 rfl ?_ ?_) <;> (first | rfl | assumption)); rfl))
    first
      | refine qbody_cell 0 rfl st_G rfl rfl rfl ⟨_, ⟨n, g1, r1, ci, ch, rfl, hi, rfl⟩, fun w' hw => (by have h := hw; exact Cl.ofSel (by assumption) (by repeat (first | exact sel_nil | refine sel_cons 0 rfl ?_ | refine sel_cons 1 rfl ?_ | refine sel_cons 2 rfl ?_ | refine sel_cons 3 rfl ?_ | refine sel_cons 4 rfl ?_ | refine sel_cons 5 rfl ?_ | refine sel_cons 6 rfl ?_ | refine sel_cons 7 rfl ?_ | refine sel_cons 8 rfl ?_ | refine sel_cons 9 rfl ?_ | refine sel_cons 10 rfl ?_ | refine sel_cons 11 rfl ?_ | refine sel_cons 12 rfl ?_ | refine sel_cons 13 rfl ?_)))⟩
      | refine qbody_cell 1 rfl st_G rfl rfl rfl ⟨_, ⟨n, g1, r1, ci, ch, rfl, hi, rfl⟩, fun w' hw => (by have h := hw; exact Cl.ofSel (by assumption) (by repeat (first | exact sel_nil | refine sel_cons 0 rfl ?_ | refine sel_cons 1 rfl ?_ | refine sel_cons 2 rfl ?_ | refine sel_cons 3 rfl ?_ | refine sel_cons 4 rfl ?_ | refine sel_cons 5 rfl ?_ | refine sel_cons 6 rfl ?_ | refine sel_cons 7 rfl ?_ | refine sel_cons 8 rfl ?_ | refine sel_cons 9 rfl ?_ | refine sel_cons 10 rfl ?_ | refine sel_cons 11 rfl ?_ | refine sel_cons 12 rfl ?_ | refine sel_cons 13 rfl ?_)))⟩
      | refine qbody_cell 2 rfl st_G rfl rfl rfl ⟨_, ⟨n, g1, r1, ci, ch, rfl, hi, rfl⟩, fun w' hw => (by have h := hw; exact Cl.ofSel (by assumption) (by repeat (first | exact sel_nil | refine sel_cons 0 rfl ?_ | refine sel_cons 1 rfl ?_ | refine sel_cons 2 rfl ?_ | refine sel_cons 3 rfl ?_ | refine sel_cons 4 rfl ?_ | refine sel_cons 5 rfl ?_ | refine sel_cons 6 rfl ?_ | refine sel_cons 7 rfl ?_ | refine sel_cons 8 rfl ?_ | refine sel_cons 9 rfl ?_ | refine sel_cons 10 rfl ?_ | refine sel_cons 11 rfl ?_ | refine sel_cons 12 rfl ?_ | refine sel_cons 13 rfl ?_)))⟩
      | refine qbody_cell 3 rfl st_G rfl rfl rfl ⟨_, ⟨n, g1, r1, ci, ch, rfl, hi, rfl⟩, fun w' hw => (by have h := hw; exact Cl.ofSel (by assumption) (by repeat (first | exact sel_nil | refine sel_cons 0 rfl ?_ | refine sel_cons 1 rfl ?_ | refine sel_cons 2 rfl ?_ | refine sel_cons 3 rfl ?_ | refine sel_cons 4 rfl ?_ | refine sel_cons 5 rfl ?_ | refine sel_cons 6 rfl ?_ | refine sel_cons 7 rfl ?_ | refine sel_cons 8 rfl ?_ | refine sel_cons 9 rfl ?_ | refine sel_cons 10 rfl ?_ | refine sel_cons 11 rfl ?_ | refine sel_cons 12 rfl ?_ | refine sel_cons 13 rfl ?_)))⟩
      | refine qbody_cell 4 rfl st_G rfl rfl rfl ⟨_, ⟨n, g1, r1, ci, ch, rfl, hi, rfl⟩, fun w' hw => (by have h := hw; exact Cl.ofSel (by assumption) (by repeat (first | exact sel_nil | refine sel_cons 0 rfl ?_ | refine sel_cons 1 rfl ?_ | refine sel_cons 2 rfl ?_ | refine sel_cons 3 rfl ?_ | refine sel_cons 4 rfl ?_ | refine sel_cons 5 rfl ?_ | refine sel_cons 6 rfl ?_ | refine sel_cons 7 rfl ?_ | refine sel_cons 8 rfl ?_ | refine sel_cons 9 rfl ?_ | refine sel_cons 10 rfl ?_ | refine sel_cons 11 rfl ?_ | refine sel_cons 12 rfl ?_ | refine sel_cons 13 rfl ?_)))⟩
      | refine qbody_cell 5 rfl st_G rfl rfl rfl ⟨_, ⟨n, g1, r1, ci, ch, rfl, hi, rfl⟩, fun w' hw => (by have h := hw; exact Cl.ofSel (by assumption) (by repeat (first | exact sel_nil | refine sel_cons 0 rfl ?_ | refine sel_cons 1 rfl ?_ | refine sel_cons 2 rfl ?_ | refine sel_cons 3 rfl ?_ | refine sel_cons 4 rfl ?_ | refine sel_cons 5 rfl ?_ | refine sel_cons 6 rfl ?_ | refine sel_cons 7 rfl ?_ | refine sel_cons 8 rfl ?_ | refine sel_cons 9 rfl ?_ | refine sel_cons 10 rfl ?_ | refine sel_cons 11 rfl ?_ | refine sel_cons 12 rfl ?_ | refine sel_cons 13 rfl ?_)))⟩
      | refine qbody_cell 6 rfl st_G rfl rfl rfl ⟨_, ⟨n, g1, r1, ci, ch, rfl, hi, rfl⟩, fun w' hw => (by have h := hw; exact Cl.ofSel (by assumption) (by repeat (first | exact sel_nil | refine sel_cons 0 rfl ?_ | refine sel_cons 1 rfl ?_ | refine sel_cons 2 rfl ?_ | refine sel_cons 3 rfl ?_ | refine sel_cons 4 rfl ?_ | refine sel_cons 5 rfl ?_ | refine sel_cons 6 rfl ?_ | refine sel_cons 7 rfl ?_ | refine sel_cons 8 rfl ?_ | refine sel_cons 9 rfl ?_ | refine sel_cons 10 rfl ?_ | refine sel_cons 11 rfl ?_ | refine sel_cons 12 rfl ?_ | refine sel_cons 13 rfl ?_)))⟩
      | refine qbody_cell 7 rfl st_G rfl rfl rfl ⟨_, ⟨n, g1, r1, ci, ch, rfl, hi, rfl⟩, fun w' hw => (by have h := hw; exact Cl.ofSel (by assumption) (by repeat (first | exact sel_nil | refine sel_cons 0 rfl ?_ | refine sel_cons 1 rfl ?_ | refine sel_cons 2 rfl ?_ | refine sel_cons 3 rfl ?_ | refine sel_cons 4 rfl ?_ | refine sel_cons 5 rfl ?_ | refine sel_cons 6 rfl ?_ | refine sel_cons 7 rfl ?_ | refine sel_cons 8 rfl ?_ | refine sel_cons 9 rfl ?_ | refine sel_cons 10 rfl ?_ | refine sel_cons 11 rfl ?_ | refine sel_cons 12 rfl ?_ | refine sel_cons 13 rfl ?_)))⟩
end Go.Proofs.YtcicdnpmlcjcmaaGreat
/- Splits found; fewest covers. -/
namespace Go.Proofs.YtcicdnpmlcjcmaaGreat
open Go Go.RowKit Go.Pw

theorem en_i_least : Entry Tryz.prog 32 := ⟨_, Tryz.func32, by kernel_rfl, rfl⟩
set_option maxHeartbeats 400000 in
theorem i_least_c (size : Int) (sv : Value) (rows : List Int) (f : FuncId) (p : Int → Bool) (w : World) (hr : Arr w sv (ints rows))
    (hp : IsG size rows → ∀ s w', 0 ≤ s ∧ s < ishl 1 size → Arr w' sv (ints rows) → Pure Tryz.prog f #[.agg #[.int .i64 size, sv], .int .i64 s] w' (.bool (p s))) :
    Pure Tryz.prog 32 #[.agg #[.int .i64 size, sv], .func (.func f) #[] #[]] w (.tuple #[.int .i64 (leastX (IsG size rows) p (ishl 1 size)), .bool (leastB (IsG size rows) p (ishl 1 size))]) := by
  refine pure_enter (args := [_, _]) en_i_least Tryz.func32 rfl Tryz.ntmps32 rfl ?_
  by_cases hg : IsG size rows
  · have hsz : 0 ≤ size ∧ size ≤ 7 := ⟨by have := hg.1; omega, hg.1.2⟩
    obtain ⟨h1, h2, h3⟩ := shl1 hsz
    have hp := hp hg
    rw [leastX, leastB, if_pos hg, if_pos hg]
    obtain ⟨N, hN⟩ := Int.eq_ofNat_of_zero_le (show 0 ≤ ishl 1 size by omega)
    rw [hN] at hp h2 h3 ⊢
    have hn1 : (N : Int) - 1 + 1 = N := by omega
    repeat' (first | apply pwp_seq | apply pwp_region | (apply px_run; (first | (apply opv_move; first | exact hid_int rfl) | (apply opv_assign; first | exact hid_int rfl | exact hid_bool rfl) | (apply opv_not_dec <;> rfl) | (apply opv_add_in; rfl; rfl; omega) | (apply opv_load_str 0 st_G; rfl; rfl; rfl) | (apply opv_call; rfl; rfl; exact Cl.stable _ _ _; exact fun w hw => i_IsGraph_c _ _ rows _ (by first | exact hw.arr (by assumption))) | (apply opv_call; rfl; rfl; exact Cl.stable _ _ _; exact fun w hw => i_all_c _ _ _ hsz)); rfl; rfl) | apply px_nil | apply qseq_normal | apply pwp_block | apply pwp_skip | (apply pwp_cond_ndec; rfl; all_goals (intro hc; try (first | contradiction))) | (apply px_box; rfl; rfl; rfl; rfl; intro bk))
    refine pwp_loop (τ := Nat) [(4,6), (13,21)] (fun k => [(13, .int .i64 (k : Int))]) (fun _ => Cl [] w [.blk bk [.int .i64 size, sv]]) (fun k => k ≤ N ∧ leastU p k = none) (fun k => N - k) 0
      ⟨rfl, trivial⟩ ⟨Nat.zero_le _, rfl⟩ (fun _ h => h) (fun J k hk => ?_)
    obtain ⟨hk, hno⟩ := hk
    by_cases hlt : k < N
    · have hs := leastU_succ p k
      rw [hno] at hs
      repeat' (first | apply pwp_seq | apply pwp_region | (apply px_run; (first | (apply opv_move; first | exact hid_int rfl | rfl) | (apply opv_assign; first | exact hid_int rfl | exact hid_bool rfl) | (apply opv_lss <;> rfl) | (apply opv_add_in; rfl; rfl; omega) | (apply opv_load_str 0 st_G; rfl; rfl; rfl) | (apply opv_callx; rfl; rfl; exact Cl.stable _ _ _; exact fun w hw => hp _ _ ⟨by omega, by omega⟩ (by first | exact hw.arr (by assumption)))); rfl; rfl) | apply px_nil | apply qseq_normal | apply qseq_ret | apply pwp_block | apply qblock_normal | apply qblock_ret | apply pwp_skip | apply pwp_ret | apply qround_ret | (apply pwp_cond_dec; rfl; all_goals (intro hc; try (first | (exfalso; omega)))) | (apply pwp_cond; rfl; all_goals (intro hc; try (first | fail))))
      · refine qbody_ret2 (v := .int _ _) (v' := .bool _) rfl rfl rfl ⟨?_, fun _ h => h.below⟩
        rw [hc] at hs
        rw [Int.toNat_natCast, leastU_mono hs (by omega)]; rfl
      · refine qround_normal ?_ ⟨k + 1, ⟨rfl, trivial⟩, ⟨by omega, ?_⟩, by omega, fun _ h => h⟩
        · repeat (first | exact same_refl | refine same_upd rfl ?_ | refine same_junk rfl ?_)
        · rw [hs, hc]; rfl
    · repeat' (first | apply pwp_seq | apply pwp_region | (apply px_run; (first | (apply opv_assign; first | exact hid_int rfl | exact hid_bool rfl) | (apply opv_lss <;> rfl)); rfl; rfl) | apply px_nil | apply qseq_normal | apply qseq_exit | (apply qblock_exit_same; rfl) | apply pwp_exit | apply pwp_ret | apply qround_exit | (apply pwp_cond_dec; rfl; all_goals (intro hc; try (first | (exfalso; omega)))))
      obtain rfl : k = N := by omega
      refine qbody_ret2 (v := .int _ _) (v' := .bool _) rfl rfl rfl ⟨?_, fun _ h => h.below⟩
      rw [Int.toNat_natCast, hno]; rfl
  · repeat' (first | apply pwp_seq | apply pwp_region | (apply px_run; (first | (apply opv_assign; first | exact hid_int rfl | exact hid_bool rfl) | (apply opv_not_dec <;> rfl) | (apply opv_load_str 0 st_G; rfl; rfl; rfl) | (apply opv_call; rfl; rfl; exact Cl.stable _ _ _; exact fun w hw => i_IsGraph_c _ _ rows _ (by first | exact hw.arr (by assumption)))); rfl; rfl) | apply px_nil | apply qseq_normal | apply qseq_ret | apply pwp_ret | (apply pwp_cond_ndec; rfl; all_goals (intro hc; try (first | contradiction))) | (apply px_box; rfl; rfl; rfl; rfl; intro bk))
    refine qbody_ret2 (v := .int _ _) (v' := .bool _) rfl rfl rfl ⟨?_, fun _ h => h.below⟩
    rw [leastX, leastB, if_neg hg, if_neg hg]
theorem en_i_SplitOf : Entry Tryz.prog 6 := ⟨_, Tryz.func6, by kernel_rfl, rfl⟩
theorem i_SplitOf_c (size : Int) (sv : Value) (rows : List Int) (w : World) (hr : Arr w sv (ints rows)) :
    Pure Tryz.prog 6 #[.agg #[.int .i64 size, sv]] w (.tuple #[.int .i64 (leastX (IsG size rows) (fun s => decide (splitP size rows s)) (ishl 1 size)), .bool (leastB (IsG size rows) (fun s => decide (splitP size rows s)) (ishl 1 size))]) := by
  refine pure_enter (args := [_]) en_i_SplitOf Tryz.func6 rfl Tryz.ntmps6 rfl ?_
  repeat' (first | apply pwp_seq | apply pwp_region | (apply px_run; (first | (apply opv_assign; first | exact hid_int rfl | exact hid_bool rfl) | (apply opv_load_str 0 st_G; rfl; rfl; rfl) | (apply opv_extract; rfl; rfl) | (apply opv_call; rfl; rfl; exact Cl.stable _ _ _; exact fun w hw => i_least_c _ _ rows 15 (fun s => decide (splitP size rows s)) _ (by first | exact hw.arr (by assumption)) (fun _ s w' _ h => i_IsSplitPartition_c _ _ rows s w' h))); rfl; rfl) | apply px_nil | apply qseq_normal | apply pwp_ret | (apply px_box; rfl; rfl; rfl; rfl; intro bk))
  refine qbody_ret2 (v := .int _ _) (v' := .bool _) rfl rfl rfl ⟨rfl, fun _ h => h.below⟩
theorem en_s_SplitOf : Entry Tryz.prog 7 := ⟨_, Tryz.func7, by kernel_rfl, rfl⟩
set_option maxHeartbeats 400000 in
theorem s_SplitOf_c (size : Int) (sv : Value) (rows : List Int) (w : World) (hr : Arr w sv (ints rows)) :
    Pure Tryz.prog 7 #[.agg #[.int .i64 size, sv]] w (.tuple #[.int .i64 (leastX (IsG size rows) (fun s => decide (splitP size rows s)) (ishl 1 size)), .bool (leastB (IsG size rows) (fun s => decide (splitP size rows s)) (ishl 1 size))]) := by
  refine pure_enter (args := [_]) en_s_SplitOf Tryz.func7 rfl Tryz.ntmps7 rfl ?_
  by_cases hg : IsG size rows
  · have hsz : 0 ≤ size ∧ size ≤ 7 := ⟨by have := hg.1; omega, hg.1.2⟩
    obtain ⟨h1, h2, h3⟩ := shl1 hsz
    obtain ⟨hz1, hz2⟩ := hsz
    rw [leastX, leastB, if_pos hg, if_pos hg]
    obtain ⟨N, hN⟩ := Int.eq_ofNat_of_zero_le (show 0 ≤ ishl 1 size by omega)
    rw [hN] at h2 h3
    have hN' : (ishl 1 size).toNat = N := by rw [hN]; rfl
    rw [hN']
    generalize hp : (fun s => decide (splitP size rows s)) = p
    repeat' (first | apply pwp_seq | apply pwp_region | (apply px_run; (first | (apply opv_assign; first | exact hid_int rfl | exact hid_bool rfl)); rfl; rfl) | apply px_nil | apply qseq_normal | apply pwp_block | (apply px_box; rfl; rfl; rfl; rfl; intro bk))
    refine pwp_loop (τ := Nat) [(2,19)] (fun k => [(4, .int .i64 (k : Int))]) (fun _ => Cl [] w [.blk bk [.int .i64 size, sv]]) (fun k => k ≤ N ∧ leastU p k = none) (fun k => N - k) 0
      ⟨rfl, trivial⟩ ⟨Nat.zero_le _, rfl⟩ (fun _ h => h) (fun J k hk => ?_)
    obtain ⟨hk, hno⟩ := hk
    by_cases hlt : k < N
    · have hs := leastU_succ p k
      rw [hno] at hs
      repeat' (first | apply pwp_seq | apply pwp_region | (apply px_run; (first | (apply opv_move; first | exact hid_int rfl | exact hid_bool rfl) | (apply opv_assign; first | exact hid_int rfl | exact hid_bool rfl) | (apply opv_lss <;> rfl) | (apply opv_pick_t <;> rfl) | (apply opv_add_in; rfl; rfl; omega) | (apply opv_shl; rfl; rfl; omega) | (apply opv_field fld_G0; rfl) | (apply opv_load_blk 0; (first | with_reducible exact sc_int); rfl; rfl; rfl) | (apply opv_load_str 0 st_G; rfl; rfl; rfl) | (apply opv_call; rfl; rfl; exact Cl.stable _ _ _; exact fun w hw => s_IsGraph_c _ _ rows _ (by first | exact hw.arr (by assumption))) | (apply opv_call; rfl; rfl; exact Cl.stable _ _ _; exact fun w hw => s_IsSplitPartition_c _ _ rows _ _ (by first | exact hw.arr (by assumption)))); rfl; rfl) | apply px_nil | apply qseq_normal | apply qseq_ret | apply pwp_block | apply qblock_normal | apply qblock_ret | apply pwp_skip | apply pwp_ret | apply qround_ret | (apply px_guard_dec; rfl; rfl; rfl; all_goals (intro hc; try (first | contradiction))) | (apply pwp_cond_dec; rfl; all_goals (intro hc; try (first | (exfalso; omega)))))
      · refine qbody_ret2 (v := .int _ _) (v' := .bool _) rfl rfl rfl ⟨?_, fun _ h => h.below⟩
        have hpk : p k = true := by rw [← hp]; exact decide_eq_true hc
        rw [hpk] at hs
        rw [leastU_mono hs (by omega)]; rfl
      · refine qround_normal ?_ ⟨k + 1, ⟨rfl, trivial⟩, ⟨by omega, ?_⟩, by omega, fun _ h => h⟩
        · repeat (first | exact same_refl | refine same_upd rfl ?_ | refine same_junk rfl ?_)
        · have hpk : p k = false := by rw [← hp]; exact decide_eq_false hc
          rw [hs, hpk]; rfl
    · repeat' (first | apply pwp_seq | apply pwp_region | (apply px_run; (first | (apply opv_move; first | exact hid_int rfl | exact hid_bool rfl) | (apply opv_assign; first | exact hid_int rfl | exact hid_bool rfl) | (apply opv_lss <;> rfl) | (apply opv_pick_t <;> rfl) | (apply opv_shl; rfl; rfl; omega) | (apply opv_field fld_G0; rfl) | (apply opv_load_blk 0; (first | with_reducible exact sc_int); rfl; rfl; rfl) | (apply opv_load_str 0 st_G; rfl; rfl; rfl) | (apply opv_call; rfl; rfl; exact Cl.stable _ _ _; exact fun w hw => s_IsGraph_c _ _ rows _ (by first | exact hw.arr (by assumption)))); rfl; rfl) | apply px_nil | apply qseq_normal | apply qseq_exit | (apply qblock_exit_same; rfl) | apply pwp_exit | apply pwp_ret | apply qround_exit | (apply px_guard_dec; rfl; rfl; rfl; all_goals (intro hc; try (first | contradiction))) | (apply pwp_cond_dec; rfl; all_goals (intro hc; try (first | (exfalso; omega)))))
      obtain rfl : k = N := by omega
      refine qbody_ret2 (v := .int _ _) (v' := .bool _) rfl rfl rfl ⟨?_, fun _ h => h.below⟩
      rw [hno]; rfl
  · repeat' (first | apply pwp_seq | apply pwp_region | (apply px_run; (first | (apply opv_assign; first | exact hid_int rfl | exact hid_bool rfl)); rfl; rfl) | apply px_nil | apply qseq_normal | apply pwp_block | (apply px_box; rfl; rfl; rfl; rfl; intro bk))
    refine pwp_loop_once ?_
    repeat' (first | apply pwp_seq | apply pwp_region | (apply px_run; (first | (apply opv_move; first | exact hid_int rfl | exact hid_bool rfl) | (apply opv_assign; first | exact hid_int rfl | exact hid_bool rfl) | (apply opv_pick_f <;> rfl) | (apply opv_field fld_G0; rfl) | (apply opv_load_str 0 st_G; rfl; rfl; rfl) | (apply opv_call; rfl; rfl; exact Cl.stable _ _ _; exact fun w hw => s_IsGraph_c _ _ rows _ (by first | exact hw.arr (by assumption)))); rfl; rfl) | apply px_nil | (apply px_skip; rfl; rfl) | apply qseq_normal | apply qseq_exit | (apply qblock_exit_same; rfl) | apply pwp_exit | apply pwp_ret | apply qonce_exit | (apply pwp_cond_f; rfl) | (apply px_guard_dec; rfl; rfl; rfl; all_goals (intro hc; try (first | contradiction))))
    refine qbody_ret2 (v := .int _ _) (v' := .bool _) rfl rfl rfl ⟨?_, fun _ h => h.below⟩
    rw [leastX, leastB, if_neg hg, if_neg hg]
theorem en_i_IsSplit : Entry Tryz.prog 11 := ⟨_, Tryz.func11, by kernel_rfl, rfl⟩
theorem i_IsSplit_c (size : Int) (sv : Value) (rows : List Int) (w : World) (hr : Arr w sv (ints rows)) :
    Pure Tryz.prog 11 #[.agg #[.int .i64 size, sv]] w (.bool (leastB (IsG size rows) (fun s => decide (splitP size rows s)) (ishl 1 size))) := by
  refine pure_enter (args := [_]) en_i_IsSplit Tryz.func11 rfl Tryz.ntmps11 rfl ?_
  repeat' (first | apply pwp_seq | apply pwp_region | (apply px_run; (first | (apply opv_move; first | exact hid_bool rfl | rfl) | (apply opv_assign; first | exact hid_int rfl | exact hid_bool rfl) | (apply opv_load_str 0 st_G; rfl; rfl; rfl) | (apply opv_extract; rfl; rfl) | (apply opv_call; rfl; rfl; exact Cl.stable _ _ _; exact fun w hw => i_SplitOf_c _ _ rows _ (by first | exact hw.arr (by assumption)))); rfl; rfl) | apply px_nil | apply qseq_normal | apply pwp_ret | (apply px_box; rfl; rfl; rfl; rfl; intro bk))
  refine qbody_ret1 (v := .bool _) rfl rfl ⟨rfl, fun _ h => h.below⟩
theorem en_s_IsSplit : Entry Tryz.prog 29 := ⟨_, Tryz.func29, by kernel_rfl, rfl⟩
theorem s_IsSplit_c (size : Int) (sv : Value) (rows : List Int) (w : World) (hr : Arr w sv (ints rows)) :
    Pure Tryz.prog 29 #[.agg #[.int .i64 size, sv]] w (.bool (leastB (IsG size rows) (fun s => decide (splitP size rows s)) (ishl 1 size))) := by
  refine pure_enter (args := [_]) en_s_IsSplit Tryz.func29 rfl Tryz.ntmps29 rfl ?_
  repeat' (first | apply pwp_seq | apply pwp_region | (apply px_run; (first | (apply opv_move; first | exact hid_bool rfl | rfl) | (apply opv_assign; first | exact hid_int rfl | exact hid_bool rfl) | (apply opv_load_str 0 st_G; rfl; rfl; rfl) | (apply opv_extract; rfl; rfl) | (apply opv_call; rfl; rfl; exact Cl.stable _ _ _; exact fun w hw => s_SplitOf_c _ _ rows _ (by first | exact hw.arr (by assumption)))); rfl; rfl) | apply px_nil | apply qseq_normal | apply pwp_ret | (apply px_box; rfl; rfl; rfl; rfl; intro bk))
  refine qbody_ret1 (v := .bool _) rfl rfl ⟨rfl, fun _ h => h.below⟩
end Go.Proofs.YtcicdnpmlcjcmaaGreat
/- Eliminations; the draws of the law on splits. -/
namespace Go.Proofs.YtcicdnpmlcjcmaaGreat
open Go Go.RowKit Go.Pw
theorem en_s_l6Simplicial : Entry Tryz.prog 75 := ⟨_, Tryz.func75, by kernel_rfl, rfl⟩
theorem s_l6Simplicial_c (size : Int) (gv : Value) (rows : List Int) (v : Nat) (s : Int) (w : World) (hr : Arr w gv (ints rows)) (hv : v < rows.length) :
    Pure Tryz.prog 75 #[.agg #[.int .i64 size, gv], .int .i64 (v : Int), .int .i64 s] w (.bool (decide (cliqueP size rows (iand (rows.getD v 0) s)))) := by
  refine pure_enter (args := [_, _, _]) en_s_l6Simplicial Tryz.func75 rfl Tryz.ntmps75 rfl ?_
  repeat' (first | apply pwp_seq | apply pwp_region | (apply px_run; (first | (apply opv_move; first | exact hid_int rfl) | (apply opv_assign; first | exact hid_bool rfl) | (apply opv_and <;> rfl) | (apply opv_field fld_G1; rfl) | (apply opv_load_blk 0; (first | with_reducible exact sc_int | with_reducible exact sc_ints); rfl; rfl; rfl) | (apply opv_load_ints sc_int; rfl; (first | exact rd_old (by assumption)); (first | omega)) | (apply opv_index_nat (vs := ints _) el_int; rfl; rfl; (first | exact rd_old (by assumption)); (first | (simp only [ints_length]; omega))) | (apply opv_load_str 0 st_G; rfl; rfl; rfl) | (apply opv_call; rfl; rfl; exact Cl.stable _ _ _; exact fun w hw => s_IsClique_c _ _ rows _ _ (by first | exact hw.arr (by assumption)))); rfl; rfl) | apply px_nil | apply qseq_normal | apply pwp_ret | (apply pwp_region_mix; kernel_rfl; decide +kernel; exact Cl.stable _ _ _) | (apply px_box; rfl; rfl; rfl; rfl; intro bk))
  refine qbody_ret1 (v := .bool _) rfl rfl ⟨rfl, fun _ h => h.below⟩
theorem en_s_EliminationOf : Entry Tryz.prog 38 := ⟨_, Tryz.func38, by kernel_rfl, rfl⟩
set_option maxHeartbeats 1600000 in
theorem s_EliminationOf_c (size : Int) (gv : Value) (rows : List Int) (w : World) (hr : Arr w gv (ints rows)) :
    Gives Tryz.prog 38 #[.agg #[.int .i64 size, gv]] w (fun v objs => ∃ sv L, v = .tuple #[sv, .bool (elX size rows)] ∧ objs = [.row 3 sv (ints L)]) := by
  refine gives_enter (args := [_]) en_s_EliminationOf Tryz.func38 rfl Tryz.ntmps38 rfl ?_
  by_cases hg : IsG size rows
  case neg =>
    repeat' (first | apply pwp_seq | apply pwp_region | (apply px_run; (first | (apply opv_move; first | rfl) | (apply opv_assign; first | exact hid_bool rfl | rfl) | (apply opv_not_dec <;> rfl) | (apply opv_load_str 1 st_G; rfl; rfl; rfl) | (apply opv_call; rfl; rfl; exact Cl.stable _ _ _; exact fun w hw => s_IsGraph_c _ _ rows _ (by first | exact hw.arr (by assumption)))); rfl; rfl) | apply px_nil | apply qseq_normal | apply qseq_ret | apply pwp_ret | (apply pwp_cond_ndec; rfl; all_goals (intro hc; try (first | contradiction))) | (apply px_box; rfl; rfl; rfl; rfl; intro bk) | (apply px_lit0 ez_int; rfl; rfl; rfl; intro sv))
    refine qbody_ret2 rfl rfl rfl ⟨_, ⟨_, [], by rw [elX_no hg]; rfl, rfl⟩, fun w' h => ?_⟩
    exact Cl.sub (by assumption) (by repeat (first | exact List.Sublist.slnil | exact List.Sublist.refl _ | apply List.Sublist.cons_cons | exact List.sublist_append_left _ _ | exact List.sublist_append_right _ _ | apply List.Sublist.cons))
  have hsz : 0 ≤ size ∧ size ≤ 7 := ⟨by have := hg.1; omega, hg.1.2⟩
  obtain ⟨hz1, hz2⟩ := id hsz
  obtain ⟨N, hN, hN', hN1, hN2⟩ := shl_nat hg
  obtain ⟨n, hn, hrl, hn1, hn7⟩ := isG_size hg
  have hX0 : elX size rows = elR size rows rows.length 129 (ishl 1 size - 1) := by unfold elX; rw [if_pos hg]
  rw [hrl] at hX0
  repeat' (first | apply pwp_seq | apply pwp_region | (apply px_run; (first | (apply opv_assign; first | exact hid_int rfl | exact hid_bool rfl | rfl) | (apply opv_not_dec <;> rfl) | (apply opv_sub_in; rfl; rfl; omega) | (apply opv_shl; rfl; rfl; omega) | (apply opv_field fld_G0; rfl) | (apply opv_load_blk 1; (first | with_reducible exact sc_int); rfl; rfl; rfl) | (apply opv_load_str 1 st_G; rfl; rfl; rfl) | (apply opv_call; rfl; rfl; exact Cl.stable _ _ _; exact fun w hw => s_IsGraph_c _ _ rows _ (by first | exact hw.arr (by assumption)))); rfl; rfl) | apply px_nil | apply qseq_normal | apply pwp_block | apply pwp_skip | (apply pwp_cond_ndec; rfl; all_goals (intro hc; try (first | contradiction))) | (apply px_box; rfl; rfl; rfl; rfl; intro bk) | (apply px_lit0 ez_int; rfl; rfl; rfl; intro sv))
  refine pwp_loop (τ := Nat × Int × List Int × Value) [(2,7), (17,48)] (fun x => [(5, .int .i64 x.2.1), (4, x.2.2.2)])
    (fun x => Cl [] w [.row 3 x.2.2.2 (ints x.2.2.1), .blk bk [.int .i64 size, gv]])
    (fun x => (0 ≤ x.2.1 ∧ x.2.1 < ishl 1 size) ∧ x.2.1 < x.1 ∧ x.2.2.1.length + x.1 ≤ 129 ∧ elX size rows = elR size rows n x.1 x.2.1) (fun x => x.1) (129, ishl 1 size - 1, [], _)
    ⟨rfl, rfl, trivial⟩ ⟨by dsimp only; omega, by dsimp only; omega, by dsimp only; simp, hX0⟩ (fun _ h => h) (fun J x hk => ?_)
  obtain ⟨f, left, o, so⟩ := x
  obtain ⟨hl, hlf, hof, hX⟩ := hk
  dsimp only at hl hlf hof hX ⊢
  obtain ⟨f, rfl⟩ : ∃ f' : Nat, f = f' + 1 := ⟨f - 1, by omega⟩
  unfold elR at hX
  by_cases h0 : left = 0
  · subst h0
    rw [if_pos rfl] at hX
    repeat' (first | apply pwp_seq | apply pwp_region | (apply px_run; (first | (apply opv_move; first | exact hid_int rfl | rfl) | (apply opv_assign; first | exact hid_bool rfl | rfl) | (apply opv_gtr <;> rfl)); rfl; rfl) | apply px_nil | apply qseq_normal | apply qseq_exit | (apply qblock_exit_same; rfl) | apply pwp_exit | apply pwp_ret | apply qround_exit | (apply pwp_cond_f; rfl))
    refine qbody_ret2 rfl rfl rfl ⟨_, ⟨_, o, by rw [hX]; rfl, rfl⟩, fun w' h => ?_⟩
    exact Cl.sub (by assumption) (by repeat (first | exact List.Sublist.slnil | exact List.Sublist.refl _ | apply List.Sublist.cons_cons | exact List.sublist_append_left _ _ | exact List.sublist_append_right _ _ | apply List.Sublist.cons))
  rw [if_neg h0] at hX
  repeat' (first | apply pwp_seq | apply pwp_region | (apply px_run; (first | (apply opv_move; first | exact hid_int rfl) | (apply opv_assign; first | exact hid_int rfl) | (apply opv_gtr <;> rfl) | (apply opv_sub_in; rfl; rfl; omega) | (apply opv_field fld_G0; rfl) | (apply opv_load_blk 1; (first | with_reducible exact sc_int); rfl; rfl; rfl)); rfl; rfl) | apply px_nil | apply qseq_normal | apply pwp_block | apply pwp_skip | (apply pwp_cond_dec; rfl; all_goals (intro hc; try (first | (exfalso; omega)))))
  refine pwp_loop (τ := Nat) [(6,7), (22,37)] (fun j => [(7, .int .i64 ((n : Int) - 1 - (j : Int))), (6, .int .i64 (lowJ size rows left n j))])
    (fun _ => Cl [] w [.row 3 so (ints o), .blk bk [.int .i64 size, gv]]) (fun j => j ≤ n) (fun j => n - j) 0
    ⟨by rw [hn]; simp; rfl, rfl, trivial⟩ (Nat.zero_le _) (fun _ h => h) (fun J2 j hj => ?_)
  by_cases hlt : j < n
  · obtain ⟨v, hv⟩ : ∃ v : Nat, (n : Int) - 1 - (j : Int) = (v : Int) := ⟨n - 1 - j, by omega⟩
    have hv' : n - 1 - j = v := by omega
    have hs1 : lowJ size rows left n (j + 1) = if simB size rows left v = true then (v : Int) else lowJ size rows left n j := by rw [← hv']; rfl
    rw [hv]
    obtain ⟨_, hy2, hy3⟩ := shl1 (n := (v : Int)) ⟨by omega, by omega⟩
    have hiff : simB size rows left v = true ↔ iand (ishr left v) 1 = 1 ∧ cliqueP size rows (iand (rows.getD v 0) left) := by unfold simB; rw [Bool.and_eq_true, hasB_iff, decide_eq_true_iff]
    repeat' (first | apply pwp_seq | apply pwp_region | (apply px_run; (first | (apply opv_move; first | exact hid_int rfl | exact hid_bool rfl) | (apply opv_assign; first | exact hid_int rfl) | (apply opv_geq <;> rfl) | (apply opv_eql <;> rfl) | (apply opv_and <;> rfl) | (apply opv_pick_t <;> rfl) | (apply opv_pick_f <;> rfl) | (apply opv_sub_in; rfl; rfl; omega) | (apply opv_shr; rfl; rfl; omega) | (apply opv_load_str 1 st_G; rfl; rfl; rfl) | (apply opv_call; rfl; rfl; exact Cl.stable _ _ _; exact fun w hw => s_l6Simplicial_c _ _ rows _ _ _ (by first | exact hw.arr (by assumption)) (by omega))); rfl; rfl) | apply px_nil | (apply px_skip; rfl; rfl) | apply qseq_normal | apply pwp_block | apply qblock_normal | apply pwp_skip | (apply pwp_cond_t; rfl) | (apply pwp_cond_f; rfl) | (apply px_guard_dec; rfl; rfl; rfl; all_goals (intro hc; try (first | fail))) | (apply pwp_cond_dec; rfl; all_goals (intro hc; try (first | fail))))
    all_goals (refine qround_normal ?_ ⟨j + 1, ⟨?_, ?_, trivial⟩, by omega, by omega, fun _ h => h⟩)
    all_goals first
      | (show Value.int .i64 ((v : Int) - 1) = .int .i64 ((n : Int) - 1 - ((j + 1 : Nat) : Int)); rw [show (n : Int) - 1 - ((j + 1 : Nat) : Int) = (v : Int) - 1 by omega]; done)
      | (show Value.int .i64 _ = .int .i64 (lowJ size rows left n (j + 1)); rw [hs1]; first | (rw [if_pos (hiff.2 ⟨by assumption, by assumption⟩)]; done) | (rw [if_neg (fun hq => by obtain ⟨q1, q2⟩ := hiff.1 hq; contradiction)]; done))
      | skip
    all_goals (repeat (first | exact same_refl | refine same_upd rfl ?_ | refine same_junk rfl ?_))
  · obtain rfl : j = n := by omega
    by_cases hbn : lowJ size rows left j j < 0
    · rw [if_pos hbn] at hX
      repeat' (first | apply pwp_seq | apply pwp_region | (apply px_run; (first | (apply opv_move; first | exact hid_int rfl) | (apply opv_assign; first | exact hid_bool rfl | rfl) | (apply opv_lss <;> rfl) | (apply opv_geq <;> rfl)); rfl; rfl) | apply px_nil | apply qseq_normal | apply qseq_ret | apply qseq_exit | apply qblock_ret | (apply qblock_exit_same; rfl) | apply pwp_exit | apply pwp_ret | apply qround_ret | apply qround_exit | (apply pwp_cond_dec; rfl; all_goals (intro hc; try (first | contradiction | (exfalso; omega)))) | (apply px_lit0 ez_int; rfl; rfl; rfl; intro sv))
      refine qbody_ret2 rfl rfl rfl ⟨_, ⟨_, [], by rw [hX]; rfl, rfl⟩, fun w' h => ?_⟩
      exact Cl.sub (by assumption) (by repeat (first | exact List.Sublist.slnil | exact List.Sublist.refl _ | apply List.Sublist.cons_cons | exact List.sublist_append_left _ _ | exact List.sublist_append_right _ _ | apply List.Sublist.cons))
    rw [if_neg hbn] at hX
    have hq := lowJ_spec size rows left j j (by omega)
    have hrg := lowJ_range size rows left j j
    obtain ⟨v, hv⟩ := Int.eq_ofNat_of_zero_le (show 0 ≤ lowJ size rows left j j by omega)
    rw [hv] at hX hq hrg ⊢
    rw [Int.toNat_natCast] at hq
    have hq1 : hasB left (v : Int) = true := by unfold simB at hq; exact (Bool.and_eq_true _ _ ▸ hq).1
    obtain ⟨t1, t2, t3⟩ := take_bit hg hl hq1 (by omega)
    repeat' (first | apply pwp_seq | apply pwp_region | (apply px_run; (first | (apply opv_move; first | exact hid_int rfl | rfl) | (apply opv_assign; first | exact hid_int rfl | rfl) | (apply opv_lss <;> rfl) | (apply opv_geq <;> rfl) | (apply opv_sub_in; rfl; rfl; omega) | (apply opv_shl; rfl; rfl; omega)); rfl; rfl) | apply px_nil | apply qseq_normal | apply qseq_exit | apply qblock_normal | (apply qblock_exit_same; rfl) | apply pwp_skip | apply pwp_exit | apply qround_exit | (apply pwp_cond_f; rfl) | (apply pwp_cond_dec; rfl; all_goals (intro hc; try (first | (exfalso; omega)))) | (apply px_lit1 ez_int; rfl; (intro w hw; (first | rfl)); rfl; rfl; rfl; intro sv) | (apply px_append 1 ez_int; rfl; rfl; rfl; (first | exact rd_row 0 rfl); (first | (intro _ _ u hu; simp at hu; subst hu; rfl)); (simp [ints]; omega); decide; rfl; rfl; intro sv))
    refine qround_normal ?_ ⟨(f, left - ishl 1 v, o ++ [(v : Int)], _), ⟨rfl, rfl, trivial⟩, ⟨by dsimp only; omega, by dsimp only; omega, by dsimp only; simp; omega, hX⟩, by dsimp only; omega, fun w' h => ?_⟩
    · repeat (first | exact same_refl | refine same_upd rfl ?_ | refine same_junk rfl ?_)
    · dsimp only
      rw [ints_app]
      exact Cl.sub (by assumption) (by repeat (first | exact List.Sublist.slnil | exact List.Sublist.refl _ | apply List.Sublist.cons_cons | exact List.sublist_append_left _ _ | exact List.sublist_append_right _ _ | apply List.Sublist.cons))
theorem en_s_IsChordal : Entry Tryz.prog 14 := ⟨_, Tryz.func14, by kernel_rfl, rfl⟩
theorem s_IsChordal_c (size : Int) (gv : Value) (rows : List Int) (w : World) (hr : Arr w gv (ints rows)) :
    Pure Tryz.prog 14 #[.agg #[.int .i64 size, gv]] w (.bool (elX size rows)) := by
  refine pure_enter (args := [_]) en_s_IsChordal Tryz.func14 rfl Tryz.ntmps14 rfl ?_
  repeat' (first | apply pwp_seq | apply pwp_region | (apply px_run; (first | (apply opv_move; first | exact hid_bool rfl | rfl) | (apply opv_assign; first | exact hid_bool rfl | rfl) | (apply opv_load_str 0 st_G; rfl; rfl; rfl) | (apply opv_extract; rfl; rfl)); rfl; rfl) | apply px_nil | apply qseq_normal | apply pwp_ret | (apply px_box; rfl; rfl; rfl; rfl; intro bk) | (apply px_gives; rfl; rfl; rfl; rfl; rfl; exact fun w hw => s_EliminationOf_c _ _ rows _ (by first | exact hw.arr (by assumption)); rintro _ _ ⟨sv, L, rfl, rfl⟩))
  refine qbody_ret1 (v := .bool _) rfl rfl ⟨rfl, fun _ h => h.below⟩
theorem en_s_DrawSplitOf : Entry Tryz.prog 5 := ⟨_, Tryz.func5, by kernel_rfl, rfl⟩
theorem s_DrawSplitOf_c (cv : Value) (l : List Int) (w : World) (hcp : CodeP w cv l) :
    Gives Tryz.prog 5 #[cv] w (fun v objs => ∃ n gv rows, v = .agg #[.int .i64 n, gv] ∧ objs = [.row 3 gv (ints rows)]) := by
  refine gives_enter (args := [_]) en_s_DrawSplitOf Tryz.func5 rfl Tryz.ntmps5 rfl ?_
  have hap := nox (cv := cv) (l := l)
  repeat' (first | apply pwp_seq | apply pwp_region | (apply px_run; (first | (apply opv_move; first | rfl)); rfl; rfl) | apply px_nil | apply qseq_normal | apply pwp_ret | (apply px_givesV [0]; rfl; rfl; rfl; rfl; rfl; (exact fun w' hw ho' => s_l18Graph_c cv l cb _ _ w' (hcp.at hap hw) (by first | exact ⟨by omega, by omega⟩) ho'); rintro _ _ ⟨n, gv, rows, ci, ch, rfl, hi, rfl⟩) | (apply px_alloc st_G; rfl; rfl; rfl; intro bk) | (apply px_store_str 2 st_G; rfl; rfl; rfl; rfl; rfl; (intro w hw; (first | refine all2 rfl ?_ ?_) <;> (first | rfl | exact stor_row 0 hw rfl)); rfl) | (apply px_gives; rfl; rfl; rfl; rfl; rfl; exact fun w hw => s_l1New_c cv l _ (hcp.at hap hw); rintro _ _ ⟨cb, h, rfl, rfl⟩))
  first
    | refine qbody_cell 0 rfl st_G rfl rfl rfl ⟨_, ⟨n, gv, rows, rfl, rfl⟩, fun w' hw => (by have h := hw; exact Cl.ofSel (by assumption) (by repeat (first | exact sel_nil | refine sel_cons 0 rfl ?_ | refine sel_cons 1 rfl ?_ | refine sel_cons 2 rfl ?_ | refine sel_cons 3 rfl ?_ | refine sel_cons 4 rfl ?_ | refine sel_cons 5 rfl ?_ | refine sel_cons 6 rfl ?_ | refine sel_cons 7 rfl ?_ | refine sel_cons 8 rfl ?_ | refine sel_cons 9 rfl ?_ | refine sel_cons 10 rfl ?_ | refine sel_cons 11 rfl ?_ | refine sel_cons 12 rfl ?_ | refine sel_cons 13 rfl ?_)))⟩
    | refine qbody_cell 1 rfl st_G rfl rfl rfl ⟨_, ⟨n, gv, rows, rfl, rfl⟩, fun w' hw => (by have h := hw; exact Cl.ofSel (by assumption) (by repeat (first | exact sel_nil | refine sel_cons 0 rfl ?_ | refine sel_cons 1 rfl ?_ | refine sel_cons 2 rfl ?_ | refine sel_cons 3 rfl ?_ | refine sel_cons 4 rfl ?_ | refine sel_cons 5 rfl ?_ | refine sel_cons 6 rfl ?_ | refine sel_cons 7 rfl ?_ | refine sel_cons 8 rfl ?_ | refine sel_cons 9 rfl ?_ | refine sel_cons 10 rfl ?_ | refine sel_cons 11 rfl ?_ | refine sel_cons 12 rfl ?_ | refine sel_cons 13 rfl ?_)))⟩
    | refine qbody_cell 2 rfl st_G rfl rfl rfl ⟨_, ⟨n, gv, rows, rfl, rfl⟩, fun w' hw => (by have h := hw; exact Cl.ofSel (by assumption) (by repeat (first | exact sel_nil | refine sel_cons 0 rfl ?_ | refine sel_cons 1 rfl ?_ | refine sel_cons 2 rfl ?_ | refine sel_cons 3 rfl ?_ | refine sel_cons 4 rfl ?_ | refine sel_cons 5 rfl ?_ | refine sel_cons 6 rfl ?_ | refine sel_cons 7 rfl ?_ | refine sel_cons 8 rfl ?_ | refine sel_cons 9 rfl ?_ | refine sel_cons 10 rfl ?_ | refine sel_cons 11 rfl ?_ | refine sel_cons 12 rfl ?_ | refine sel_cons 13 rfl ?_)))⟩
    | refine qbody_cell 3 rfl st_G rfl rfl rfl ⟨_, ⟨n, gv, rows, rfl, rfl⟩, fun w' hw => (by have h := hw; exact Cl.ofSel (by assumption) (by repeat (first | exact sel_nil | refine sel_cons 0 rfl ?_ | refine sel_cons 1 rfl ?_ | refine sel_cons 2 rfl ?_ | refine sel_cons 3 rfl ?_ | refine sel_cons 4 rfl ?_ | refine sel_cons 5 rfl ?_ | refine sel_cons 6 rfl ?_ | refine sel_cons 7 rfl ?_ | refine sel_cons 8 rfl ?_ | refine sel_cons 9 rfl ?_ | refine sel_cons 10 rfl ?_ | refine sel_cons 11 rfl ?_ | refine sel_cons 12 rfl ?_ | refine sel_cons 13 rfl ?_)))⟩
    | refine qbody_cell 4 rfl st_G rfl rfl rfl ⟨_, ⟨n, gv, rows, rfl, rfl⟩, fun w' hw => (by have h := hw; exact Cl.ofSel (by assumption) (by repeat (first | exact sel_nil | refine sel_cons 0 rfl ?_ | refine sel_cons 1 rfl ?_ | refine sel_cons 2 rfl ?_ | refine sel_cons 3 rfl ?_ | refine sel_cons 4 rfl ?_ | refine sel_cons 5 rfl ?_ | refine sel_cons 6 rfl ?_ | refine sel_cons 7 rfl ?_ | refine sel_cons 8 rfl ?_ | refine sel_cons 9 rfl ?_ | refine sel_cons 10 rfl ?_ | refine sel_cons 11 rfl ?_ | refine sel_cons 12 rfl ?_ | refine sel_cons 13 rfl ?_)))⟩
    | refine qbody_cell 5 rfl st_G rfl rfl rfl ⟨_, ⟨n, gv, rows, rfl, rfl⟩, fun w' hw => (by have h := hw; exact Cl.ofSel (by assumption) (by repeat (first | exact sel_nil | refine sel_cons 0 rfl ?_ | refine sel_cons 1 rfl ?_ | refine sel_cons 2 rfl ?_ | refine sel_cons 3 rfl ?_ | refine sel_cons 4 rfl ?_ | refine sel_cons 5 rfl ?_ | refine sel_cons 6 rfl ?_ | refine sel_cons 7 rfl ?_ | refine sel_cons 8 rfl ?_ | refine sel_cons 9 rfl ?_ | refine sel_cons 10 rfl ?_ | refine sel_cons 11 rfl ?_ | refine sel_cons 12 rfl ?_ | refine sel_cons 13 rfl ?_)))⟩
    | refine qbody_cell 6 rfl st_G rfl rfl rfl ⟨_, ⟨n, gv, rows, rfl, rfl⟩, fun w' hw => (by have h := hw; exact Cl.ofSel (by assumption) (by repeat (first | exact sel_nil | refine sel_cons 0 rfl ?_ | refine sel_cons 1 rfl ?_ | refine sel_cons 2 rfl ?_ | refine sel_cons 3 rfl ?_ | refine sel_cons 4 rfl ?_ | refine sel_cons 5 rfl ?_ | refine sel_cons 6 rfl ?_ | refine sel_cons 7 rfl ?_ | refine sel_cons 8 rfl ?_ | refine sel_cons 9 rfl ?_ | refine sel_cons 10 rfl ?_ | refine sel_cons 11 rfl ?_ | refine sel_cons 12 rfl ?_ | refine sel_cons 13 rfl ?_)))⟩
theorem en_s_DrawCountSplits : Entry Tryz.prog 22 := ⟨_, Tryz.func22, by kernel_rfl, rfl⟩
theorem s_DrawCountSplits_c (cv : Value) (l : List Int) (w : World) (hcp : CodeP w cv l) :
    Gives Tryz.prog 22 #[cv] w (fun v objs => ∃ n gv rows, v = .agg #[.int .i64 n, gv] ∧ objs = [.row 3 gv (ints rows)]) := by
  refine gives_enter (args := [_]) en_s_DrawCountSplits Tryz.func22 rfl Tryz.ntmps22 rfl ?_
  have hap := nox (cv := cv) (l := l)
  repeat' (first | apply pwp_seq | apply pwp_region | (apply px_run; (first | (apply opv_move; first | rfl)); rfl; rfl) | apply px_nil | apply qseq_normal | apply pwp_ret | (apply px_givesV [0]; rfl; rfl; rfl; rfl; rfl; (exact fun w' hw ho' => s_l18Graph_c cv l cb _ _ w' (hcp.at hap hw) (by first | exact ⟨by omega, by omega⟩) ho'); rintro _ _ ⟨n, gv, rows, ci, ch, rfl, hi, rfl⟩) | (apply px_alloc st_G; rfl; rfl; rfl; intro bk) | (apply px_store_str 2 st_G; rfl; rfl; rfl; rfl; rfl; (intro w hw; (first | refine all2 rfl ?_ ?_) <;> (first | rfl | exact stor_row 0 hw rfl)); rfl) | (apply px_gives; rfl; rfl; rfl; rfl; rfl; exact fun w hw => s_l1New_c cv l _ (hcp.at hap hw); rintro _ _ ⟨cb, h, rfl, rfl⟩))
  first
    | refine qbody_cell 0 rfl st_G rfl rfl rfl ⟨_, ⟨n, gv, rows, rfl, rfl⟩, fun w' hw => (by have h := hw; exact Cl.ofSel (by assumption) (by repeat (first | exact sel_nil | refine sel_cons 0 rfl ?_ | refine sel_cons 1 rfl ?_ | refine sel_cons 2 rfl ?_ | refine sel_cons 3 rfl ?_ | refine sel_cons 4 rfl ?_ | refine sel_cons 5 rfl ?_ | refine sel_cons 6 rfl ?_ | refine sel_cons 7 rfl ?_ | refine sel_cons 8 rfl ?_ | refine sel_cons 9 rfl ?_ | refine sel_cons 10 rfl ?_ | refine sel_cons 11 rfl ?_ | refine sel_cons 12 rfl ?_ | refine sel_cons 13 rfl ?_)))⟩
    | refine qbody_cell 1 rfl st_G rfl rfl rfl ⟨_, ⟨n, gv, rows, rfl, rfl⟩, fun w' hw => (by have h := hw; exact Cl.ofSel (by assumption) (by repeat (first | exact sel_nil | refine sel_cons 0 rfl ?_ | refine sel_cons 1 rfl ?_ | refine sel_cons 2 rfl ?_ | refine sel_cons 3 rfl ?_ | refine sel_cons 4 rfl ?_ | refine sel_cons 5 rfl ?_ | refine sel_cons 6 rfl ?_ | refine sel_cons 7 rfl ?_ | refine sel_cons 8 rfl ?_ | refine sel_cons 9 rfl ?_ | refine sel_cons 10 rfl ?_ | refine sel_cons 11 rfl ?_ | refine sel_cons 12 rfl ?_ | refine sel_cons 13 rfl ?_)))⟩
    | refine qbody_cell 2 rfl st_G rfl rfl rfl ⟨_, ⟨n, gv, rows, rfl, rfl⟩, fun w' hw => (by have h := hw; exact Cl.ofSel (by assumption) (by repeat (first | exact sel_nil | refine sel_cons 0 rfl ?_ | refine sel_cons 1 rfl ?_ | refine sel_cons 2 rfl ?_ | refine sel_cons 3 rfl ?_ | refine sel_cons 4 rfl ?_ | refine sel_cons 5 rfl ?_ | refine sel_cons 6 rfl ?_ | refine sel_cons 7 rfl ?_ | refine sel_cons 8 rfl ?_ | refine sel_cons 9 rfl ?_ | refine sel_cons 10 rfl ?_ | refine sel_cons 11 rfl ?_ | refine sel_cons 12 rfl ?_ | refine sel_cons 13 rfl ?_)))⟩
    | refine qbody_cell 3 rfl st_G rfl rfl rfl ⟨_, ⟨n, gv, rows, rfl, rfl⟩, fun w' hw => (by have h := hw; exact Cl.ofSel (by assumption) (by repeat (first | exact sel_nil | refine sel_cons 0 rfl ?_ | refine sel_cons 1 rfl ?_ | refine sel_cons 2 rfl ?_ | refine sel_cons 3 rfl ?_ | refine sel_cons 4 rfl ?_ | refine sel_cons 5 rfl ?_ | refine sel_cons 6 rfl ?_ | refine sel_cons 7 rfl ?_ | refine sel_cons 8 rfl ?_ | refine sel_cons 9 rfl ?_ | refine sel_cons 10 rfl ?_ | refine sel_cons 11 rfl ?_ | refine sel_cons 12 rfl ?_ | refine sel_cons 13 rfl ?_)))⟩
    | refine qbody_cell 4 rfl st_G rfl rfl rfl ⟨_, ⟨n, gv, rows, rfl, rfl⟩, fun w' hw => (by have h := hw; exact Cl.ofSel (by assumption) (by repeat (first | exact sel_nil | refine sel_cons 0 rfl ?_ | refine sel_cons 1 rfl ?_ | refine sel_cons 2 rfl ?_ | refine sel_cons 3 rfl ?_ | refine sel_cons 4 rfl ?_ | refine sel_cons 5 rfl ?_ | refine sel_cons 6 rfl ?_ | refine sel_cons 7 rfl ?_ | refine sel_cons 8 rfl ?_ | refine sel_cons 9 rfl ?_ | refine sel_cons 10 rfl ?_ | refine sel_cons 11 rfl ?_ | refine sel_cons 12 rfl ?_ | refine sel_cons 13 rfl ?_)))⟩
    | refine qbody_cell 5 rfl st_G rfl rfl rfl ⟨_, ⟨n, gv, rows, rfl, rfl⟩, fun w' hw => (by have h := hw; exact Cl.ofSel (by assumption) (by repeat (first | exact sel_nil | refine sel_cons 0 rfl ?_ | refine sel_cons 1 rfl ?_ | refine sel_cons 2 rfl ?_ | refine sel_cons 3 rfl ?_ | refine sel_cons 4 rfl ?_ | refine sel_cons 5 rfl ?_ | refine sel_cons 6 rfl ?_ | refine sel_cons 7 rfl ?_ | refine sel_cons 8 rfl ?_ | refine sel_cons 9 rfl ?_ | refine sel_cons 10 rfl ?_ | refine sel_cons 11 rfl ?_ | refine sel_cons 12 rfl ?_ | refine sel_cons 13 rfl ?_)))⟩
    | refine qbody_cell 6 rfl st_G rfl rfl rfl ⟨_, ⟨n, gv, rows, rfl, rfl⟩, fun w' hw => (by have h := hw; exact Cl.ofSel (by assumption) (by repeat (first | exact sel_nil | refine sel_cons 0 rfl ?_ | refine sel_cons 1 rfl ?_ | refine sel_cons 2 rfl ?_ | refine sel_cons 3 rfl ?_ | refine sel_cons 4 rfl ?_ | refine sel_cons 5 rfl ?_ | refine sel_cons 6 rfl ?_ | refine sel_cons 7 rfl ?_ | refine sel_cons 8 rfl ?_ | refine sel_cons 9 rfl ?_ | refine sel_cons 10 rfl ?_ | refine sel_cons 11 rfl ?_ | refine sel_cons 12 rfl ?_ | refine sel_cons 13 rfl ?_)))⟩
theorem en_s_DrawDegreesOf : Entry Tryz.prog 18 := ⟨_, Tryz.func18, by kernel_rfl, rfl⟩
theorem s_DrawDegreesOf_c (cv : Value) (l : List Int) (w : World) (hcp : CodeP w cv l) :
    Gives Tryz.prog 18 #[cv] w (fun v objs => ∃ n gv rows, v = .agg #[.int .i64 n, gv] ∧ objs = [.row 3 gv (ints rows)]) := by
  refine gives_enter (args := [_]) en_s_DrawDegreesOf Tryz.func18 rfl Tryz.ntmps18 rfl ?_
  have hap := nox (cv := cv) (l := l)
  repeat' (first | apply pwp_seq | apply pwp_region | (apply px_run; (first | (apply opv_move; first | rfl)); rfl; rfl) | apply px_nil | apply qseq_normal | apply pwp_ret | (apply px_givesV [0]; rfl; rfl; rfl; rfl; rfl; (exact fun w' hw ho' => s_l2Any_c cv l cb _ _ w' (hcp.at hap hw) (by first | exact ⟨by omega, by omega⟩) ho'); rintro _ _ ⟨n, gv, rows, ci, ch, hn, hrl, hgv, rfl, hi, rfl⟩) | (apply px_alloc st_G; rfl; rfl; rfl; intro bk) | (apply px_store_str 2 st_G; rfl; rfl; rfl; rfl; rfl; (intro w hw; (first | refine all2 rfl ?_ ?_) <;> (first | rfl | assumption)); rfl) | (apply px_gives; rfl; rfl; rfl; rfl; rfl; exact fun w hw => s_l1New_c cv l _ (hcp.at hap hw); rintro _ _ ⟨cb, h, rfl, rfl⟩))
  first
    | refine qbody_cell 0 rfl st_G rfl rfl rfl ⟨_, ⟨n, gv, rows, rfl, rfl⟩, fun w' hw => (by have h := hw; exact Cl.ofSel (by assumption) (by repeat (first | exact sel_nil | refine sel_cons 0 rfl ?_ | refine sel_cons 1 rfl ?_ | refine sel_cons 2 rfl ?_ | refine sel_cons 3 rfl ?_ | refine sel_cons 4 rfl ?_ | refine sel_cons 5 rfl ?_ | refine sel_cons 6 rfl ?_ | refine sel_cons 7 rfl ?_ | refine sel_cons 8 rfl ?_ | refine sel_cons 9 rfl ?_ | refine sel_cons 10 rfl ?_ | refine sel_cons 11 rfl ?_ | refine sel_cons 12 rfl ?_ | refine sel_cons 13 rfl ?_)))⟩
    | refine qbody_cell 1 rfl st_G rfl rfl rfl ⟨_, ⟨n, gv, rows, rfl, rfl⟩, fun w' hw => (by have h := hw; exact Cl.ofSel (by assumption) (by repeat (first | exact sel_nil | refine sel_cons 0 rfl ?_ | refine sel_cons 1 rfl ?_ | refine sel_cons 2 rfl ?_ | refine sel_cons 3 rfl ?_ | refine sel_cons 4 rfl ?_ | refine sel_cons 5 rfl ?_ | refine sel_cons 6 rfl ?_ | refine sel_cons 7 rfl ?_ | refine sel_cons 8 rfl ?_ | refine sel_cons 9 rfl ?_ | refine sel_cons 10 rfl ?_ | refine sel_cons 11 rfl ?_ | refine sel_cons 12 rfl ?_ | refine sel_cons 13 rfl ?_)))⟩
    | refine qbody_cell 2 rfl st_G rfl rfl rfl ⟨_, ⟨n, gv, rows, rfl, rfl⟩, fun w' hw => (by have h := hw; exact Cl.ofSel (by assumption) (by repeat (first | exact sel_nil | refine sel_cons 0 rfl ?_ | refine sel_cons 1 rfl ?_ | refine sel_cons 2 rfl ?_ | refine sel_cons 3 rfl ?_ | refine sel_cons 4 rfl ?_ | refine sel_cons 5 rfl ?_ | refine sel_cons 6 rfl ?_ | refine sel_cons 7 rfl ?_ | refine sel_cons 8 rfl ?_ | refine sel_cons 9 rfl ?_ | refine sel_cons 10 rfl ?_ | refine sel_cons 11 rfl ?_ | refine sel_cons 12 rfl ?_ | refine sel_cons 13 rfl ?_)))⟩
    | refine qbody_cell 3 rfl st_G rfl rfl rfl ⟨_, ⟨n, gv, rows, rfl, rfl⟩, fun w' hw => (by have h := hw; exact Cl.ofSel (by assumption) (by repeat (first | exact sel_nil | refine sel_cons 0 rfl ?_ | refine sel_cons 1 rfl ?_ | refine sel_cons 2 rfl ?_ | refine sel_cons 3 rfl ?_ | refine sel_cons 4 rfl ?_ | refine sel_cons 5 rfl ?_ | refine sel_cons 6 rfl ?_ | refine sel_cons 7 rfl ?_ | refine sel_cons 8 rfl ?_ | refine sel_cons 9 rfl ?_ | refine sel_cons 10 rfl ?_ | refine sel_cons 11 rfl ?_ | refine sel_cons 12 rfl ?_ | refine sel_cons 13 rfl ?_)))⟩
    | refine qbody_cell 4 rfl st_G rfl rfl rfl ⟨_, ⟨n, gv, rows, rfl, rfl⟩, fun w' hw => (by have h := hw; exact Cl.ofSel (by assumption) (by repeat (first | exact sel_nil | refine sel_cons 0 rfl ?_ | refine sel_cons 1 rfl ?_ | refine sel_cons 2 rfl ?_ | refine sel_cons 3 rfl ?_ | refine sel_cons 4 rfl ?_ | refine sel_cons 5 rfl ?_ | refine sel_cons 6 rfl ?_ | refine sel_cons 7 rfl ?_ | refine sel_cons 8 rfl ?_ | refine sel_cons 9 rfl ?_ | refine sel_cons 10 rfl ?_ | refine sel_cons 11 rfl ?_ | refine sel_cons 12 rfl ?_ | refine sel_cons 13 rfl ?_)))⟩
    | refine qbody_cell 5 rfl st_G rfl rfl rfl ⟨_, ⟨n, gv, rows, rfl, rfl⟩, fun w' hw => (by have h := hw; exact Cl.ofSel (by assumption) (by repeat (first | exact sel_nil | refine sel_cons 0 rfl ?_ | refine sel_cons 1 rfl ?_ | refine sel_cons 2 rfl ?_ | refine sel_cons 3 rfl ?_ | refine sel_cons 4 rfl ?_ | refine sel_cons 5 rfl ?_ | refine sel_cons 6 rfl ?_ | refine sel_cons 7 rfl ?_ | refine sel_cons 8 rfl ?_ | refine sel_cons 9 rfl ?_ | refine sel_cons 10 rfl ?_ | refine sel_cons 11 rfl ?_ | refine sel_cons 12 rfl ?_ | refine sel_cons 13 rfl ?_)))⟩
    | refine qbody_cell 6 rfl st_G rfl rfl rfl ⟨_, ⟨n, gv, rows, rfl, rfl⟩, fun w' hw => (by have h := hw; exact Cl.ofSel (by assumption) (by repeat (first | exact sel_nil | refine sel_cons 0 rfl ?_ | refine sel_cons 1 rfl ?_ | refine sel_cons 2 rfl ?_ | refine sel_cons 3 rfl ?_ | refine sel_cons 4 rfl ?_ | refine sel_cons 5 rfl ?_ | refine sel_cons 6 rfl ?_ | refine sel_cons 7 rfl ?_ | refine sel_cons 8 rfl ?_ | refine sel_cons 9 rfl ?_ | refine sel_cons 10 rfl ?_ | refine sel_cons 11 rfl ?_ | refine sel_cons 12 rfl ?_ | refine sel_cons 13 rfl ?_)))⟩
theorem en_s_DrawIsSplitPartition : Entry Tryz.prog 20 := ⟨_, Tryz.func20, by kernel_rfl, rfl⟩
set_option maxHeartbeats 3200000 in
theorem s_DrawIsSplitPartition_c (cv : Value) (l : List Int) (w : World) (hcp : CodeP w cv l) :
    Gives Tryz.prog 20 #[cv] w (fun v objs => ∃ n gv rows x, v = .tuple #[.agg #[.int .i64 n, gv], .int .i64 x] ∧ objs = [.row 3 gv (ints rows)]) := by
  refine gives_enter (args := [_]) en_s_DrawIsSplitPartition Tryz.func20 rfl Tryz.ntmps20 rfl ?_
  have hap := nox (cv := cv) (l := l)
  repeat' (first | apply pwp_seq | apply pwp_region | (apply px_run; (first | (apply opv_move; first | exact hid_int rfl | exact hid_bool rfl | exact hid_ptr rfl | rfl) | (apply opv_assign; first | exact hid_int rfl | exact hid_bool rfl | exact hid_ptr rfl) | (apply opv_pick_t <;> rfl) | (apply opv_pick_f <;> rfl) | (apply opv_load_str 0 st_G; rfl; rfl; rfl) | (apply opv_load_str 1 st_G; rfl; rfl; rfl) | (apply opv_extract; rfl; rfl) | (apply opv_call; rfl; rfl; exact Cl.stable _ _ _; exact fun w hw => s_SplitOf_c _ _ rows _ (by first | exact hw.rowArr (k := 1) rfl))); rfl; rfl) | apply px_nil | (apply px_skip; rfl; rfl) | apply qseq_normal | apply qseq_ret | apply pwp_skip | apply pwp_ret | (apply pwp_cond_f; rfl) | (apply pwp_region_any [0, 1, 2] [4] 3 (Cl [] w [.blk _ [.int .i64 n, gv]]); kernel_rfl; decide +kernel; exact Cl.stable _ _ _; exact fun w h => h.sub (by repeat (first | apply List.Sublist.cons_cons | exact List.sublist_append_left _ _ | apply List.Sublist.cons))) | apply qlooks_normal | (apply qstep_out; decide +kernel) | (apply qstep_in; exact fun w h => h.sub (by repeat (first | apply List.Sublist.cons_cons | exact List.sublist_append_left _ _ | apply List.Sublist.cons))) | (apply pxa_nil; decide +kernel) | (apply pxa_one 3; decide +kernel; rfl) | (apply pxa_one 4; decide +kernel; rfl) | (apply pxa_one 5; decide +kernel; rfl) | (apply px_guard; rfl; rfl; rfl; all_goals (intro hc; (first | (fail_if_success (cases hc); try (first | fail))))) | (apply pwp_cond; rfl; all_goals (intro hc; try (first | fail))) | (apply px_givesV [0]; rfl; rfl; rfl; rfl; rfl; (exact fun w' hw ho' => s_l18Graph_c cv l cb _ _ w' (hcp.at hap hw) (by first | exact ⟨by omega, by omega⟩) ho'); rintro _ _ ⟨n, gv, rows, ci, ch, rfl, hi, rfl⟩) | (apply px_givesV [2]; rfl; rfl; rfl; rfl; rfl; (exact fun w' hw ho' => s_l1Once_c cv l cb _ _ _ w' (hcp.at hap hw) (by first | assumption) ho'); rintro _ _ ⟨b, rfl, ⟨ci, ch, hi, rfl⟩⟩) | (apply px_givesV [0]; rfl; rfl; rfl; rfl; rfl; (exact fun w' hw ho' => s_l3Set_c cv _ l cb _ _ _ w' (hcp.at hap hw) (by first | assumption) ho'); rintro _ _ ⟨x, rfl, ⟨ci, ch, hi, rfl⟩⟩) | (apply px_givesV [2]; rfl; rfl; rfl; rfl; rfl; (exact fun w' hw ho' => s_l3Set_c cv _ l cb _ _ _ w' (hcp.at hap hw) (by first | assumption) ho'); rintro _ _ ⟨x, rfl, ⟨ci, ch, hi, rfl⟩⟩) | (apply px_alloc st_G; rfl; rfl; rfl; intro bk) | (apply px_store_str 0 st_G; rfl; rfl; rfl; rfl; rfl; (intro w hw; (first | refine all2 rfl ?_ ?_) <;> (first | rfl | exact stor_row 1 hw rfl)); rfl) | (apply px_store_str 3 st_G; rfl; rfl; rfl; rfl; rfl; (intro w hw; (first | refine all2 rfl ?_ ?_) <;> (first | rfl | exact stor_row 2 hw rfl)); rfl) | (apply px_gives; rfl; rfl; rfl; rfl; rfl; exact fun w hw => s_l1New_c cv l _ (hcp.at hap hw); rintro _ _ ⟨cb, h, rfl, rfl⟩))
  all_goals first
    | refine qbody_cell_tmp 0 rfl st_G rfl rfl rfl rfl ⟨_, ⟨n, gv, rows, _, rfl, rfl⟩, fun w' hw => (by have h := hw; exact Cl.ofSel (by assumption) (by repeat (first | exact sel_nil | refine sel_cons 0 rfl ?_ | refine sel_cons 1 rfl ?_ | refine sel_cons 2 rfl ?_ | refine sel_cons 3 rfl ?_ | refine sel_cons 4 rfl ?_ | refine sel_cons 5 rfl ?_ | refine sel_cons 6 rfl ?_ | refine sel_cons 7 rfl ?_ | refine sel_cons 8 rfl ?_ | refine sel_cons 9 rfl ?_ | refine sel_cons 10 rfl ?_ | refine sel_cons 11 rfl ?_ | refine sel_cons 12 rfl ?_ | refine sel_cons 13 rfl ?_)))⟩
    | refine qbody_cell_tmp 1 rfl st_G rfl rfl rfl rfl ⟨_, ⟨n, gv, rows, _, rfl, rfl⟩, fun w' hw => (by have h := hw; exact Cl.ofSel (by assumption) (by repeat (first | exact sel_nil | refine sel_cons 0 rfl ?_ | refine sel_cons 1 rfl ?_ | refine sel_cons 2 rfl ?_ | refine sel_cons 3 rfl ?_ | refine sel_cons 4 rfl ?_ | refine sel_cons 5 rfl ?_ | refine sel_cons 6 rfl ?_ | refine sel_cons 7 rfl ?_ | refine sel_cons 8 rfl ?_ | refine sel_cons 9 rfl ?_ | refine sel_cons 10 rfl ?_ | refine sel_cons 11 rfl ?_ | refine sel_cons 12 rfl ?_ | refine sel_cons 13 rfl ?_)))⟩
    | refine qbody_cell_tmp 2 rfl st_G rfl rfl rfl rfl ⟨_, ⟨n, gv, rows, _, rfl, rfl⟩, fun w' hw => (by have h := hw; exact Cl.ofSel (by assumption) (by repeat (first | exact sel_nil | refine sel_cons 0 rfl ?_ | refine sel_cons 1 rfl ?_ | refine sel_cons 2 rfl ?_ | refine sel_cons 3 rfl ?_ | refine sel_cons 4 rfl ?_ | refine sel_cons 5 rfl ?_ | refine sel_cons 6 rfl ?_ | refine sel_cons 7 rfl ?_ | refine sel_cons 8 rfl ?_ | refine sel_cons 9 rfl ?_ | refine sel_cons 10 rfl ?_ | refine sel_cons 11 rfl ?_ | refine sel_cons 12 rfl ?_ | refine sel_cons 13 rfl ?_)))⟩
    | refine qbody_cell_tmp 3 rfl st_G rfl rfl rfl rfl ⟨_, ⟨n, gv, rows, _, rfl, rfl⟩, fun w' hw => (by have h := hw; exact Cl.ofSel (by assumption) (by repeat (first | exact sel_nil | refine sel_cons 0 rfl ?_ | refine sel_cons 1 rfl ?_ | refine sel_cons 2 rfl ?_ | refine sel_cons 3 rfl ?_ | refine sel_cons 4 rfl ?_ | refine sel_cons 5 rfl ?_ | refine sel_cons 6 rfl ?_ | refine sel_cons 7 rfl ?_ | refine sel_cons 8 rfl ?_ | refine sel_cons 9 rfl ?_ | refine sel_cons 10 rfl ?_ | refine sel_cons 11 rfl ?_ | refine sel_cons 12 rfl ?_ | refine sel_cons 13 rfl ?_)))⟩
    | refine qbody_cell_tmp 4 rfl st_G rfl rfl rfl rfl ⟨_, ⟨n, gv, rows, _, rfl, rfl⟩, fun w' hw => (by have h := hw; exact Cl.ofSel (by assumption) (by repeat (first | exact sel_nil | refine sel_cons 0 rfl ?_ | refine sel_cons 1 rfl ?_ | refine sel_cons 2 rfl ?_ | refine sel_cons 3 rfl ?_ | refine sel_cons 4 rfl ?_ | refine sel_cons 5 rfl ?_ | refine sel_cons 6 rfl ?_ | refine sel_cons 7 rfl ?_ | refine sel_cons 8 rfl ?_ | refine sel_cons 9 rfl ?_ | refine sel_cons 10 rfl ?_ | refine sel_cons 11 rfl ?_ | refine sel_cons 12 rfl ?_ | refine sel_cons 13 rfl ?_)))⟩
    | refine qbody_cell_tmp 5 rfl st_G rfl rfl rfl rfl ⟨_, ⟨n, gv, rows, _, rfl, rfl⟩, fun w' hw => (by have h := hw; exact Cl.ofSel (by assumption) (by repeat (first | exact sel_nil | refine sel_cons 0 rfl ?_ | refine sel_cons 1 rfl ?_ | refine sel_cons 2 rfl ?_ | refine sel_cons 3 rfl ?_ | refine sel_cons 4 rfl ?_ | refine sel_cons 5 rfl ?_ | refine sel_cons 6 rfl ?_ | refine sel_cons 7 rfl ?_ | refine sel_cons 8 rfl ?_ | refine sel_cons 9 rfl ?_ | refine sel_cons 10 rfl ?_ | refine sel_cons 11 rfl ?_ | refine sel_cons 12 rfl ?_ | refine sel_cons 13 rfl ?_)))⟩
    | refine qbody_cell_tmp 6 rfl st_G rfl rfl rfl rfl ⟨_, ⟨n, gv, rows, _, rfl, rfl⟩, fun w' hw => (by have h := hw; exact Cl.ofSel (by assumption) (by repeat (first | exact sel_nil | refine sel_cons 0 rfl ?_ | refine sel_cons 1 rfl ?_ | refine sel_cons 2 rfl ?_ | refine sel_cons 3 rfl ?_ | refine sel_cons 4 rfl ?_ | refine sel_cons 5 rfl ?_ | refine sel_cons 6 rfl ?_ | refine sel_cons 7 rfl ?_ | refine sel_cons 8 rfl ?_ | refine sel_cons 9 rfl ?_ | refine sel_cons 10 rfl ?_ | refine sel_cons 11 rfl ?_ | refine sel_cons 12 rfl ?_ | refine sel_cons 13 rfl ?_)))⟩
    | refine qbody_cell_tmp 7 rfl st_G rfl rfl rfl rfl ⟨_, ⟨n, gv, rows, _, rfl, rfl⟩, fun w' hw => (by have h := hw; exact Cl.ofSel (by assumption) (by repeat (first | exact sel_nil | refine sel_cons 0 rfl ?_ | refine sel_cons 1 rfl ?_ | refine sel_cons 2 rfl ?_ | refine sel_cons 3 rfl ?_ | refine sel_cons 4 rfl ?_ | refine sel_cons 5 rfl ?_ | refine sel_cons 6 rfl ?_ | refine sel_cons 7 rfl ?_ | refine sel_cons 8 rfl ?_ | refine sel_cons 9 rfl ?_ | refine sel_cons 10 rfl ?_ | refine sel_cons 11 rfl ?_ | refine sel_cons 12 rfl ?_ | refine sel_cons 13 rfl ?_)))⟩
theorem en_s_DrawIsSplitObstacle : Entry Tryz.prog 21 := ⟨_, Tryz.func21, by kernel_rfl, rfl⟩
set_option maxHeartbeats 3200000 in
theorem s_DrawIsSplitObstacle_c (cv : Value) (l : List Int) (w : World) (hcp : CodeP w cv l) :
    Gives Tryz.prog 21 #[cv] w (fun v objs => ∃ n gv rows lv L, v = .tuple #[.agg #[.int .i64 n, gv], lv] ∧ objs = [.row 3 gv (ints rows), .row 3 lv (ints L)]) := by
  refine gives_enter (args := [_]) en_s_DrawIsSplitObstacle Tryz.func21 rfl Tryz.ntmps21 rfl ?_
  have hap := nox (cv := cv) (l := l)
  repeat' (first | apply pwp_seq | apply pwp_region | (apply px_run; (first | (apply opv_move; first | exact hid_bool rfl | exact hid_ptr rfl | rfl) | (apply opv_assign; first | exact hid_bool rfl | exact hid_ptr rfl | rfl) | (apply opv_pick_t <;> rfl) | (apply opv_pick_f <;> rfl) | (apply opv_not <;> rfl) | (apply opv_load_str 0 st_G; rfl; rfl; rfl) | (apply opv_load_str 2 st_G; rfl; rfl; rfl) | (apply opv_extract; rfl; rfl)); rfl; rfl) | apply px_nil | (apply px_skip; rfl; rfl) | apply qseq_normal | apply qseq_ret | apply pwp_skip | apply pwp_ret | (apply pwp_cond_f; rfl) | (apply pwp_region_any [0, 1, 2] [4] 3 (Cl [] w [.blk _ [.int .i64 n, gv]]); kernel_rfl; decide +kernel; exact Cl.stable _ _ _; exact fun w h => h.sub (by repeat (first | apply List.Sublist.cons_cons | exact List.sublist_append_left _ _ | apply List.Sublist.cons))) | apply qlooks_normal | (apply qstep_out; decide +kernel) | (apply qstep_in; exact fun w h => h.sub (by repeat (first | apply List.Sublist.cons_cons | exact List.sublist_append_left _ _ | apply List.Sublist.cons))) | (apply pxa_nil; decide +kernel) | (apply pxa_one 3; decide +kernel; rfl) | (apply pxa_one 4; decide +kernel; rfl) | (apply pxa_one 5; decide +kernel; rfl) | (apply px_guard; rfl; rfl; rfl; all_goals (intro hc; (first | (fail_if_success (cases hc); try (first | fail))))) | (apply pwp_cond_not; rfl; all_goals (intro hc; try (first | fail))) | (apply px_givesV [0]; rfl; rfl; rfl; rfl; rfl; (exact fun w' hw ho' => s_l18Graph_c cv l cb _ _ w' (hcp.at hap hw) (by first | exact ⟨by omega, by omega⟩) ho'); rintro _ _ ⟨n, gv, rows, ci, ch, rfl, hi, rfl⟩) | (apply px_givesV [3]; rfl; rfl; rfl; rfl; rfl; (exact fun w' hw ho' => s_l1Once_c cv l cb _ _ _ w' (hcp.at hap hw) (by first | assumption) ho'); rintro _ _ ⟨b, rfl, ⟨ci, ch, hi, rfl⟩⟩) | (apply px_givesV [0]; rfl; rfl; rfl; rfl; rfl; (exact fun w' hw ho' => s_l4List_c cv _ l cb _ _ _ w' (hcp.at hap hw) (by first | assumption) ho'); rintro _ _ ⟨tL, ci, ch, htl, hi, rfl⟩) | (apply px_givesV [3]; rfl; rfl; rfl; rfl; rfl; (exact fun w' hw ho' => s_l4List_c cv _ l cb _ _ _ w' (hcp.at hap hw) (by first | assumption) ho'); rintro _ _ ⟨tL, ci, ch, htl, hi, rfl⟩) | (apply px_alloc st_G; rfl; rfl; rfl; intro bk) | (apply px_store_str 0 st_G; rfl; rfl; rfl; rfl; rfl; (intro w hw; (first | refine all2 rfl ?_ ?_) <;> (first | rfl | exact stor_row 1 hw rfl)); rfl) | (apply px_store_str 4 st_G; rfl; rfl; rfl; rfl; rfl; (intro w hw; (first | refine all2 rfl ?_ ?_) <;> (first | rfl | exact stor_row 3 hw rfl)); rfl) | (apply px_store_str 5 st_G; rfl; rfl; rfl; rfl; rfl; (intro w hw; (first | refine all2 rfl ?_ ?_) <;> (first | rfl | exact stor_row 4 hw rfl)); rfl) | (apply px_gives; rfl; rfl; rfl; rfl; rfl; exact fun w hw => s_l1New_c cv l _ (hcp.at hap hw); rintro _ _ ⟨cb, h, rfl, rfl⟩) | (apply px_gives; rfl; rfl; rfl; rfl; rfl; exact fun w hw => s_SplitObstacle_c _ _ rows _ (by first | exact hw.rowArr (k := 1) rfl); rintro _ _ ⟨wv, rfl, rfl⟩))
  all_goals first
    | exact qbody_cell_tmp (v := wv) 0 rfl st_G rfl rfl rfl rfl ⟨_, ⟨n, gv, rows, wv, _, rfl, rfl⟩, fun w' hw => (by have h := hw; exact Cl.ofSel (by assumption) (by repeat (first | exact sel_nil | refine sel_cons 0 rfl ?_ | refine sel_cons 1 rfl ?_ | refine sel_cons 2 rfl ?_ | refine sel_cons 3 rfl ?_ | refine sel_cons 4 rfl ?_ | refine sel_cons 5 rfl ?_ | refine sel_cons 6 rfl ?_ | refine sel_cons 7 rfl ?_ | refine sel_cons 8 rfl ?_ | refine sel_cons 9 rfl ?_ | refine sel_cons 10 rfl ?_ | refine sel_cons 11 rfl ?_ | refine sel_cons 12 rfl ?_ | refine sel_cons 13 rfl ?_)))⟩
    | exact qbody_cell_tmp (v := _) 0 rfl st_G rfl rfl rfl rfl ⟨_, ⟨n, gv, rows, _, tL, rfl, rfl⟩, fun w' hw => (by have h := hw; exact Cl.ofSel (by assumption) (by repeat (first | exact sel_nil | refine sel_cons 0 rfl ?_ | refine sel_cons 1 rfl ?_ | refine sel_cons 2 rfl ?_ | refine sel_cons 3 rfl ?_ | refine sel_cons 4 rfl ?_ | refine sel_cons 5 rfl ?_ | refine sel_cons 6 rfl ?_ | refine sel_cons 7 rfl ?_ | refine sel_cons 8 rfl ?_ | refine sel_cons 9 rfl ?_ | refine sel_cons 10 rfl ?_ | refine sel_cons 11 rfl ?_ | refine sel_cons 12 rfl ?_ | refine sel_cons 13 rfl ?_)))⟩
    | exact qbody_cell_tmp (v := wv) 1 rfl st_G rfl rfl rfl rfl ⟨_, ⟨n, gv, rows, wv, _, rfl, rfl⟩, fun w' hw => (by have h := hw; exact Cl.ofSel (by assumption) (by repeat (first | exact sel_nil | refine sel_cons 0 rfl ?_ | refine sel_cons 1 rfl ?_ | refine sel_cons 2 rfl ?_ | refine sel_cons 3 rfl ?_ | refine sel_cons 4 rfl ?_ | refine sel_cons 5 rfl ?_ | refine sel_cons 6 rfl ?_ | refine sel_cons 7 rfl ?_ | refine sel_cons 8 rfl ?_ | refine sel_cons 9 rfl ?_ | refine sel_cons 10 rfl ?_ | refine sel_cons 11 rfl ?_ | refine sel_cons 12 rfl ?_ | refine sel_cons 13 rfl ?_)))⟩
    | exact qbody_cell_tmp (v := _) 1 rfl st_G rfl rfl rfl rfl ⟨_, ⟨n, gv, rows, _, tL, rfl, rfl⟩, fun w' hw => (by have h := hw; exact Cl.ofSel (by assumption) (by repeat (first | exact sel_nil | refine sel_cons 0 rfl ?_ | refine sel_cons 1 rfl ?_ | refine sel_cons 2 rfl ?_ | refine sel_cons 3 rfl ?_ | refine sel_cons 4 rfl ?_ | refine sel_cons 5 rfl ?_ | refine sel_cons 6 rfl ?_ | refine sel_cons 7 rfl ?_ | refine sel_cons 8 rfl ?_ | refine sel_cons 9 rfl ?_ | refine sel_cons 10 rfl ?_ | refine sel_cons 11 rfl ?_ | refine sel_cons 12 rfl ?_ | refine sel_cons 13 rfl ?_)))⟩
    | exact qbody_cell_tmp (v := wv) 2 rfl st_G rfl rfl rfl rfl ⟨_, ⟨n, gv, rows, wv, _, rfl, rfl⟩, fun w' hw => (by have h := hw; exact Cl.ofSel (by assumption) (by repeat (first | exact sel_nil | refine sel_cons 0 rfl ?_ | refine sel_cons 1 rfl ?_ | refine sel_cons 2 rfl ?_ | refine sel_cons 3 rfl ?_ | refine sel_cons 4 rfl ?_ | refine sel_cons 5 rfl ?_ | refine sel_cons 6 rfl ?_ | refine sel_cons 7 rfl ?_ | refine sel_cons 8 rfl ?_ | refine sel_cons 9 rfl ?_ | refine sel_cons 10 rfl ?_ | refine sel_cons 11 rfl ?_ | refine sel_cons 12 rfl ?_ | refine sel_cons 13 rfl ?_)))⟩
    | exact qbody_cell_tmp (v := _) 2 rfl st_G rfl rfl rfl rfl ⟨_, ⟨n, gv, rows, _, tL, rfl, rfl⟩, fun w' hw => (by have h := hw; exact Cl.ofSel (by assumption) (by repeat (first | exact sel_nil | refine sel_cons 0 rfl ?_ | refine sel_cons 1 rfl ?_ | refine sel_cons 2 rfl ?_ | refine sel_cons 3 rfl ?_ | refine sel_cons 4 rfl ?_ | refine sel_cons 5 rfl ?_ | refine sel_cons 6 rfl ?_ | refine sel_cons 7 rfl ?_ | refine sel_cons 8 rfl ?_ | refine sel_cons 9 rfl ?_ | refine sel_cons 10 rfl ?_ | refine sel_cons 11 rfl ?_ | refine sel_cons 12 rfl ?_ | refine sel_cons 13 rfl ?_)))⟩
    | exact qbody_cell_tmp (v := wv) 3 rfl st_G rfl rfl rfl rfl ⟨_, ⟨n, gv, rows, wv, _, rfl, rfl⟩, fun w' hw => (by have h := hw; exact Cl.ofSel (by assumption) (by repeat (first | exact sel_nil | refine sel_cons 0 rfl ?_ | refine sel_cons 1 rfl ?_ | refine sel_cons 2 rfl ?_ | refine sel_cons 3 rfl ?_ | refine sel_cons 4 rfl ?_ | refine sel_cons 5 rfl ?_ | refine sel_cons 6 rfl ?_ | refine sel_cons 7 rfl ?_ | refine sel_cons 8 rfl ?_ | refine sel_cons 9 rfl ?_ | refine sel_cons 10 rfl ?_ | refine sel_cons 11 rfl ?_ | refine sel_cons 12 rfl ?_ | refine sel_cons 13 rfl ?_)))⟩
    | exact qbody_cell_tmp (v := _) 3 rfl st_G rfl rfl rfl rfl ⟨_, ⟨n, gv, rows, _, tL, rfl, rfl⟩, fun w' hw => (by have h := hw; exact Cl.ofSel (by assumption) (by repeat (first | exact sel_nil | refine sel_cons 0 rfl ?_ | refine sel_cons 1 rfl ?_ | refine sel_cons 2 rfl ?_ | refine sel_cons 3 rfl ?_ | refine sel_cons 4 rfl ?_ | refine sel_cons 5 rfl ?_ | refine sel_cons 6 rfl ?_ | refine sel_cons 7 rfl ?_ | refine sel_cons 8 rfl ?_ | refine sel_cons 9 rfl ?_ | refine sel_cons 10 rfl ?_ | refine sel_cons 11 rfl ?_ | refine sel_cons 12 rfl ?_ | refine sel_cons 13 rfl ?_)))⟩
    | exact qbody_cell_tmp (v := wv) 4 rfl st_G rfl rfl rfl rfl ⟨_, ⟨n, gv, rows, wv, _, rfl, rfl⟩, fun w' hw => (by have h := hw; exact Cl.ofSel (by assumption) (by repeat (first | exact sel_nil | refine sel_cons 0 rfl ?_ | refine sel_cons 1 rfl ?_ | refine sel_cons 2 rfl ?_ | refine sel_cons 3 rfl ?_ | refine sel_cons 4 rfl ?_ | refine sel_cons 5 rfl ?_ | refine sel_cons 6 rfl ?_ | refine sel_cons 7 rfl ?_ | refine sel_cons 8 rfl ?_ | refine sel_cons 9 rfl ?_ | refine sel_cons 10 rfl ?_ | refine sel_cons 11 rfl ?_ | refine sel_cons 12 rfl ?_ | refine sel_cons 13 rfl ?_)))⟩
    | exact qbody_cell_tmp (v := _) 4 rfl st_G rfl rfl rfl rfl ⟨_, ⟨n, gv, rows, _, tL, rfl, rfl⟩, fun w' hw => (by have h := hw; exact Cl.ofSel (by assumption) (by repeat (first | exact sel_nil | refine sel_cons 0 rfl ?_ | refine sel_cons 1 rfl ?_ | refine sel_cons 2 rfl ?_ | refine sel_cons 3 rfl ?_ | refine sel_cons 4 rfl ?_ | refine sel_cons 5 rfl ?_ | refine sel_cons 6 rfl ?_ | refine sel_cons 7 rfl ?_ | refine sel_cons 8 rfl ?_ | refine sel_cons 9 rfl ?_ | refine sel_cons 10 rfl ?_ | refine sel_cons 11 rfl ?_ | refine sel_cons 12 rfl ?_ | refine sel_cons 13 rfl ?_)))⟩
    | exact qbody_cell_tmp (v := wv) 5 rfl st_G rfl rfl rfl rfl ⟨_, ⟨n, gv, rows, wv, _, rfl, rfl⟩, fun w' hw => (by have h := hw; exact Cl.ofSel (by assumption) (by repeat (first | exact sel_nil | refine sel_cons 0 rfl ?_ | refine sel_cons 1 rfl ?_ | refine sel_cons 2 rfl ?_ | refine sel_cons 3 rfl ?_ | refine sel_cons 4 rfl ?_ | refine sel_cons 5 rfl ?_ | refine sel_cons 6 rfl ?_ | refine sel_cons 7 rfl ?_ | refine sel_cons 8 rfl ?_ | refine sel_cons 9 rfl ?_ | refine sel_cons 10 rfl ?_ | refine sel_cons 11 rfl ?_ | refine sel_cons 12 rfl ?_ | refine sel_cons 13 rfl ?_)))⟩
    | exact qbody_cell_tmp (v := _) 5 rfl st_G rfl rfl rfl rfl ⟨_, ⟨n, gv, rows, _, tL, rfl, rfl⟩, fun w' hw => (by have h := hw; exact Cl.ofSel (by assumption) (by repeat (first | exact sel_nil | refine sel_cons 0 rfl ?_ | refine sel_cons 1 rfl ?_ | refine sel_cons 2 rfl ?_ | refine sel_cons 3 rfl ?_ | refine sel_cons 4 rfl ?_ | refine sel_cons 5 rfl ?_ | refine sel_cons 6 rfl ?_ | refine sel_cons 7 rfl ?_ | refine sel_cons 8 rfl ?_ | refine sel_cons 9 rfl ?_ | refine sel_cons 10 rfl ?_ | refine sel_cons 11 rfl ?_ | refine sel_cons 12 rfl ?_ | refine sel_cons 13 rfl ?_)))⟩
    | exact qbody_cell_tmp (v := wv) 6 rfl st_G rfl rfl rfl rfl ⟨_, ⟨n, gv, rows, wv, _, rfl, rfl⟩, fun w' hw => (by have h := hw; exact Cl.ofSel (by assumption) (by repeat (first | exact sel_nil | refine sel_cons 0 rfl ?_ | refine sel_cons 1 rfl ?_ | refine sel_cons 2 rfl ?_ | refine sel_cons 3 rfl ?_ | refine sel_cons 4 rfl ?_ | refine sel_cons 5 rfl ?_ | refine sel_cons 6 rfl ?_ | refine sel_cons 7 rfl ?_ | refine sel_cons 8 rfl ?_ | refine sel_cons 9 rfl ?_ | refine sel_cons 10 rfl ?_ | refine sel_cons 11 rfl ?_ | refine sel_cons 12 rfl ?_ | refine sel_cons 13 rfl ?_)))⟩
    | exact qbody_cell_tmp (v := _) 6 rfl st_G rfl rfl rfl rfl ⟨_, ⟨n, gv, rows, _, tL, rfl, rfl⟩, fun w' hw => (by have h := hw; exact Cl.ofSel (by assumption) (by repeat (first | exact sel_nil | refine sel_cons 0 rfl ?_ | refine sel_cons 1 rfl ?_ | refine sel_cons 2 rfl ?_ | refine sel_cons 3 rfl ?_ | refine sel_cons 4 rfl ?_ | refine sel_cons 5 rfl ?_ | refine sel_cons 6 rfl ?_ | refine sel_cons 7 rfl ?_ | refine sel_cons 8 rfl ?_ | refine sel_cons 9 rfl ?_ | refine sel_cons 10 rfl ?_ | refine sel_cons 11 rfl ?_ | refine sel_cons 12 rfl ?_ | refine sel_cons 13 rfl ?_)))⟩
    | exact qbody_cell_tmp (v := wv) 7 rfl st_G rfl rfl rfl rfl ⟨_, ⟨n, gv, rows, wv, _, rfl, rfl⟩, fun w' hw => (by have h := hw; exact Cl.ofSel (by assumption) (by repeat (first | exact sel_nil | refine sel_cons 0 rfl ?_ | refine sel_cons 1 rfl ?_ | refine sel_cons 2 rfl ?_ | refine sel_cons 3 rfl ?_ | refine sel_cons 4 rfl ?_ | refine sel_cons 5 rfl ?_ | refine sel_cons 6 rfl ?_ | refine sel_cons 7 rfl ?_ | refine sel_cons 8 rfl ?_ | refine sel_cons 9 rfl ?_ | refine sel_cons 10 rfl ?_ | refine sel_cons 11 rfl ?_ | refine sel_cons 12 rfl ?_ | refine sel_cons 13 rfl ?_)))⟩
    | exact qbody_cell_tmp (v := _) 7 rfl st_G rfl rfl rfl rfl ⟨_, ⟨n, gv, rows, _, tL, rfl, rfl⟩, fun w' hw => (by have h := hw; exact Cl.ofSel (by assumption) (by repeat (first | exact sel_nil | refine sel_cons 0 rfl ?_ | refine sel_cons 1 rfl ?_ | refine sel_cons 2 rfl ?_ | refine sel_cons 3 rfl ?_ | refine sel_cons 4 rfl ?_ | refine sel_cons 5 rfl ?_ | refine sel_cons 6 rfl ?_ | refine sel_cons 7 rfl ?_ | refine sel_cons 8 rfl ?_ | refine sel_cons 9 rfl ?_ | refine sel_cons 10 rfl ?_ | refine sel_cons 11 rfl ?_ | refine sel_cons 12 rfl ?_ | refine sel_cons 13 rfl ?_)))⟩
end Go.Proofs.YtcicdnpmlcjcmaaGreat
