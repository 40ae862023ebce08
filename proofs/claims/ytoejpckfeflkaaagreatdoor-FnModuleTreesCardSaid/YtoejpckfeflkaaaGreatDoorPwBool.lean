/- Rows of bools; slices beside nil; lists turned round. -/
import Derived.Test.YtoejpckfeflkaaaGreatDoorPwFun
import Derived.Test.YtoejpckfeflkaaaGreatDoorPwAny
import Derived.Lib.BufferMore
import Derived.Laws.Tables
namespace Go.Pw
open Go Go.RowKit

def bools (l : List Bool) : List Value := l.map Value.bool
@[simp] theorem bools_length (l : List Bool) : (bools l).length = l.length := by simp [bools]
theorem bools_get (l : List Bool) (i : Nat) (h : i < l.length) : (bools l)[i]? = some (.bool (l.getD i false)) := by simp [bools, List.getD, h]
theorem stor_bools {l : List Bool} : ∀ u ∈ bools l, storable u = true := by intro u hu; simp [bools] at hu; rcases hu with ⟨_, rfl⟩ | ⟨_, rfl⟩ <;> rfl
theorem bools_snoc (l : List Bool) (x : Bool) : bools l ++ [Value.bool x] = bools (l ++ [x]) := by simp [bools]
theorem bools_app (l m : List Bool) : bools l ++ bools m = bools (l ++ m) := by simp [bools]
theorem bools_set (l : List Bool) (i : Nat) (x : Bool) : (bools l).set i (.bool x) = bools (l.set i x) := by simp [bools, List.map_set]
theorem Arr.lenb {w : World} {sv : Value} {l : List Bool} (hr : Arr w sv (bools l)) : l.length ≤ 9223372036854775807 := by
  rcases hr.out with ⟨h, _⟩ | ⟨b, off, cap, _, _, h, _⟩
  · simp [bools] at h; simp [h]
  · simp only [bools_length, maxLen] at h; omega

def nilB : Value → Bool
  | .slice none _ _ => true
  | _ => false
theorem nil_arr {w : World} {sv : Value} {vs : List Value} (h : Arr w sv vs) (hn : nilB sv = true) : vs = [] := by
  rcases h.out with ⟨h, _⟩ | ⟨b, off, cap, rfl, _⟩
  · exact h
  · cases hn

section
variable {P : Program} {C : Cls} {ρ : Operand → Value} {d : Option Tmp} {t ty : TypeId} {pos : String} {af : Array Edge} {g : Option (Nat × Bool)} {x y : Operand} {t' : TypeId}
theorem opv_load_bools {sv : Value} {l : List Bool} {i : Nat} (ht : Scalar P t) (hx : ρ x = .pointer (some (addrOf sv i))) (hr : Rd C sv (bools l)) (hi : i < l.length) : Opv P C ρ ⟨d, .load t x, ty, pos, af, g⟩ (.bool (l.getD i false)) :=
  opv_load_arr ht hx hr (bools_get l i hi)
theorem opv_len_bools {sv : Value} {l : List Bool} {e : TypeId} (ht : Elem1 P t e) (hx : ρ x = sv) (hr : Rd C sv (bools l)) : Opv P C ρ ⟨d, .call { callee := .builtin .len, args := #[x], argTypes := #[t] }, ty, pos, af, g⟩ (.int .i64 (l.length : Int)) := by
  have := opv_len (d := d) (ty := ty) (pos := pos) (af := af) (g := g) ht hx hr
  rwa [bools_length] at this
theorem opv_eql_nil {sv : Value} {vs : List Value} {e : TypeId} (ht : Elem1 P t e) (hx : ρ x = sv) (hy : ρ y = .slice none 0 0) (hr : Rd C sv vs) : Opv P C ρ ⟨d, .binOp .eql t x y t', ty, pos, af, g⟩ (.bool (nilB sv)) :=
  opv_of_run fun w hw => by
    have hu := ht.1
    rcases (hr.out w hw).out with ⟨_, ao, cap, rfl, hz⟩ | ⟨b, off, cap, rfl, _⟩
    · cases ao with
      | none =>
        obtain rfl := hz rfl
        simp [execOp, go_sem, hx, hy, Lib.run_eql_slice_nil_nil w _ _ hu]; rfl
      | some a => simp [execOp, go_sem, hx, hy, Lib.run_eql_slice_some_nil w _ _ _ hu]; rfl
    · simp [execOp, go_sem, hx, hy, Lib.run_eql_slice_some_nil w _ _ _ hu]; rfl
end

section
variable {P : Program} {n : Nat} {ops : List Oper} {l : List Oper} {Q : Post} {E : Env} {X : List Nat} {w0 : World} {objs : List Ob} {t ty e : TypeId} {pos : String} {af : Array Edge} {g : Option (Nat × Bool)} {x y : Operand}
theorem px_store_int {sv : Value} {xs : List Int} {m : Int} {i : Nat} (k : Nat) (hsz : P.cellsOf t = 1) (hx : ev E x = .pointer (some (addrOf sv i))) (hy : ev E y = .int .i64 m) (hn : nthOb objs k = some (.row e sv (ints xs))) (hi : i < xs.length)
    (hw : wantE ops E g = true) (h : Px P n ops .seq l Q E (Cl X w0 (setOb objs k (.row e sv (ints (xs.set i m)))))) : Px P n ops .seq (⟨Option.none, .store t x y, ty, pos, af, g⟩ :: l) Q E (Cl X w0 objs) :=
  px_store_row k hsz hx hy hn (fun _ _ => rfl) (by simpa using hi) hw (by rw [ints_set]; exact h)
theorem px_store_bool {sv : Value} {xs : List Bool} {m : Bool} {i : Nat} (k : Nat) (hsz : P.cellsOf t = 1) (hx : ev E x = .pointer (some (addrOf sv i))) (hy : ev E y = .bool m) (hn : nthOb objs k = some (.row e sv (bools xs))) (hi : i < xs.length)
    (hw : wantE ops E g = true) (h : Px P n ops .seq l Q E (Cl X w0 (setOb objs k (.row e sv (bools (xs.set i m)))))) : Px P n ops .seq (⟨Option.none, .store t x y, ty, pos, af, g⟩ :: l) Q E (Cl X w0 objs) :=
  px_store_row k hsz hx hy hn (fun _ _ => rfl) (by simpa using hi) hw (by rw [bools_set]; exact h)
end

/-- A list of which i members at each end have changed places. -/
def revU {α : Type} (z : α) (l : List α) : Nat → List α
  | 0 => l
  | i + 1 => ((revU z l i).set i ((revU z l i).getD (l.length - 1 - i) z)).set (l.length - 1 - i) ((revU z l i).getD i z)
@[simp] theorem revU_length {α : Type} (z : α) (l : List α) : ∀ i : Nat, (revU z l i).length = l.length
  | 0 => rfl
  | i + 1 => by simp [revU, revU_length z l i]
theorem getD_set_list {α : Type} (z : α) (l : List α) (i k : Nat) (x : α) (hi : i < l.length) : (l.set i x).getD k z = if k = i then x else l.getD k z := by
  simp only [List.getD, List.getElem?_set]
  by_cases h : i = k
  · subst h; simp [hi]
  · rw [if_neg h, if_neg (fun e => h e.symm)]
theorem revU_get {α : Type} (z : α) (l : List α) : ∀ i : Nat, 2 * i ≤ l.length → ∀ k, k < l.length → (revU z l i).getD k z = if k < i ∨ l.length ≤ k + i then l.getD (l.length - 1 - k) z else l.getD k z
  | 0, _, k, hk => by rw [if_neg (by omega)]; rfl
  | i + 1, hi, k, hk => by
    have h1 := revU_get z l i (by omega)
    have e1 := h1 i (by omega)
    have e2 := h1 (l.length - 1 - i) (by omega)
    rw [if_neg (by omega)] at e1 e2
    unfold revU
    rw [getD_set_list z _ _ _ _ (by simp; omega), getD_set_list z _ _ _ _ (by simp; omega), e1, e2, h1 k hk]
    by_cases q1 : k = l.length - 1 - i
    · rw [if_pos q1, if_pos (by omega)]
      congr 1; omega
    · rw [if_neg q1]
      by_cases q2 : k = i
      · rw [if_pos q2, if_pos (by omega), q2]
      · rw [if_neg q2]
        by_cases q3 : k < i ∨ l.length ≤ k + i
        · rw [if_pos q3, if_pos (by omega)]
        · rw [if_neg q3, if_neg (by omega)]
theorem revU_all {α : Type} (z : α) (l : List α) (i : Nat) (h1 : 2 * i ≤ l.length) (h2 : l.length ≤ 2 * i + 1) : revU z l i = l.reverse := by
  apply List.ext_getElem
  · simp
  · intro k hk hk'
    have hkl : k < l.length := by simpa using hk
    have h := revU_get z l i h1 k hkl
    have e : (revU z l i).getD k z = (revU z l i)[k] := by simp only [List.getD]; rw [List.getElem?_eq_getElem hk]; rfl
    rw [← e, h, List.getElem_reverse]
    split
    · simp only [List.getD]; rw [List.getElem?_eq_getElem (by omega)]; rfl
    · have : k = l.length - 1 - k := by omega
      simp only [List.getD]; rw [List.getElem?_eq_getElem (by omega)]
      show l[k] = _
      congr 1
theorem Cl.swap2 {X : List Nat} {w0 w : World} {a b : Ob} (h : Cl X w0 [a, b] w) : Cl X w0 [b, a] w := h.perm (List.Perm.swap b a [])
/-- The marks of a list of bools. -/
def marksB (k : Int) (n : Nat) : List Bool := (List.range n).map fun i : Nat => decide ((k + (i : Int)).tmod 3 = 0)
@[simp] theorem marksB_length (k : Int) (n : Nat) : (marksB k n).length = n := by simp [marksB]
theorem marksB_get (k : Int) (n i : Nat) (h : i < n) : (marksB k n).getD i false = decide ((k + (i : Int)).tmod 3 = 0) := by simp [marksB, List.getD, h]
def markedB (l : List Bool) (k : Int) (i : Nat) : List Bool := marksB k i ++ l.drop i
theorem markedB_length (l : List Bool) (k : Int) (i : Nat) (h : i ≤ l.length) : (markedB l k i).length = l.length := by simp [markedB]; omega
theorem markedB_zero (l : List Bool) (k : Int) : markedB l k 0 = l := by simp [markedB, marksB]
theorem markedB_all (l : List Bool) (k : Int) : markedB l k l.length = marksB k l.length := by simp [markedB]
theorem markedB_set (l : List Bool) (k : Int) (i : Nat) (h : i < l.length) : (markedB l k i).set i (decide ((k + (i : Int)).tmod 3 = 0)) = markedB l k (i + 1) := by
  have h1 : (marksB k i).length = i := marksB_length k i
  have h2 : marksB k (i + 1) = marksB k i ++ [decide ((k + (i : Int)).tmod 3 = 0)] := by unfold marksB; rw [List.range_succ, List.map_append]; rfl
  unfold markedB
  rw [h2, List.set_append_right _ _ (by rw [h1]; exact Nat.le_refl _), h1, Nat.sub_self, List.append_assoc]
  rw [List.drop_eq_getElem_cons h]
  rfl
theorem eq_of_getD_b {a b : List Bool} (hl : a.length = b.length) (h : ∀ i, i < a.length → a.getD i false = b.getD i false) : a = b := by
  apply List.ext_getElem hl
  intro i h1 h2
  have := h i h1
  simpa [List.getD, h1, h2] using this
section
variable {P : Program} {n : Nat} {ops : List Oper} {l : List Oper} {Q : Post} {E : Env} {X : List Nat} {w0 : World} {objs : List Ob} {d : Option Nat} {t ty e : TypeId} {pos : String} {af : Array Edge} {g : Option (Nat × Bool)} {x y : Operand}
/-- A variable of one cell. -/
theorem px_alloc1 {md : Md} {s : TypeId} {z : Value} {bytes : Nat} (ht : ElemZ P s t z bytes) (hz1 : storable z = true) (hmd : mdOk md (.alloc t) = true) (hw : wantE ops E g = true) (hd : okDst d n = true)
    (h : ∀ b, Px P n ops md l Q (updo E d (.pointer (some ⟨b, 0, none⟩))) (Cl X w0 (.blk b [z] :: objs))) : Px P n ops md (⟨d, .alloc t, ty, pos, af, g⟩ :: l) Q E (Cl X w0 objs) :=
  px_opN hmd hw hd fun w hC => ⟨_, w.alloc (.cells #[z] t), Cl X w0 (.blk w.heap.size [z] :: objs), by
      have hz : (zeroValue t).run P w = .ok z w := by
        have := ht.info
        cases hi : P.info? t with
        | none => rw [hi] at this; cases this
        | some i => rw [hi] at this; simp at this; simp [zeroValue, typeInfo, hi, this.1]
      have hc := ht.cell
      cases z <;> first | (cases hz1; done) | simp [execOp, Instr.alloc, hz, newVar, newRow, go_sem],
    hC.push (below_alloc w _) _ ⟨t, heap_alloc_new w _⟩ (fun k hk => by obtain rfl := Option.some.inj hk; exact Nat.le_refl _), fun w hw => hw.sub (List.sublist_cons_self _ _), h w.heap.size⟩
end
theorem below_comp {w w1 w2 : World} (h1 : Below w.heap.size w w1) (h2 : Below w1.heap.size w1 w2) : Below w.heap.size w w2 :=
  ⟨h2.os.trans h1.os, h2.tape.trans h1.tape, h2.output.trans h1.output, Nat.le_trans h1.size h2.size, fun k hk => (h2.block k (Nat.lt_of_lt_of_le hk h1.size)).trans (h1.block k hk)⟩
/-- A struct of an int and a slice, built. -/
structure BuildG (P : Program) (t : TypeId) : Prop where
  two : ∀ (n : Int) ao l c, P.built t [(0, .int .i64 n), (1, .slice ao l c)] = some #[.int .i64 n, .slice ao l c]
  one : ∀ (n : Int), P.built t [(0, .int .i64 n)] = some #[.int .i64 n, .slice none 0 0]
  nil : P.built t [] = some #[.int .i64 0, .slice none 0 0]
section
variable {P : Program} {C : Cls} {ρ : Operand → Value} {d : Option Tmp} {t ty : TypeId} {pos : String} {af : Array Edge} {g : Option (Nat × Bool)} {x y : Operand} {m : Int}
theorem arr_slice {w : World} {sv : Value} {vs : List Value} (h : Arr w sv vs) : ∃ ao l c, sv = .slice ao l c := by
  rcases h.out with ⟨_, ao, cap, rfl, _⟩ | ⟨b, off, cap, rfl, _⟩
  · exact ⟨_, _, _, rfl⟩
  · exact ⟨_, _, _, rfl⟩
theorem opv_build2 {sv : Value} {vs : List Value} (hb : BuildG P t) (hx : ρ x = .int .i64 m) (hy : ρ y = sv) (hr : Rd C sv vs) : Opv P C ρ ⟨d, .build t #[(0, x), (1, y)], ty, pos, af, g⟩ (.agg [.int .i64 m, sv].toArray) :=
  opv_of_run fun w hw => by
    obtain ⟨ao, l, c, rfl⟩ := arr_slice (hr.out w hw)
    have := run_build (P := P) w t #[(0, .int .i64 m), (1, .slice ao l c)] _ (hb.two m ao l c)
    simp [execOp, hx, hy, this]
theorem opv_build1 (hb : BuildG P t) (hx : ρ x = .int .i64 m) : Opv P C ρ ⟨d, .build t #[(0, x)], ty, pos, af, g⟩ (.agg [.int .i64 m, .slice none 0 0].toArray) :=
  opv_of_run fun w hw => by
    have := run_build (P := P) w t #[(0, .int .i64 m)] _ (hb.one m)
    simp [execOp, hx, this]
theorem opv_build0 (hb : BuildG P t) : Opv P C ρ ⟨d, .build t #[], ty, pos, af, g⟩ (.agg [.int .i64 0, .slice none 0 0].toArray) :=
  opv_of_run fun w hw => by
    have := run_build (P := P) w t #[] _ hb.nil
    simp [execOp, this]
end
end Go.Pw
