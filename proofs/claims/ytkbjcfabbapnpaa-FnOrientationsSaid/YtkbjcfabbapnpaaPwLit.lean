import Derived.Test.YtkbjcfabbapnpaaPwPpe
import Derived.Test.YtkbjcfabbapnpaaPwPqt
import Derived.Test.YtkbjcfabbapnpaaPwPmo
import Derived.Test.YtkbjcfabbapnpaaPwPsv
import Derived.Test.YtkbjcfabbapnpaaPwCur
import Derived.Test.YtkbjcfabbapnpaaPwOri
/- The plain mathematics of the graphs that lists give: permutations, threshold orders, degrees. -/
namespace Go.Pw
open Go
/-- The graph of a list of numbers: places whose numbers are in the wrong order. -/
def gpJ (p : List Int) (v u : Nat) : Bool := decide (p.getD u 0 < p.getD v 0)
def gpL (p : List Int) : List Int := if permP p then gRows p.length (seenP (gpJ p) p.length 0) else []
def gpZ (p : List Int) : Int := if permP p then p.length else 0
theorem gpL_length (p : List Int) : (gpL p).length ≤ 7 := by
  unfold gpL
  split
  · rename_i h; rw [gRows_length]; have := h.1.2; omega
  · simp
/-- Degrees. -/
def degU (rows : List Int) (k : Nat) : List Int := (List.range k).map fun i => cntS (rows.getD i 0)
def degL (size : Int) (rows : List Int) : List Int := if IsG size rows then (sortI (degU rows rows.length)).reverse else []
theorem degU_len (rows : List Int) (k : Nat) : (degU rows k).length = k := by simp [degU]
theorem degU_succ (rows : List Int) (k : Nat) : degU rows (k + 1) = degU rows k ++ [cntS (rows.getD k 0)] := by simp [degU, List.range_succ]
theorem degL_len (size : Int) (rows : List Int) : (degL size rows).length ≤ 7 := by
  unfold degL
  split
  · rename_i h
    obtain ⟨n, _, h2, _, h4⟩ := isG_size h
    rw [List.length_reverse, sortI_len, degU_len]; omega
  · simp

theorem cntS_bound (s : Int) : 0 ≤ cntS s ∧ cntS s ≤ 7 := by
  unfold cntS
  have := listS_length s
  omega
theorem degL_bound (size : Int) (rows : List Int) (i : Nat) : 0 ≤ (degL size rows).getD i 0 ∧ (degL size rows).getD i 0 ≤ 7 := by
  by_cases hi : i < (degL size rows).length
  · have hm : (degL size rows).getD i 0 ∈ degL size rows := getD_mem hi
    unfold degL at hm
    split at hm
    · rename_i hg
      rw [List.mem_reverse] at hm
      have hm := (sortI_perm _).mem_iff.1 hm
      obtain ⟨k, _, hk⟩ := List.mem_map.1 (show _ ∈ (List.range rows.length).map fun i => cntS (rows.getD i 0) from hm)
      have := cntS_bound (rows.getD k 0)
      unfold degL
      rw [if_pos hg]
      omega
    · cases hm
  · have : (degL size rows).getD i 0 = 0 := by simp [List.getD, hi]
    omega
/-- The number of the last place whose degree is at least the place. -/
def mU (d : List Int) : Nat → Int
  | 0 => 0
  | k + 1 => if d.getD k 0 ≥ k then (k : Int) + 1 else mU d k
def mL (d : List Int) : Int := mU d d.length
theorem mU_range (d : List Int) : ∀ k : Nat, 0 ≤ mU d k ∧ mU d k ≤ k
  | 0 => by simp [mU]
  | k + 1 => by
    have := mU_range d k
    unfold mU
    split <;> omega
/-- The sums of the degrees before and behind it. -/
def hiU (d : List Int) (m : Int) : Nat → Int
  | 0 => 0
  | k + 1 => if (k : Int) < m then hiU d m k + d.getD k 0 else hiU d m k
def loU (d : List Int) (m : Int) : Nat → Int
  | 0 => 0
  | k + 1 => if (k : Int) < m then loU d m k else loU d m k + d.getD k 0
theorem hiU_range {d : List Int} {m : Int} (hd : ∀ i, 0 ≤ d.getD i 0 ∧ d.getD i 0 ≤ 7) : ∀ k : Nat, (0 ≤ hiU d m k ∧ hiU d m k ≤ 7 * k) ∧ 0 ≤ loU d m k ∧ loU d m k ≤ 7 * k
  | 0 => by simp [hiU, loU]
  | k + 1 => by
    have := hiU_range (m := m) hd k
    have := hd k
    unfold hiU loU
    split <;> omega
def sbdP (size : Int) (rows : List Int) : Prop := IsG size rows ∧ hiU (degL size rows) (mL (degL size rows)) (degL size rows).length = mL (degL size rows) * (mL (degL size rows) - 1) + loU (degL size rows) (mL (degL size rows)) (degL size rows).length
instance (size : Int) (rows : List Int) : Decidable (sbdP size rows) := by unfold sbdP; infer_instance
/-- The graph of a threshold order: pairs seen, by their places in the order. -/
def plN (o : List Int) (a : Nat) : Nat := (placeL o a).toNat
def gtP (o : List Int) (j : List Bool) (i k a b : Nat) : Bool := seenP (fun _ u => j.getD u false) i k (plN o a) (plN o b)
def gtOk (o : List Int) (j : List Bool) : Prop := permP o ∧ j.length = o.length
instance (o : List Int) (j : List Bool) : Decidable (gtOk o j) := by unfold gtOk; infer_instance
def gtL (o : List Int) (j : List Bool) : List Int := if gtOk o j then gRows o.length (gtP o j o.length 0) else []
def gtZ (o : List Int) (j : List Bool) : Int := if gtOk o j then o.length else 0
theorem gtL_length (o : List Int) (j : List Bool) : (gtL o j).length ≤ 7 := by
  unfold gtL
  split
  · rename_i h; rw [gRows_length]; have := h.1.1; omega
  · simp
theorem plN_at {o : List Int} (h : permP o) {i : Nat} (hi : i < o.length) : plN o (o.getD i 0).toNat = i ∧ 0 ≤ o.getD i 0 ∧ o.getD i 0 < o.length := by
  have h1 := h.2.1 i hi
  have e : (((o.getD i 0).toNat : Nat) : Int) = o.getD i 0 := by omega
  unfold plN
  rw [e, placeL_at h.2.2 hi]
  exact ⟨by omega, by omega, by omega⟩
theorem plN_eq {o : List Int} (h : permP o) {a i : Nat} (ha : a < o.length) (hi : i < o.length) : plN o a = i ↔ a = (o.getD i 0).toNat := by
  constructor
  · intro e
    have hm : (a : Int) ∈ o := by
      have := h.1
      exact order_mem (n := o.length) h.2.1 h.2.2 rfl a ha
    have h2 := placeL_get o a hm
    unfold plN at e
    rw [e] at h2
    omega
  · intro e; subst e; exact (plN_at h hi).1
theorem gtP_sym (o : List Int) (j : List Bool) (i k a b : Nat) : gtP o j i k a b = gtP o j i k b a := seenP_sym _ _ _ _ _
theorem gtP_irr (o : List Int) (j : List Bool) (i k a : Nat) : gtP o j i k a a = false := seenP_irr _ _ _ _
theorem gtP_zero (o : List Int) (j : List Bool) (a b : Nat) : gtP o j 0 0 a b = false := seenP_zero _ _ _
theorem gtP_next (o : List Int) (j : List Bool) (i a b : Nat) : gtP o j i i a b = gtP o j (i + 1) 0 a b := seenP_next _ _ _ _
theorem gtP_new {o : List Int} {j : List Bool} (h : permP o) {i k : Nat} (hi : i < o.length) (hk : k < i) :
    gtP o j i k (o.getD i 0).toNat (o.getD k 0).toNat = false ∧ gtP o j i k (o.getD k 0).toNat (o.getD i 0).toNat = false := by
  unfold gtP
  rw [(plN_at h hi).1, (plN_at h (show k < o.length by omega)).1]
  have := seenP_new (fun _ u => j.getD u false) hk
  exact ⟨this.2, this.1⟩
theorem gtP_no {o : List Int} {j : List Bool} {i k : Nat} (hk : k < i) (hj : j.getD i false = false) (a b : Nat) : gtP o j i k a b = gtP o j i (k + 1) a b :=
  seenP_no _ hk hj _ _
theorem gtP_skip {o : List Int} {j : List Bool} {i : Nat} (hj : j.getD i false = false) (a b : Nat) : ∀ k, k ≤ i → gtP o j i 0 a b = gtP o j i k a b
  | 0, _ => rfl
  | k + 1, h => by rw [gtP_skip hj a b k (by omega), gtP_no (by omega) hj]
theorem gtP_yes {o : List Int} {j : List Bool} (h : permP o) {i k : Nat} (hi : i < o.length) (hk : k < i) (hj : j.getD i false = true) {a b : Nat} (ha : a < o.length) (hb : b < o.length) :
    pairAdd (gtP o j i k) (o.getD i 0).toNat (o.getD k 0).toNat a b = gtP o j i (k + 1) a b := by
  have h1 := seenP_yes (fun _ u => j.getD u false) hk hj (plN o a) (plN o b)
  unfold gtP
  rw [← h1]
  unfold pairAdd
  congr 1
  have c1 : decide (a = (o.getD i 0).toNat ∧ b = (o.getD k 0).toNat) = decide (plN o a = i ∧ plN o b = k) := decide_eq_decide.2 (by rw [plN_eq h ha hi, plN_eq h hb (by omega)])
  have c2 : decide (a = (o.getD k 0).toNat ∧ b = (o.getD i 0).toNat) = decide (plN o a = k ∧ plN o b = i) := decide_eq_decide.2 (by rw [plN_eq h hb hi, plN_eq h ha (by omega)])
  rw [c1, c2, Bool.or_comm]
end Go.Pw
/- A literal of three values. -/
namespace Go.Pw
open Go Go.RowKit
section
variable {P : Program} {E : Env} {n : Nat} {d : Option Tmp} {t ty e : TypeId} {pos : String} {af : Array Edge} {g : Option (Nat × Bool)} {ops l : List Oper} {Q : Post} {X : List Nat} {w0 : World} {objs : List Ob}
theorem px_lit3 {md : Md} {zv : Value} {bytes : Nat} {x0 x1 x2 : Operand} {v0 v1 v2 : Value} (he : ElemZ P t e zv bytes) (h0 : ev E x0 = v0) (s0 : storable v0 = true) (h1 : ev E x1 = v1) (s1 : storable v1 = true) (h2 : ev E x2 = v2) (s2 : storable v2 = true) (hmd : mdOk md (.buildSlice t 3 #[(0, x0), (1, x1), (2, x2)]) = true) (hw : wantE ops E g = true) (hd : okDst d n = true)
    (h : ∀ sv, Px P n ops md l Q (updo E d sv) (Cl X w0 (.row e sv [v0, v1, v2] :: objs))) :
    Px P n ops md (⟨d, .buildSlice t 3 #[(0, x0), (1, x1), (2, x2)], ty, pos, af, g⟩ :: l) Q E (Cl X w0 objs) :=
  px_opN hmd hw hd fun w hC => by
    obtain ⟨i, hi, z1, z2, z3⟩ := info_parts he.info
    have hsz : ∀ w, (sizeOf e).run P w = .ok 1 w := fun w => by simp [sizeOf, typeInfo, hi, z2]
    have hzero : ∀ w, (zeroValue e).run P w = .ok zv w := fun w => by simp [zeroValue, typeInfo, hi, z1]
    have hcell := he.cell
    have c0 := storable_cells s0
    have c1 := storable_cells s1
    have c2 := storable_cells s2
    refine ⟨.slice (some ⟨w.heap.size, 0, Option.none⟩) 3 3, w.alloc (.cells #[v0, v1, v2] e), _, ?_, hC.push (below_alloc w _) (.row e (.slice (some ⟨w.heap.size, 0, Option.none⟩) 3 3) [v0, v1, v2]) (row_lit w e [v0, v1, v2] (by simp)) (fun k hk => by obtain rfl := Option.some.inj hk; exact Nat.le_refl _), fun w hw => hw.sub (List.sublist_cons_self _ _), h _⟩
    simp [execOp, Instr.buildSlice, Instr.fill, run_underlying he.und, hsz, hzero, hcell, newRow, h0, c0, h1, c1, h2, c2]
    rw [show Array.range 3 = #[0, 1, 2] by decide]
    simp
end
section
variable {P : Program} {C : Cls} {n : Nat} {E : Env} {Q : Post}
/-- A mark at a region: the walk stops ahead of it. -/
theorem pwp_here (k : Nat) {ops : List Oper} {d : Bool} (h : Pwp P n (.region k ops.toArray d) Q E C) : Pwp P n (.region k ops.toArray d) Q E C := h
/-- Code that leaves the world as it was, said once. -/
theorem pwp_keep {c : Code} (S : List (Nat × Nat)) (l : List (Nat × Value)) (h1 : Pwp P n c (qjoin S (fun _ : Unit => l) (fun _ => C) (fun _ => True) E) E C)
    (h2 : ∀ J : Env, Q .normal (upds l (junk S J E)) C) : Pwp P n c Q E C := pwp_join S _ _ _ h1 fun J _ _ => h2 J
end
theorem opv_neq_self {P : Program} {C : Cls} {ρ : Operand → Value} {x y : Operand} {t t' ty : TypeId} {d : Option Nat} {pos : String} {af : Array Edge} {g : Option (Nat × Bool)} {a : Bool} (ht : P.underlying t = some .bool) (hx : ρ x = .bool a) (hy : ρ y = .bool a) :
    Opv P C ρ ⟨d, .binOp .neq t x y t', ty, pos, af, g⟩ (.bool false) := by
  have h := opv_neq_bool (P := P) (C := C) (d := d) (t' := t') (ty := ty) (pos := pos) (af := af) (g := g) ht hx hy
  rwa [show (a != a) = false by simp] at h
theorem opv_neq_of {P : Program} {C : Cls} {ρ : Operand → Value} {x y : Operand} {t t' ty : TypeId} {d : Option Nat} {pos : String} {af : Array Edge} {g : Option (Nat × Bool)} {a b : Bool} (ht : P.underlying t = some .bool) (hx : ρ x = .bool a) (hy : ρ y = .bool b) (hab : a = b) :
    Opv P C ρ ⟨d, .binOp .neq t x y t', ty, pos, af, g⟩ (.bool false) := by
  subst hab
  exact opv_neq_self ht hx hy
theorem opv_eql_self {P : Program} {C : Cls} {ρ : Operand → Value} {x y : Operand} {t t' ty : TypeId} {d : Option Nat} {pos : String} {af : Array Edge} {g : Option (Nat × Bool)} {a : Bool} (ht : P.underlying t = some .bool) (hx : ρ x = .bool a) (hy : ρ y = .bool a) :
    Opv P C ρ ⟨d, .binOp .eql t x y t', ty, pos, af, g⟩ (.bool true) := by
  have h := opv_eql_bool (P := P) (C := C) (d := d) (t' := t') (ty := ty) (pos := pos) (af := af) (g := g) ht hx hy
  rwa [show (a == a) = true by simp] at h
theorem opv_eql_of {P : Program} {C : Cls} {ρ : Operand → Value} {x y : Operand} {t t' ty : TypeId} {d : Option Nat} {pos : String} {af : Array Edge} {g : Option (Nat × Bool)} {a b : Bool} (ht : P.underlying t = some .bool) (hx : ρ x = .bool a) (hy : ρ y = .bool b) (hab : a = b) :
    Opv P C ρ ⟨d, .binOp .eql t x y t', ty, pos, af, g⟩ (.bool true) := by
  subst hab
  exact opv_eql_self ht hx hy
end Go.Pw
