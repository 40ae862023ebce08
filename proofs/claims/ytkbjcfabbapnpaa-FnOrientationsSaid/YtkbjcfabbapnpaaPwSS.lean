/- Slices of slices of ints. -/
import Derived.Test.YtkbjcfabbapnpaaLk
import Derived.Deep.Slices
namespace Go.Pw
open Go Go.RowKit Go.ChangeShapes Go.WideShapes Go.ChangeAt Go.Joins

/-- The rows of a slice of slices, each with what it reads as. -/
abbrev Pairs := List (Value × List Int)
def svAt (ps : Pairs) (k : Nat) : Value := (ps.getD k (undef, [])).1
def lsAt (ps : Pairs) (k : Nat) : List Int := (ps.getD k (undef, [])).2
def svsOf (ps : Pairs) : List Value := ps.map (·.1)
def lssOf (ps : Pairs) : List (List Int) := ps.map (·.2)
@[simp] theorem svsOf_length (ps : Pairs) : (svsOf ps).length = ps.length := by simp [svsOf]
@[simp] theorem lssOf_length (ps : Pairs) : (lssOf ps).length = ps.length := by simp [lssOf]
theorem svs_get {ps : Pairs} {k : Nat} (h : k < ps.length) : (svsOf ps)[k]? = some (svAt ps k) := by simp [svsOf, svAt, List.getD, h]
theorem lss_get {ps : Pairs} {k : Nat} (h : k < ps.length) : (lssOf ps)[k]? = some (lsAt ps k) := by simp [lssOf, lsAt, List.getD, h]
theorem lss_drop {ps : Pairs} {k : Nat} (h : k < ps.length) : (lssOf ps).drop k = lsAt ps k :: (lssOf ps).drop (k + 1) := by
  rw [List.drop_eq_getElem_cons (by simpa using h)]
  congr 1
  have := lss_get h
  rw [List.getElem?_eq_getElem (by simpa using h)] at this
  exact Option.some.inj this
theorem lss_take {ps : Pairs} {k : Nat} (h : k < ps.length) : (lssOf ps).take (k + 1) = (lssOf ps).take k ++ [lsAt ps k] := by
  rw [List.take_add_one, lss_get h]; rfl

structure ArrS (w : World) (sv : Value) (ps : Pairs) : Prop where
  arr : Arr w sv (svsOf ps)
  each : ∀ k, k < ps.length → Arr w (svAt ps k) (ints (lsAt ps k))
/-- A slice of slices that reads as L. -/
structure ArrL (w : World) (sv : Value) (L : List (List Int)) : Prop where
  out : ∃ ps, ArrS w sv ps ∧ lssOf ps = L
theorem ArrS.below {w w' : World} {sv : Value} {ps : Pairs} (h : ArrS w sv ps) (hb : Below w.heap.size w w') : ArrS w' sv ps := ⟨h.arr.below hb, fun k hk => (h.each k hk).below hb⟩
theorem ArrL.below {w w' : World} {sv : Value} {L : List (List Int)} (h : ArrL w sv L) (hb : Below w.heap.size w w') : ArrL w' sv L := ⟨by
  obtain ⟨ps, h1, h2⟩ := h.out; exact ⟨ps, h1.below hb, h2⟩⟩
theorem ArrL.len {w : World} {sv : Value} {L : List (List Int)} (h : ArrL w sv L) : L.length ≤ 9223372036854775807 := by
  obtain ⟨ps, h1, rfl⟩ := h.out
  have h2 : (svsOf ps).length ≤ 9223372036854775807 := by
    rcases h1.arr.out with ⟨h, _⟩ | ⟨_, _, _, _, _, h, _⟩
    · rw [h]; simp
    · simpa [maxLen] using h
  simpa using h2

def rowsOb (e : TypeId) (ps : Pairs) : List Ob := ps.map fun p => .row e p.1 (ints p.2)
theorem rowsOb_snoc (e : TypeId) (ps : Pairs) (p : Value × List Int) : rowsOb e (ps ++ [p]) = rowsOb e ps ++ [.row e p.1 (ints p.2)] := by simp [rowsOb]
theorem Cl.arrS {X : List Nat} {w0 w : World} {objs : List Ob} (h : Cl X w0 objs w) (k : Nat) {t e : TypeId} {sv : Value} {ps : Pairs} (hn : nthOb objs k = some (.row t sv (svsOf ps))) (hm : ∀ o ∈ rowsOb e ps, o ∈ objs) : ArrS w sv ps :=
  ⟨h.rowArr hn, fun i hi => arr_of_row (e := e) (h.holds _ (hm _ (List.mem_map.2 ⟨ps.getD i (undef, []), by simp [List.getD, hi], rfl⟩)))⟩
theorem Cl.arrL {X : List Nat} {w0 w : World} {objs : List Ob} (h : Cl X w0 objs w) (k : Nat) {t e : TypeId} {sv : Value} {ps : Pairs} {L : List (List Int)} (hn : nthOb objs k = some (.row t sv (svsOf ps))) (hl : lssOf ps = L) (hm : ∀ o ∈ rowsOb e ps, o ∈ objs) : ArrL w sv L :=
  ⟨ps, h.arrS k hn hm, hl⟩
theorem Cl.oldL {w0 w : World} {objs : List Ob} (h : Cl [] w0 objs w) {sv : Value} {L : List (List Int)} (ha : ArrL w0 sv L) : ArrL w sv L := ha.below h.below

section
variable {P : Program} {C : Cls} {ρ : Operand → Value} {d : Option Tmp} {t ty e : TypeId} {pos : String} {af : Array Edge} {g : Option (Nat × Bool)} {x y : Operand}
theorem opv_load_svs {sv : Value} {ps : Pairs} {k : Nat} (ht : Scalar P t) (hx : ρ x = .pointer (some (addrOf sv k))) (hr : Rd C sv (svsOf ps)) (hk : k < ps.length) : Opv P C ρ ⟨d, .load t x, ty, pos, af, g⟩ (svAt ps k) :=
  opv_load_arr ht hx hr (svs_get hk)
theorem opv_len_svs {sv : Value} {ps : Pairs} (ht : Elem1 P t e) (hx : ρ x = sv) (hr : Rd C sv (svsOf ps)) : Opv P C ρ ⟨d, .call { callee := .builtin .len, args := #[x], argTypes := #[t] }, ty, pos, af, g⟩ (.int .i64 (ps.length : Nat)) := by
  have := opv_len (P := P) (C := C) (d := d) (ty := ty) (pos := pos) (af := af) (g := g) ht hx hr
  rwa [svsOf_length] at this
end
section
variable {P : Program} {n : Nat} {ops : List Oper} {l : List Oper} {Q : Post} {E : Env} {X : List Nat} {w0 : World} {objs : List Ob} {d : Option Nat} {ty : TypeId} {pos : String} {af : Array Edge} {g : Option (Nat × Bool)}
/-- A call that hands back a row of rows: the inner rows go to the end. -/
theorem px_givesT {md : Md} {f : FuncId} {args : List Operand} {ats : Array TypeId} {avs : List Value} {R : Value → List Ob → Prop} (hρ : ev E (.func f) = .func (.func f) #[] #[]) (ha : evl (ev E) args = avs)
    (hmd : mdOk md (.call { callee := .value (.func f), args := args.toArray, argTypes := ats }) = true) (hw : wantE ops E g = true) (hd : okDst d n = true)
    (hc : ∀ w, Cl X w0 objs w → Gives P f avs.toArray w R) (h : ∀ v objs', R v objs' → ∃ hd tl, objs' = hd ++ tl ∧ Px P n ops md l Q (updo E d v) (Cl X w0 (hd ++ (objs ++ tl)))) :
    Px P n ops md (⟨d, .call { callee := .value (.func f), args := args.toArray, argTypes := ats }, ty, pos, af, g⟩ :: l) Q E (Cl X w0 objs) :=
  px_callN hmd hw hd (fun w hC => run_call (hc w hC).entry hρ w) fun w hC => by
    rw [evl_eq, ha]
    refine (hc w hC).out.mono fun e w' ⟨v, objs', he, hR, hcl⟩ => ?_
    obtain ⟨hd, tl, rfl, hpx⟩ := h v objs' hR
    refine ⟨v, _, he, (hC.app hcl).perm ?_, fun w hw => hw.sub ((List.sublist_append_left _ _).trans (List.sublist_append_right _ _)), hpx⟩
    rw [List.append_assoc]
    exact (List.perm_append_comm).append_left hd
end

/-- What a slice of slices weighs. -/
def ssSize (L : List (List Int)) : Nat := L.length + (L.map List.length).sum
theorem le_sum_of_mem {l : List Nat} {x : Nat} (h : x ∈ l) : x ≤ l.sum := by
  induction l with
  | nil => cases h
  | cons a l ih =>
    rw [List.sum_cons]
    rcases List.mem_cons.1 h with rfl | h
    · omega
    · have := ih h; omega
theorem len_le_ssSize {ps : Pairs} {k : Nat} (h : k < ps.length) : (lsAt ps k).length ≤ ssSize (lssOf ps) := by
  have : (lsAt ps k).length ∈ (lssOf ps).map List.length := List.mem_map.2 ⟨lsAt ps k, List.mem_of_getElem? (lss_get h), rfl⟩
  have := le_sum_of_mem this
  unfold ssSize; omega

section
variable {H : Type} {enc : TypeId × Value → H} {P : Program}
/-- A slice of slices of ints that came in. -/
theorem arrL_of_trod {t s e : TypeId} {base : Nat} {spare : Nat → Bool} {held : Bool} {w : World} {fuel : Nat} {v : Value} {x : DataW H × List MemPlace} (ht : P.underlying t = some (.slice s)) (hs : P.underlying s = some (.slice e)) (hcs : P.cellsOf s = 1)
    (he : P.underlying e = some (.int .i64)) (hc : P.cellsOf e = 1) (h : DataW.trod enc P w base spare held fuel t [v] = some x) :
    ∃ L : List (List Int), ArrL w v L ∧ ∀ l ∈ L, ∀ n ∈ l, -9223372036854775808 ≤ n ∧ n ≤ 9223372036854775807 := by
  rcases Go.Deep.open_slice1 ht hcs h with ⟨h1, _⟩ | ⟨a, len, cap, m, n, V, D, Pl, h1, _, hlc, hcm, hm, _, hx⟩
  · obtain rfl := (List.cons.inj h1).1
    exact ⟨[], ⟨[], ⟨⟨rfl, .inl ⟨rfl, none, 0, rfl, fun _ => rfl⟩⟩, fun k hk => absurd hk (Nat.not_lt_zero _)⟩, rfl⟩, fun l hl => (List.not_mem_nil hl).elim⟩
  obtain rfl := (List.cons.inj h1).1
  have hlm : len ≤ m := by rw [hm]; split <;> omega
  obtain ⟨F, hF⟩ := Go.Deep.choose_lt (α := List Int) (p := fun i l => Arr w (V i) (ints l) ∧ ∀ n ∈ l, -9223372036854775808 ≤ n ∧ n ≤ 9223372036854775807) (n := len) fun i hi => arr_of_trod hs he hc (hx i (by omega)).2
  let ps : Pairs := (List.range len).map fun i => (V i, F i)
  have hlen : ps.length = len := by simp [ps]
  have hat : ∀ k, k < len → svAt ps k = V k ∧ lsAt ps k = F k := fun k hk => by simp [svAt, lsAt, ps, List.getD, hk]
  refine ⟨lssOf ps, ⟨ps, ⟨⟨Nat.ble_eq_true_of_le hlc, ?_⟩, fun k hk => ?_⟩, rfl⟩, fun l hl => ?_⟩
  · by_cases h0 : len = 0
    · subst h0; exact .inl ⟨by simp [ps, svsOf], some a, cap, rfl, fun h => by cases h⟩
    · have hsp : a.spot = none := by simpa [Addr.add] using World.cell?_spot (hx 0 (by omega)).1
      obtain ⟨b, off, spot⟩ := a
      simp only at hsp; subst hsp
      refine .inr ⟨b, off, cap, by simp [hlen], by simp [hlen]; omega, by simp [hlen]; omega, fun i hi => ?_⟩
      have hi' : i < len := by simpa [hlen] using hi
      rw [svs_get (by omega), (hat i hi').1, ← Go.WideShapes.add_plain]
      exact (hx i (by omega)).1
  · rw [hlen] at hk
    rw [(hat k hk).1, (hat k hk).2]; exact (hF k hk).1
  · obtain ⟨p, hp, rfl⟩ := List.mem_map.1 hl
    obtain ⟨i, hi, rfl⟩ := List.mem_map.1 hp
    exact (hF i (List.mem_range.1 hi)).2
theorem read_intss {t s e : TypeId} {W : World} {b0 : Nat} {v : Value} {d : DataW H} {p : List MemPlace} (ht : P.underlying t = some (.slice s)) (hs : P.underlying s = some (.slice e)) (hcs : P.cellsOf s = 1) (he : P.underlying e = some (.int .i64)) (hc : P.cellsOf e = 1)
    (hv : Value.okWide P W .any b0 t v) (h : DataW.Trod enc P W 0 (fun _ => true) true t v d p) : ∃ L : List (List Int), ArrL W v L ∧ ∀ l ∈ L, ∀ n ∈ l, -9223372036854775808 ≤ n ∧ n ≤ 9223372036854775807 := by
  obtain ⟨a, l, c, rfl⟩ := okWide_slice ht hv
  obtain ⟨fuel, hf⟩ := h
  exact arrL_of_trod ht hs hcs he hc (by simpa [Value.cells] using hf)
end
end Go.Pw
