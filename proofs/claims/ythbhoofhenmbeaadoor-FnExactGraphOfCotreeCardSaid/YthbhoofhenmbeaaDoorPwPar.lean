import Derived.Test.YthbhoofhenmbeaaDoorPwLaw
import Derived.Deep.Slices
import Derived.Test.YthbhoofhenmbeaaDoorPwPlc
import Derived.Test.YthbhoofhenmbeaaDoorPwDrop
import Derived.Test.YthbhoofhenmbeaaDoorPwPld
/- Slices of slices of ints. -/
namespace Go.Pw
open Go Go.RowKit Go.ChangeShapes Go.WideShapes Go.ChangeAt Go.Joins

/-- The rows of a slice of slices, each with what it reads as. -/
abbrev Pairs := List (Value × List Int)
def svAt (ps : Pairs) (k : Nat) : Value := (ps.getD k (undef, [])).1
def lsAt (ps : Pairs) (k : Nat) : List Int := (ps.getD k (undef, [])).2
def svsOf (ps : Pairs) : List Value := ps.map (·.1)
def lssOf (ps : Pairs) : List (List Int) := ps.map (·.2)
@[simp] theorem svsOf_length (ps : Pairs) : (svsOf ps).length = ps.length := by simp [svsOf]
@[simp] theorem lssOf_length (ps : Pairs) : (lssOf ps).length = ps.length := by simp [lssOf]
theorem svs_get {ps : Pairs} {k : Nat} (h : k < ps.length) : (svsOf ps)[k]? = some (svAt ps k) := by simp [svsOf, svAt, List.getD, h]
theorem lss_get {ps : Pairs} {k : Nat} (h : k < ps.length) : (lssOf ps)[k]? = some (lsAt ps k) := by simp [lssOf, lsAt, List.getD, h]
theorem lss_drop {ps : Pairs} {k : Nat} (h : k < ps.length) : (lssOf ps).drop k = lsAt ps k :: (lssOf ps).drop (k + 1) := by
  rw [List.drop_eq_getElem_cons (by simpa using h)]
  congr 1
  have := lss_get h
  rw [List.getElem?_eq_getElem (by simpa using h)] at this
  exact Option.some.inj this
theorem lss_take {ps : Pairs} {k : Nat} (h : k < ps.length) : (lssOf ps).take (k + 1) = (lssOf ps).take k ++ [lsAt ps k] := by
  rw [List.take_add_one, lss_get h]; rfl

structure ArrS (w : World) (sv : Value) (ps : Pairs) : Prop where
  arr : Arr w sv (svsOf ps)
  each : ∀ k, k < ps.length → Arr w (svAt ps k) (ints (lsAt ps k))
/-- A slice of slices that reads as L. -/
structure ArrL (w : World) (sv : Value) (L : List (List Int)) : Prop where
  out : ∃ ps, ArrS w sv ps ∧ lssOf ps = L
theorem ArrS.below {w w' : World} {sv : Value} {ps : Pairs} (h : ArrS w sv ps) (hb : Below w.heap.size w w') : ArrS w' sv ps := ⟨h.arr.below hb, fun k hk => (h.each k hk).below hb⟩
theorem ArrL.below {w w' : World} {sv : Value} {L : List (List Int)} (h : ArrL w sv L) (hb : Below w.heap.size w w') : ArrL w' sv L := ⟨by
  obtain ⟨ps, h1, h2⟩ := h.out; exact ⟨ps, h1.below hb, h2⟩⟩
theorem ArrL.len {w : World} {sv : Value} {L : List (List Int)} (h : ArrL w sv L) : L.length ≤ 9223372036854775807 := by
  obtain ⟨ps, h1, rfl⟩ := h.out
  have h2 : (svsOf ps).length ≤ 9223372036854775807 := by
    rcases h1.arr.out with ⟨h, _⟩ | ⟨_, _, _, _, _, h, _⟩
    · rw [h]; simp
    · simpa [maxLen] using h
  simpa using h2

def rowsOb (e : TypeId) (ps : Pairs) : List Ob := ps.map fun p => .row e p.1 (ints p.2)
theorem rowsOb_snoc (e : TypeId) (ps : Pairs) (p : Value × List Int) : rowsOb e (ps ++ [p]) = rowsOb e ps ++ [.row e p.1 (ints p.2)] := by simp [rowsOb]
theorem Cl.arrS {X : List Nat} {w0 w : World} {objs : List Ob} (h : Cl X w0 objs w) (k : Nat) {t e : TypeId} {sv : Value} {ps : Pairs} (hn : nthOb objs k = some (.row t sv (svsOf ps))) (hm : ∀ o ∈ rowsOb e ps, o ∈ objs) : ArrS w sv ps :=
  ⟨h.rowArr hn, fun i hi => arr_of_row (e := e) (h.holds _ (hm _ (List.mem_map.2 ⟨ps.getD i (undef, []), by simp [List.getD, hi], rfl⟩)))⟩
theorem Cl.arrL {X : List Nat} {w0 w : World} {objs : List Ob} (h : Cl X w0 objs w) (k : Nat) {t e : TypeId} {sv : Value} {ps : Pairs} {L : List (List Int)} (hn : nthOb objs k = some (.row t sv (svsOf ps))) (hl : lssOf ps = L) (hm : ∀ o ∈ rowsOb e ps, o ∈ objs) : ArrL w sv L :=
  ⟨ps, h.arrS k hn hm, hl⟩
theorem Cl.oldL {w0 w : World} {objs : List Ob} (h : Cl [] w0 objs w) {sv : Value} {L : List (List Int)} (ha : ArrL w0 sv L) : ArrL w sv L := ha.below h.below

section
variable {P : Program} {C : Cls} {ρ : Operand → Value} {d : Option Tmp} {t ty e : TypeId} {pos : String} {af : Array Edge} {g : Option (Nat × Bool)} {x y : Operand}
theorem opv_load_svs {sv : Value} {ps : Pairs} {k : Nat} (ht : Scalar P t) (hx : ρ x = .pointer (some (addrOf sv k))) (hr : Rd C sv (svsOf ps)) (hk : k < ps.length) : Opv P C ρ ⟨d, .load t x, ty, pos, af, g⟩ (svAt ps k) :=
  opv_load_arr ht hx hr (svs_get hk)
theorem opv_len_svs {sv : Value} {ps : Pairs} (ht : Elem1 P t e) (hx : ρ x = sv) (hr : Rd C sv (svsOf ps)) : Opv P C ρ ⟨d, .call { callee := .builtin .len, args := #[x], argTypes := #[t] }, ty, pos, af, g⟩ (.int .i64 (ps.length : Nat)) := by
  have := opv_len (P := P) (C := C) (d := d) (ty := ty) (pos := pos) (af := af) (g := g) ht hx hr
  rwa [svsOf_length] at this
end
section
variable {P : Program} {n : Nat} {ops : List Oper} {l : List Oper} {Q : Post} {E : Env} {X : List Nat} {w0 : World} {objs : List Ob} {d : Option Nat} {ty : TypeId} {pos : String} {af : Array Edge} {g : Option (Nat × Bool)}
/-- A call that hands back a row of rows: the inner rows go to the end. -/
theorem px_givesT {md : Md} {f : FuncId} {args : List Operand} {ats : Array TypeId} {as : List Value} {R : Value → List Ob → Prop} (hρ : ev E (.func f) = .func (.func f) #[] #[]) (ha : evl (ev E) args = as)
    (hmd : mdOk md (.call { callee := .value (.func f), args := args.toArray, argTypes := ats }) = true) (hw : wantE ops E g = true) (hd : okDst d n = true)
    (hc : ∀ w, Cl X w0 objs w → Gives P f as.toArray w R) (h : ∀ v objs', R v objs' → ∃ hd tl, objs' = hd ++ tl ∧ Px P n ops md l Q (updo E d v) (Cl X w0 (hd ++ (objs ++ tl)))) :
    Px P n ops md (⟨d, .call { callee := .value (.func f), args := args.toArray, argTypes := ats }, ty, pos, af, g⟩ :: l) Q E (Cl X w0 objs) :=
  px_callN hmd hw hd (fun w hC => run_call (hc w hC).entry hρ w) fun w hC => by
    rw [evl_eq, ha]
    refine (hc w hC).out.mono fun e w' ⟨v, objs', he, hR, hcl⟩ => ?_
    obtain ⟨hd, tl, rfl, hpx⟩ := h v objs' hR
    refine ⟨v, _, he, (hC.app hcl).perm ?_, fun w hw => hw.sub ((List.sublist_append_left _ _).trans (List.sublist_append_right _ _)), hpx⟩
    rw [List.append_assoc]
    exact (List.perm_append_comm).append_left hd
end

/-- What a slice of slices weighs. -/
def ssSize (L : List (List Int)) : Nat := L.length + (L.map List.length).sum
theorem le_sum_of_mem {l : List Nat} {x : Nat} (h : x ∈ l) : x ≤ l.sum := by
  induction l with
  | nil => cases h
  | cons a l ih =>
    rw [List.sum_cons]
    rcases List.mem_cons.1 h with rfl | h
    · omega
    · have := ih h; omega
theorem len_le_ssSize {ps : Pairs} {k : Nat} (h : k < ps.length) : (lsAt ps k).length ≤ ssSize (lssOf ps) := by
  have : (lsAt ps k).length ∈ (lssOf ps).map List.length := List.mem_map.2 ⟨lsAt ps k, List.mem_of_getElem? (lss_get h), rfl⟩
  have := le_sum_of_mem this
  unfold ssSize; omega

section
variable {H : Type} {enc : TypeId × Value → H} {P : Program}
/-- A slice of slices of ints that came in. -/
theorem arrL_of_trod {t s e : TypeId} {base : Nat} {spare : Nat → Bool} {held : Bool} {w : World} {fuel : Nat} {v : Value} {x : DataW H × List MemPlace} (ht : P.underlying t = some (.slice s)) (hs : P.underlying s = some (.slice e)) (hcs : P.cellsOf s = 1)
    (he : P.underlying e = some (.int .i64)) (hc : P.cellsOf e = 1) (h : DataW.trod enc P w base spare held fuel t [v] = some x) :
    ∃ L : List (List Int), ArrL w v L ∧ ∀ l ∈ L, ∀ n ∈ l, -9223372036854775808 ≤ n ∧ n ≤ 9223372036854775807 := by
  rcases Go.Deep.open_slice1 ht hcs h with ⟨h1, _⟩ | ⟨a, len, cap, m, n, V, D, Pl, h1, _, hlc, hcm, hm, _, hx⟩
  · obtain rfl := (List.cons.inj h1).1
    exact ⟨[], ⟨[], ⟨⟨rfl, .inl ⟨rfl, none, 0, rfl, fun _ => rfl⟩⟩, fun k hk => absurd hk (Nat.not_lt_zero _)⟩, rfl⟩, fun l hl => (List.not_mem_nil hl).elim⟩
  obtain rfl := (List.cons.inj h1).1
  have hlm : len ≤ m := by rw [hm]; split <;> omega
  obtain ⟨F, hF⟩ := Go.Deep.choose_lt (α := List Int) (p := fun i l => Arr w (V i) (ints l) ∧ ∀ n ∈ l, -9223372036854775808 ≤ n ∧ n ≤ 9223372036854775807) (n := len) fun i hi => arr_of_trod hs he hc (hx i (by omega)).2
  let ps : Pairs := (List.range len).map fun i => (V i, F i)
  have hlen : ps.length = len := by simp [ps]
  have hat : ∀ k, k < len → svAt ps k = V k ∧ lsAt ps k = F k := fun k hk => by simp [svAt, lsAt, ps, List.getD, hk]
  refine ⟨lssOf ps, ⟨ps, ⟨⟨Nat.ble_eq_true_of_le hlc, ?_⟩, fun k hk => ?_⟩, rfl⟩, fun l hl => ?_⟩
  · by_cases h0 : len = 0
    · subst h0; exact .inl ⟨by simp [ps, svsOf], some a, cap, rfl, fun h => by cases h⟩
    · have hsp : a.spot = none := by simpa [Addr.add] using World.cell?_spot (hx 0 (by omega)).1
      obtain ⟨b, off, spot⟩ := a
      simp only at hsp; subst hsp
      refine .inr ⟨b, off, cap, by simp [hlen], by simp [hlen]; omega, by simp [hlen]; omega, fun i hi => ?_⟩
      have hi' : i < len := by simpa [hlen] using hi
      rw [svs_get (by omega), (hat i hi').1, ← Go.WideShapes.add_plain]
      exact (hx i (by omega)).1
  · rw [hlen] at hk
    rw [(hat k hk).1, (hat k hk).2]; exact (hF k hk).1
  · obtain ⟨p, hp, rfl⟩ := List.mem_map.1 hl
    obtain ⟨i, hi, rfl⟩ := List.mem_map.1 hp
    exact (hF i (List.mem_range.1 hi)).2
theorem read_intss {t s e : TypeId} {W : World} {b0 : Nat} {v : Value} {d : DataW H} {p : List MemPlace} (ht : P.underlying t = some (.slice s)) (hs : P.underlying s = some (.slice e)) (hcs : P.cellsOf s = 1) (he : P.underlying e = some (.int .i64)) (hc : P.cellsOf e = 1)
    (hv : Value.okWide P W .any b0 t v) (h : DataW.Trod enc P W 0 (fun _ => true) true t v d p) : ∃ L : List (List Int), ArrL W v L ∧ ∀ l ∈ L, ∀ n ∈ l, -9223372036854775808 ≤ n ∧ n ≤ 9223372036854775807 := by
  obtain ⟨a, l, c, rfl⟩ := okWide_slice ht hv
  obtain ⟨fuel, hf⟩ := h
  exact arrL_of_trod ht hs hcs he hc (by simpa [Value.cells] using hf)
end
end Go.Pw
/- The plain mathematics of matchings. -/
namespace Go.Pw
open Go
/-- An edge that a matching may take. -/
def edgeOk (size : Int) (rows : List Int) (U : Nat) (e : List Int) : Prop := e.length = 2 ∧ edgeP size rows (e.getD 0 0) (e.getD 1 0) ∧ hasB U (e.getD 0 0) = false ∧ hasB U (e.getD 1 0) = false
instance (size : Int) (rows : List Int) (U : Nat) (e : List Int) : Decidable (edgeOk size rows U e) := by unfold edgeOk; infer_instance
def edgeU (U : Nat) (e : List Int) : Nat := U ||| (2 ^ (e.getD 0 0).toNat ||| 2 ^ (e.getD 1 0).toNat)
def mtGo (size : Int) (rows : List Int) : Nat → List (List Int) → Bool
  | _, [] => true
  | U, e :: l => if edgeOk size rows U e then mtGo size rows (edgeU U e) l else false
def mtP (size : Int) (rows : List Int) (L : List (List Int)) : Prop := IsG size rows ∧ mtGo size rows 0 L = true
instance (size : Int) (rows : List Int) (L : List (List Int)) : Decidable (mtP size rows L) := by unfold mtP; infer_instance
theorem edgeOk_num {size : Int} {rows : List Int} {U : Nat} {e : List Int} (h : edgeP size rows (e.getD 0 0) (e.getD 1 0)) (hU : U < 128) :
    ior U (ior (ishl 1 (e.getD 0 0)) (ishl 1 (e.getD 1 0))) = (edgeU U e : Nat) ∧ ior (ior U (ishl 1 (e.getD 0 0))) (ishl 1 (e.getD 1 0)) = (edgeU U e : Nat) ∧ edgeU U e < 128 := by
  obtain ⟨hg, ⟨a0, a1⟩, ⟨b0, b1⟩, _⟩ := h
  obtain ⟨n, hn, _, _, hn7⟩ := isG_size hg
  obtain ⟨a, ha⟩ := Int.eq_ofNat_of_zero_le a0
  obtain ⟨b, hb⟩ := Int.eq_ofNat_of_zero_le b0
  have pa : 2 ^ a < 2 ^ 7 := Nat.pow_lt_pow_right (by omega) (by omega)
  have pb : 2 ^ b < 2 ^ 7 := Nat.pow_lt_pow_right (by omega) (by omega)
  have h1 : 2 ^ a ||| 2 ^ b < 2 ^ 7 := Nat.or_lt_two_pow pa pb
  have h2 : U ||| 2 ^ a < 2 ^ 7 := Nat.or_lt_two_pow hU pa
  unfold edgeU
  rw [ha, hb, Int.toNat_natCast, Int.toNat_natCast, ishl_one_nat (by omega), ishl_one_nat (by omega)]
  refine ⟨?_, ?_, Nat.or_lt_two_pow (n := 7) hU h1⟩
  · rw [ior_nat (by omega) (by omega), ior_nat (by omega) (by omega)]
  · rw [ior_nat (by omega) (by omega), ior_nat (by omega) (by omega), Nat.or_assoc]
end Go.Pw
/- The plain mathematics of lists of edges, and of greatest matchings. -/
namespace Go.Pw
open Go
/-- The edges of v that lead to vertices behind it and below k. -/
def edRow (rows : List Int) (v k : Nat) : List (List Int) := ((List.range k).filter fun u : Nat => decide (v < u) && hasB (rows.getD v 0) (u : Nat)).map fun u : Nat => [(v : Int), (u : Int)]
def edU (rows : List Int) (n v : Nat) : List (List Int) := (List.range v).flatMap fun x => edRow rows x n
theorem edRow_succ (rows : List Int) (v k : Nat) : edRow rows v (k + 1) = if v < k ∧ hasB (rows.getD v 0) (k : Nat) = true then edRow rows v k ++ [[(v : Int), (k : Int)]] else edRow rows v k := by
  unfold edRow
  rw [List.range_succ, List.filter_append, List.map_append]
  by_cases h : v < k ∧ hasB (rows.getD v 0) (k : Nat) = true
  · rw [if_pos h]
    have : (decide (v < k) && hasB (rows.getD v 0) (k : Nat)) = true := by rw [h.2, decide_eq_true h.1]; rfl
    simp only [List.filter_cons, this, if_true, List.filter_nil, List.map_cons, List.map_nil]
  · rw [if_neg h]
    have : (decide (v < k) && hasB (rows.getD v 0) (k : Nat)) = false := by
      cases hb : hasB (rows.getD v 0) (k : Nat) <;> by_cases hv : v < k <;> simp_all
    simp only [List.filter_cons, this]
    simp
theorem edRow_low (rows : List Int) (v : Nat) : ∀ k, k ≤ v + 1 → edRow rows v k = []
  | 0, _ => by simp [edRow]
  | k + 1, h => by rw [edRow_succ, if_neg (by omega), edRow_low rows v k (by omega)]
theorem edU_succ (rows : List Int) (n v : Nat) : edU rows n (v + 1) = edU rows n v ++ edRow rows v n := by simp [edU, List.range_succ]
theorem edRow_length (rows : List Int) (v k : Nat) : (edRow rows v k).length ≤ k := by
  unfold edRow; rw [List.length_map]
  exact Nat.le_trans (List.length_filter_le _ _) (by simp)
theorem edU_length (rows : List Int) (n : Nat) : ∀ v, (edU rows n v).length ≤ v * n
  | 0 => by simp [edU]
  | v + 1 => by
    have := edU_length rows n v
    have h2 := edRow_length rows v n
    rw [edU_succ, List.length_append, Nat.succ_mul]; omega
def edgesL (size : Int) (rows : List Int) : List (List Int) := if IsG size rows then edU rows rows.length rows.length else []
theorem edgesL_length (size : Int) (rows : List Int) : (edgesL size rows).length ≤ 49 := by
  unfold edgesL
  split
  · rename_i hg
    obtain ⟨n, _, hl, _, hn7⟩ := isG_size hg
    have := edU_length rows n n
    have h2 : n * n ≤ 7 * 7 := Nat.mul_le_mul hn7 hn7
    rw [hl]; omega
  · simp
/-- A list of two different vertices of at most seven. -/
def pairOk (e : List Int) : Prop := e.length = 2 ∧ (0 ≤ e.getD 0 0 ∧ e.getD 0 0 ≤ 6) ∧ (0 ≤ e.getD 1 0 ∧ e.getD 1 0 ≤ 6)
theorem edges_mem {size : Int} {rows : List Int} {e : List Int} (h : e ∈ edgesL size rows) : ∃ v u : Nat, e = [(v : Int), (u : Int)] ∧ v < u ∧ u < rows.length ∧ IsG size rows ∧ hasB (rows.getD v 0) (u : Nat) = true := by
  unfold edgesL at h
  split at h
  · rename_i hg
    obtain ⟨v, hv, h2⟩ := List.mem_flatMap.1 h
    obtain ⟨u, hu, rfl⟩ := List.mem_map.1 h2
    obtain ⟨hu1, hu2⟩ := List.mem_filter.1 hu
    simp only [Bool.and_eq_true, decide_eq_true_iff] at hu2
    exact ⟨v, u, rfl, hu2.1, List.mem_range.1 hu1, hg, hu2.2⟩
  · cases h
theorem edges_ok {size : Int} {rows : List Int} {e : List Int} (h : e ∈ edgesL size rows) : pairOk e := by
  obtain ⟨v, u, rfl, h1, h2, hg, _⟩ := edges_mem h
  obtain ⟨n, _, hl, _, hn7⟩ := isG_size hg
  refine ⟨rfl, ?_, ?_⟩ <;> (simp [List.getD]; omega)
def freeB (U : Nat) (e : List Int) : Bool := !hasB U (e.getD 0 0) && !hasB U (e.getD 1 0)
theorem pair_num {U : Nat} {e : List Int} (h : pairOk e) (hU : U < 128) : ior (ior U (ishl 1 (e.getD 0 0))) (ishl 1 (e.getD 1 0)) = (edgeU U e : Nat) ∧ edgeU U e < 128 := by
  obtain ⟨_, ⟨a0, a1⟩, ⟨b0, b1⟩⟩ := h
  obtain ⟨a, ha⟩ := Int.eq_ofNat_of_zero_le a0
  obtain ⟨b, hb⟩ := Int.eq_ofNat_of_zero_le b0
  have pa : 2 ^ a < 2 ^ 7 := Nat.pow_lt_pow_right (by omega) (by omega)
  have pb : 2 ^ b < 2 ^ 7 := Nat.pow_lt_pow_right (by omega) (by omega)
  have h1 : 2 ^ a ||| 2 ^ b < 2 ^ 7 := Nat.or_lt_two_pow pa pb
  have h2 : U ||| 2 ^ a < 2 ^ 7 := Nat.or_lt_two_pow hU pa
  unfold edgeU
  rw [ha, hb, Int.toNat_natCast, Int.toNat_natCast, ishl_one_nat (by omega), ishl_one_nat (by omega)]
  refine ⟨?_, Nat.or_lt_two_pow (n := 7) hU h1⟩
  rw [ior_nat (by omega) (by omega), ior_nat (by omega) (by omega), Nat.or_assoc]
/-- A greatest matching of a list of edges. -/
def matchP : Pairs → Nat → Pairs
  | [], _ => []
  | p :: r, U => if freeB U p.2 = true then (if (matchP r U).length ≤ (matchP r (edgeU U p.2)).length + 1 then p :: matchP r (edgeU U p.2) else matchP r U) else matchP r U
theorem matchP_sub : ∀ (ps : Pairs) (U : Nat), List.Sublist (matchP ps U) ps
  | [], _ => List.Sublist.slnil
  | p :: r, U => by
    unfold matchP
    split
    · split
      · exact List.Sublist.cons_cons _ (matchP_sub r _)
      · exact List.Sublist.cons _ (matchP_sub r _)
    · exact List.Sublist.cons _ (matchP_sub r _)
def matchL : List (List Int) → Nat → List (List Int)
  | [], _ => []
  | e :: r, U => if freeB U e = true then (if (matchL r U).length ≤ (matchL r (edgeU U e)).length + 1 then e :: matchL r (edgeU U e) else matchL r U) else matchL r U
theorem matchP_lss : ∀ (ps : Pairs) (U : Nat), lssOf (matchP ps U) = matchL (lssOf ps) U
  | [], _ => rfl
  | p :: r, U => by
    have h1 := matchP_lss r U
    have h2 := matchP_lss r (edgeU U p.2)
    have e1 : (matchL (lssOf r) U).length = (matchP r U).length := by rw [← h1, lssOf_length]
    have e2 : (matchL (lssOf r) (edgeU U p.2)).length = (matchP r (edgeU U p.2)).length := by rw [← h2, lssOf_length]
    show lssOf (matchP (p :: r) U) = matchL (p.2 :: lssOf r) U
    unfold matchP matchL
    rw [e1, e2]
    split
    · split
      · rw [← h2]; rfl
      · exact h1
    · exact h1
theorem match_skip {p : Value × List Int} {r : Pairs} {U : Nat} (h : freeB U p.2 = false) : matchP (p :: r) U = matchP r U := by
  show (if _ then _ else _) = _
  rw [if_neg (by rw [h]; exact Bool.false_ne_true)]
theorem match_with {p : Value × List Int} {r : Pairs} {U : Nat} (h : freeB U p.2 = true) (h2 : (matchP r U).length ≤ (matchP r (edgeU U p.2)).length + 1) : matchP (p :: r) U = p :: matchP r (edgeU U p.2) := by
  show (if _ then _ else _) = _
  rw [if_pos h, if_pos h2]
theorem match_wo {p : Value × List Int} {r : Pairs} {U : Nat} (h : freeB U p.2 = true) (h2 : ¬ (matchP r U).length ≤ (matchP r (edgeU U p.2)).length + 1) : matchP (p :: r) U = matchP r U := by
  show (if _ then _ else _) = _
  rw [if_pos h, if_neg h2]
theorem matchL_sub : ∀ (ps : List (List Int)) (U : Nat), List.Sublist (matchL ps U) ps
  | [], _ => List.Sublist.slnil
  | p :: r, U => by
    unfold matchL
    split
    · split
      · exact List.Sublist.cons_cons _ (matchL_sub r _)
      · exact List.Sublist.cons _ (matchL_sub r _)
    · exact List.Sublist.cons _ (matchL_sub r _)
theorem sum_pairs : ∀ L : List (List Int), (∀ e ∈ L, e.length = 2) → (L.map List.length).sum = 2 * L.length
  | [], _ => rfl
  | e :: r, h => by
    have := sum_pairs r fun x hx => h x (List.mem_cons_of_mem _ hx)
    have h2 := h e (List.mem_cons_self ..)
    simp only [List.map_cons, List.sum_cons, List.length_cons]; omega
theorem match_bound (size : Int) (rows : List Int) : (matchL (edgesL size rows) 0).length ≤ 1000 ∧ ((matchL (edgesL size rows) 0).map List.length).sum ≤ 100000 := by
  have h1 := (matchL_sub (edgesL size rows) 0).length_le
  have h2 := edgesL_length size rows
  have h3 := sum_pairs (matchL (edgesL size rows) 0) fun e he => (edges_ok (List.Sublist.subset (matchL_sub _ _) he)).1
  omega
end Go.Pw
/- Slices of slices: marks, and calls that turn rows behind a list that is not spelled out. -/
namespace Go.Pw
open Go Go.RowKit
section
variable {P : Program} {n : Nat} {ops : List Oper} {l : List Oper} {Q : Post} {E : Env} {X : List Nat} {w0 : World} {objs : List Ob} {d : Option Nat} {t ty e : TypeId} {pos : String} {af : Array Edge} {g : Option (Nat × Bool)} {x y : Operand}
/-- A call that turns objects found by a permutation. -/
theorem px_turnsP {f : FuncId} {args : List Operand} {ats : Array TypeId} {as : List Value} {old new rest objs' : List Ob} {v : Value} (hp : List.Perm objs (old ++ rest)) (hb : List.Perm (new ++ rest) objs') (hρ : ev E (.func f) = .func (.func f) #[] #[]) (ha : evl (ev E) args = as)
    (hw : wantE ops E g = true) (hd : okDst d n = true)
    (hc : ∀ w, Own w old → Turns P f as.toArray w old new v) (h : Px P n ops .seq l Q (updo E d v) (Cl X w0 objs')) :
    Px P n ops .seq (⟨d, .call { callee := .value (.func f), args := args.toArray, argTypes := ats }, ty, pos, af, g⟩ :: l) Q E (Cl X w0 objs) := by
  have hown : ∀ w, Cl X w0 objs w → Own w old ∧ Cl X w0 (old ++ rest) w := fun w hC => by
    have := hC.perm hp
    exact ⟨this.own, this⟩
  refine px_call hw hd (fun w hC => run_call (hc w (hown w hC).1).entry hρ w) fun w hC => ?_
  rw [evl_eq, ha]
  exact (hc w (hown w hC).1).out.mono fun e w' ⟨he, hcl⟩ => ⟨v, _, he, ((hown w hC).2.turnMany hcl).perm hb, h⟩
/-- A call that turns object k and the rows G at the end. -/
theorem px_turnsS (k m : Nat) {f : FuncId} {args : List Operand} {ats : Array TypeId} {as : List Value} {o o' : Ob} {W G G' : List Ob} {v : Value} (hρ : ev E (.func f) = .func (.func f) #[] #[]) (ha : evl (ev E) args = as)
    (hn : nthOb objs k = some o) (ht : List.drop m (dropOb objs k) = W ++ G) (hw : wantE ops E g = true) (hd : okDst d n = true)
    (hc : ∀ w, Own w (o :: G) → Turns P f as.toArray w (o :: G) (o' :: G') v) (h : Px P n ops .seq l Q (updo E d v) (Cl X w0 (o' :: (List.take m (dropOb objs k) ++ (W ++ G'))))) :
    Px P n ops .seq (⟨d, .call { callee := .value (.func f), args := args.toArray, argTypes := ats }, ty, pos, af, g⟩ :: l) Q E (Cl X w0 objs) := by
  refine px_turnsP (old := o :: G) (new := o' :: G') (rest := List.take m (dropOb objs k) ++ W) ?_ ?_ hρ ha hw hd hc h
  · refine (setOb_perm objs k o o hn).2.trans (List.Perm.cons _ ?_)
    have e : dropOb objs k = (List.take m (dropOb objs k) ++ W) ++ G := by rw [List.append_assoc, ← ht, List.take_append_drop]
    rw [e]
    have : List.take m ((List.take m (dropOb objs k) ++ W) ++ G) = List.take m (dropOb objs k) := by rw [← e]
    rw [this]
    exact List.perm_append_comm
  · refine List.Perm.cons _ ?_
    rw [← List.append_assoc]
    exact List.perm_append_comm
end
/-- Rows with each member numbered. -/
def markPs : Int → Pairs → Pairs
  | _, [] => []
  | k, p :: r => (p.1, upfrom k p.2.length) :: markPs (k + p.2.length) r
def sumP (ps : Pairs) : Nat := (ps.map fun p => p.2.length).sum
theorem markPs_length : ∀ (ps : Pairs) (k : Int), (markPs k ps).length = ps.length
  | [], _ => rfl
  | p :: r, k => by simp [markPs, markPs_length r]
theorem markPs_svs : ∀ (ps : Pairs) (k : Int), svsOf (markPs k ps) = svsOf ps
  | [], _ => rfl
  | p :: r, k => by have := markPs_svs r (k + p.2.length); simp only [svsOf] at this ⊢; simp [markPs, this]
theorem markPs_append : ∀ (a b : Pairs) (k : Int), markPs k (a ++ b) = markPs k a ++ markPs (k + sumP a) b
  | [], b, k => by simp [markPs, sumP]
  | p :: r, b, k => by
    have := markPs_append r b (k + p.2.length)
    simp only [List.cons_append, markPs, this, sumP, List.map_cons, List.sum_cons]
    congr 3
    simp only [Int.natCast_add]; omega
section
variable {P : Program} {n : Nat} {ops : List Oper} {l : List Oper} {Q : Post} {E : Env} {X : List Nat} {w0 : World} {objs : List Ob} {d : Option Nat} {t ty e : TypeId} {pos : String} {af : Array Edge} {g : Option (Nat × Bool)} {x y : Operand}
theorem px_lit1p {md : Md} (p : Value × List Int) {zv : Value} {bytes : Nat} {x0 : Operand} (he : ElemZ P t e zv bytes) (h0 : ev E x0 = p.1) (s0 : ∀ w, Cl X w0 objs w → storable p.1 = true) (hmd : mdOk md (.buildSlice t 1 #[(0, x0)]) = true) (hw : wantE ops E g = true) (hd : okDst d n = true)
    (h : ∀ sv, Px P n ops md l Q (updo E d sv) (Cl X w0 (.row e sv (svsOf [p]) :: objs))) :
    Px P n ops md (⟨d, .buildSlice t 1 #[(0, x0)], ty, pos, af, g⟩ :: l) Q E (Cl X w0 objs) := px_lit1 he h0 s0 hmd hw hd h
theorem px_lit0s {md : Md} {zv : Value} {bytes : Nat} (he : ElemZ P t e zv bytes) (hmd : mdOk md (.buildSlice t 0 #[]) = true) (hw : wantE ops E g = true) (hd : okDst d n = true)
    (h : ∀ sv, Px P n ops md l Q (updo E d sv) (Cl X w0 (.row e sv (svsOf []) :: objs))) :
    Px P n ops md (⟨d, .buildSlice t 0 #[], ty, pos, af, g⟩ :: l) Q E (Cl X w0 objs) := px_lit0 he hmd hw hd h
theorem svsOf_append (a b : Pairs) : svsOf a ++ svsOf b = svsOf (a ++ b) := by simp [svsOf]
/-- 'append(s, x...)', rows of rows; the members of x may be stored. -/
theorem px_append_svs {sv xv zv : Value} {a b : Pairs} {bytes : Nat} (k : Nat) (he : ElemZ P t e zv bytes) (hx : ev E x = sv) (hy : ev E y = xv) (hn : nthOb objs k = some (.row e sv (svsOf a))) (hr : Rd (Cl X w0 objs) xv (svsOf b)) (hs : ∀ w, Cl X w0 objs w → ∀ u ∈ svsOf b, storable u = true)
    (hm : (a.length + b.length) * bytes ≤ 140737488355328) (hb : 0 < bytes) (hw : wantE ops E g = true) (hd : okDst d n = true) (h : ∀ sv', Px P n ops .seq l Q (updo E d sv') (Cl X w0 (setOb objs k (.row e sv' (svsOf (a ++ b)))))) :
    Px P n ops .seq (⟨d, .call { callee := .builtin .append, args := #[x, y], argTypes := #[t, t] }, ty, pos, af, g⟩ :: l) Q E (Cl X w0 objs) :=
  px_append k he hx hy hn hr hs (by simpa using hm) hb hw hd fun sv' => by rw [svsOf_append]; exact h sv'
end
theorem svsOf_snoc (ps : Pairs) (p : Value × List Int) : svsOf (ps ++ [p]) = svsOf ps ++ [p.1] := by simp [svsOf]
theorem lssOf_snoc (ps : Pairs) (p : Value × List Int) : lssOf (ps ++ [p]) = lssOf ps ++ [p.2] := by simp [lssOf]
theorem ArrS.drop {w : World} {sv : Value} {ps : Pairs} {k : Nat} (h : ArrS w sv ps) (hk : k ≤ ps.length) : ArrS w (dropV k sv) (ps.drop k) := by
  refine ⟨?_, fun i hi => ?_⟩
  · have := arr_drop h.arr (k := k) (by simpa using hk)
    simpa [svsOf, List.map_drop] using this
  · rw [List.length_drop] at hi
    have := h.each (k + i) (by omega)
    have e : (ps.drop k).getD i (undef, []) = ps.getD (k + i) (undef, []) := by simp [List.getD, List.getElem?_drop]
    unfold svAt lsAt at this ⊢
    rw [e]; exact this
theorem ps_drop {ps : Pairs} {k : Nat} (h : k < ps.length) : ps.drop k = (svAt ps k, lsAt ps k) :: ps.drop (k + 1) := by
  rw [List.drop_eq_getElem_cons h]; congr 1; simp [svAt, lsAt, List.getD, h]
theorem ps_take {ps : Pairs} {k : Nat} (h : k < ps.length) : ps.take (k + 1) = ps.take k ++ [(svAt ps k, lsAt ps k)] := by
  rw [List.take_succ_eq_append_getElem h]; congr 2; simp [svAt, lsAt, List.getD, h]
theorem markPs_take (ps : Pairs) (k : Int) (i : Nat) (h : i < ps.length) : (markPs k ps).take (i + 1) = (markPs k ps).take i ++ [(svAt ps i, upfrom (k + sumP (ps.take i)) (lsAt ps i).length)] := by
  have e : markPs k ps = markPs k (ps.take i) ++ markPs (k + sumP (ps.take i)) (ps.drop i) := by rw [← markPs_append, List.take_append_drop]
  have hl : (markPs k (ps.take i)).length = i := by rw [markPs_length, List.length_take]; omega
  rw [ps_drop h] at e
  rw [e]
  have h1 : ∀ (A B : Pairs), A.length = i → (A ++ B).take i = A := fun A B hA => by rw [← hA]; exact List.take_left
  rw [h1 _ _ hl]
  have h2 : ∀ (A B : Pairs) p, A.length = i → (A ++ p :: B).take (i + 1) = A ++ [p] := fun A B p hA => by
    rw [show A ++ p :: B = (A ++ [p]) ++ B by simp]
    have : (A ++ [p]).length = i + 1 := by simp [hA]
    rw [← this]; exact List.take_left
  exact h2 (markPs k (ps.take i)) _ (svAt ps i, upfrom (k + sumP (ps.take i)) (lsAt ps i).length) hl
theorem sumP_take (ps : Pairs) (i : Nat) (h : i < ps.length) : sumP (ps.take (i + 1)) = sumP (ps.take i) + (lsAt ps i).length := by
  rw [ps_take h]; simp [sumP]
theorem sumP_le (ps : Pairs) (i : Nat) : sumP (ps.take i) ≤ sumP ps := by
  have h : ∀ a b : Pairs, sumP (a ++ b) = sumP a + sumP b := fun a b => by simp [sumP]
  have := h (ps.take i) (ps.drop i)
  rw [List.take_append_drop] at this
  omega
theorem rows_mid (e : TypeId) (A B : Pairs) (p : Value × List Int) (o : Ob) : List.Perm (o :: rowsOb e (A ++ p :: B)) ([.row e p.1 (ints p.2)] ++ (o :: rowsOb e (A ++ B))) := by
  have h1 : rowsOb e (A ++ p :: B) = rowsOb e A ++ .row e p.1 (ints p.2) :: rowsOb e B := by simp [rowsOb]
  have h2 : rowsOb e (A ++ B) = rowsOb e A ++ rowsOb e B := by simp [rowsOb]
  rw [h1, h2]
  exact (List.Perm.cons o List.perm_middle).trans (List.Perm.swap _ _ _)
theorem mark_bound {ps : Pairs} {L : List (List Int)} (h : lssOf ps = L) (hL : L.length ≤ 1000 ∧ (L.map List.length).sum ≤ 100000) : ((0 : Int) ≤ 1 ∧ (1 : Int) + sumP ps ≤ 1000000000) ∧ ps.length ≤ 1000000 := by
  have h1 : ps.length = L.length := by rw [← h, lssOf_length]
  have h2 : sumP ps = (L.map List.length).sum := by rw [← h]; simp [sumP, lssOf, Function.comp_def]
  refine ⟨⟨by omega, by omega⟩, by omega⟩
end Go.Pw
/- The plain mathematics of arcs that force one another. -/
namespace Go.Pw
open Go
/-- The first place of a list among lists, -1 if it is not there. -/
def placeA : List (List Int) → List Int → Int
  | [], _ => -1
  | y :: r, x => if y = x then 0 else if placeA r x < 0 then -1 else placeA r x + 1
theorem placeA_range (l : List (List Int)) (x : List Int) : -1 ≤ placeA l x ∧ placeA l x < l.length := by
  induction l with
  | nil => simp [placeA]
  | cons y r ih =>
    unfold placeA
    simp only [List.length_cons]
    split
    · omega
    · split <;> omega
theorem placeA_mem (l : List (List Int)) (x : List Int) : 0 ≤ placeA l x ↔ x ∈ l := by
  induction l with
  | nil => simp [placeA]
  | cons y r ih =>
    unfold placeA
    rw [List.mem_cons]
    have hr := placeA_range r x
    split
    · next h => simp [h]
    · next h =>
      have h' : ¬ x = y := fun e => h e.symm
      simp only [h', false_or, ← ih]
      split <;> omega
theorem placeA_none : ∀ (l : List (List Int)) (x : List Int), (∀ i, i < l.length → l.getD i [] ≠ x) → placeA l x = -1
  | [], _, _ => rfl
  | y :: r, x, h => by
    have h0 : y ≠ x := h 0 (by simp)
    have h1 := placeA_none r x fun i hi => h (i + 1) (by simp; omega)
    unfold placeA
    rw [if_neg h0, h1]; rfl
theorem placeA_some : ∀ (l : List (List Int)) (x : List Int) (k : Nat), k < l.length → l.getD k [] = x → (∀ i, i < k → l.getD i [] ≠ x) → placeA l x = k
  | [], _, _, h, _, _ => by simp at h
  | y :: r, x, 0, _, h, _ => by
    have h' : y = x := h
    unfold placeA; rw [if_pos h']; rfl
  | y :: r, x, k + 1, hk, h, hb => by
    have h0 : y ≠ x := hb 0 (by omega)
    have h1 := placeA_some r x k (by simpa using hk) h fun i hi => hb (i + 1) (by omega)
    unfold placeA
    rw [if_neg h0, h1, if_neg (by omega)]; push_cast; try rfl
theorem lss_getD (ps : Pairs) (k : Nat) : (lssOf ps).getD k [] = lsAt ps k := by
  simp only [lssOf, lsAt, List.getD, List.getElem?_map]
  cases ps[k]? <;> rfl
/-- Does the edge v u follow at once from a b? -/
def nextB (rows : List Int) (a b : Int) (v u : Nat) : Bool :=
  hasB (rows.getD v 0) (u : Nat) && (decide ((v : Int) = a) && !decide ((u : Int) = b) && !hasB (rows.getD u 0) b || decide ((u : Int) = b) && !decide ((v : Int) = a) && !hasB (rows.getD v 0) a)
theorem nextB_iff {rows : List Int} {a b : Int} {v u : Nat} : nextB rows a b v u = true ↔ hasB (rows.getD v 0) (u : Nat) = true ∧ (((v : Int) = a ∧ ¬ (u : Int) = b ∧ hasB (rows.getD u 0) b = false) ∨ ((u : Int) = b ∧ ¬ (v : Int) = a ∧ hasB (rows.getD v 0) a = false)) := by
  unfold nextB
  simp only [Bool.and_eq_true, Bool.or_eq_true, decide_eq_true_eq, Bool.not_eq_true', decide_eq_false_iff_not, and_assoc]
def nextRow (rows : List Int) (a b : Int) (v k : Nat) : List (List Int) := ((List.range k).filter (nextB rows a b v)).map fun u : Nat => [(v : Int), (u : Int)]
def nextU (rows : List Int) (n : Nat) (a b : Int) (v : Nat) : List (List Int) := (List.range v).flatMap fun x => nextRow rows a b x n
def nextA (rows : List Int) (a b : Int) : List (List Int) := nextU rows rows.length a b rows.length
theorem nextRow_succ (rows : List Int) (a b : Int) (v k : Nat) : nextRow rows a b v (k + 1) = if nextB rows a b v k = true then nextRow rows a b v k ++ [[(v : Int), (k : Int)]] else nextRow rows a b v k := by
  unfold nextRow
  rw [List.range_succ, List.filter_append, List.map_append]
  cases h : nextB rows a b v k <;> simp [h]
theorem nextU_succ (rows : List Int) (n : Nat) (a b : Int) (v : Nat) : nextU rows n a b (v + 1) = nextU rows n a b v ++ nextRow rows a b v n := by simp [nextU, List.range_succ]
theorem nextRow_length (rows : List Int) (a b : Int) (v k : Nat) : (nextRow rows a b v k).length ≤ k := by
  unfold nextRow; rw [List.length_map]
  exact Nat.le_trans (List.length_filter_le _ _) (by simp)
theorem nextU_length (rows : List Int) (n : Nat) (a b : Int) : ∀ v, (nextU rows n a b v).length ≤ v * n
  | 0 => by simp [nextU]
  | v + 1 => by
    have := nextU_length rows n a b v
    have h2 := nextRow_length rows a b v n
    rw [nextU_succ, List.length_append, Nat.succ_mul]; omega
theorem nextA_mem {rows : List Int} {a b : Int} {e : List Int} (h : e ∈ nextA rows a b) : ∃ v u : Nat, e = [(v : Int), (u : Int)] ∧ v < rows.length ∧ u < rows.length ∧ nextB rows a b v u = true := by
  obtain ⟨v, hv, h2⟩ := List.mem_flatMap.1 h
  obtain ⟨u, hu, rfl⟩ := List.mem_map.1 h2
  obtain ⟨hu1, hu2⟩ := List.mem_filter.1 hu
  exact ⟨v, u, rfl, List.mem_range.1 hv, List.mem_range.1 hu1, hu2⟩
/-- The program's way to the arcs out of a. -/
theorem testBit_andnot (a b x : Nat) : (a ^^^ (a &&& b)).testBit x = (a.testBit x && !b.testBit x) := by
  rw [Nat.testBit_xor, Nat.testBit_and]
  cases a.testBit x <;> cases b.testBit x <;> rfl
theorem andnot_lt {a b : Nat} (h : a < 128) : a ^^^ (a &&& b) < 128 :=
  Nat.xor_lt_two_pow (n := 7) h (Nat.lt_of_le_of_lt Nat.and_le_left h)
theorem andnot_bits {A B : Nat} (hA : A < 128) (hB : B < 128) : ∃ S : Nat, iandnot (A : Int) (B : Int) = S ∧ S < 128 ∧ ∀ x, x < 7 → S.testBit x = (A.testBit x && !B.testBit x) :=
  ⟨A ^^^ (A &&& B), iandnot_nat (by omega), andnot_lt hA, fun x _ => testBit_andnot A B x⟩
theorem range_filter_le {p : Nat → Bool} {n m : Nat} (h : n ≤ m) (hp : ∀ x, n ≤ x → x < m → p x = false) : (List.range m).filter p = (List.range n).filter p := by
  obtain ⟨d, rfl⟩ : ∃ d, m = n + d := ⟨m - n, by omega⟩
  induction d with
  | zero => rfl
  | succ d ih =>
    rw [← Nat.add_assoc, List.range_succ, List.filter_append, ih (by omega) fun x h1 h2 => hp x h1 (by omega)]
    have := hp (n + d) (by omega) (by omega)
    simp [this]
theorem next_out {size : Int} {rows : List Int} {a b : Nat} (hg : IsG size rows) (ha : a < rows.length) (hb : b < rows.length) :
    nextRow rows a b a rows.length = (listS (iandnot (iandnot (rows.getD a 0) (rows.getD b 0)) (ishl 1 (b : Int)))).map fun c => [(a : Int), c] := by
  obtain ⟨n, hn, hl, hn1, hn7⟩ := isG_size hg
  obtain ⟨A, a1, a2, a3⟩ := row_nat hg hn a
  obtain ⟨B, b1, b2, b3⟩ := row_nat hg hn b
  obtain ⟨S, s1, s2, s3⟩ := andnot_bits a3 b3
  have pb : 2 ^ b < 2 ^ 7 := Nat.pow_lt_pow_right (by omega) (by omega)
  obtain ⟨T, t1, t2, t3⟩ := andnot_bits s2 pb
  rw [a1, b1, s1, ishl_one_nat (by omega), t1, listS_eq ⟨by omega, by omega⟩]
  unfold nextRow listU
  rw [List.map_map, range_filter_le (n := rows.length) (m := 7) (by omega)]
  · have e : (List.range rows.length).filter (nextB rows a b a) = (List.range rows.length).filter fun v => hasB (T : Int) (v : Nat) := by
      refine List.filter_congr fun u hu => ?_
      have hu' := List.mem_range.1 hu
      have hsy := edge_sym hg (v := u) (u := b) hu' hb
      rw [hasB_nat (by omega) (by omega), t3 u (by omega), s3 u (by omega), Nat.testBit_two_pow]
      unfold nextB
      rw [hsy, a1, b1, hasB_nat (by omega) (by omega), hasB_nat (by omega) (by omega)]
      have e1 : decide ((a : Int) = (a : Int)) = true := by simp
      have e2 : decide ((u : Int) = (b : Int)) = decide (b = u) := by simp; omega
      rw [e1, e2]
      cases A.testBit u <;> cases B.testBit u <;> cases decide (b = u) <;> rfl
    rw [e]
    rfl
  · intro x h1 h2
    rw [hasB_nat (by omega) (by omega), t3 x h2, s3 x h2]
    have : A.testBit x = false := Nat.testBit_lt_two_pow (Nat.lt_of_lt_of_le a2 (Nat.pow_le_pow_right (by omega) (by omega)))
    rw [this]; rfl
theorem next_in {size : Int} {rows : List Int} {a b v : Nat} (hg : IsG size rows) (ha : a < rows.length) (hb : b < rows.length) (hv : v < rows.length) (hne : v ≠ a) :
    nextRow rows a b v rows.length = if hasB (iandnot (rows.getD b 0) (rows.getD a 0)) (v : Nat) = true then [[(v : Int), (b : Int)]] else [] := by
  obtain ⟨n, hn, hl, hn1, hn7⟩ := isG_size hg
  obtain ⟨A, a1, a2, a3⟩ := row_nat hg hn a
  obtain ⟨B, b1, b2, b3⟩ := row_nat hg hn b
  obtain ⟨S, s1, s2, s3⟩ := andnot_bits b3 a3
  have bA : ∀ x : Nat, x < 7 → hasB (A : Int) (x : Nat) = A.testBit x := fun x hx => hasB_nat (by omega) (by omega)
  have bB : ∀ x : Nat, x < 7 → hasB (B : Int) (x : Nat) = B.testBit x := fun x hx => hasB_nat (by omega) (by omega)
  have bS : ∀ x : Nat, x < 7 → hasB (S : Int) (x : Nat) = S.testBit x := fun x hx => hasB_nat (by omega) (by omega)
  have hf : ∀ u, nextB rows a b v u = (decide (u = b) && hasB (S : Int) (v : Nat)) := by
    intro u
    by_cases hub : u = b
    · subst hub
      have h1 := edge_sym hg (v := v) (u := u) hv hb
      have h2 := edge_sym hg (v := v) (u := a) hv ha
      unfold nextB
      have e1 : decide ((v : Int) = (a : Int)) = false := by simp; omega
      rw [h1, h2, e1, a1, b1, bB v (by omega), bB u (by omega), bA v (by omega), bS v (by omega), s3 v (by omega)]
      simp
    · unfold nextB
      have e1 : decide ((v : Int) = (a : Int)) = false := by simp; omega
      have e2 : decide ((u : Int) = (b : Int)) = false := by simp; omega
      rw [e1, e2]
      simp [hub]
  rw [b1, a1, s1]
  unfold nextRow
  have e : (List.range rows.length).filter (nextB rows a b v) = (List.range rows.length).filter fun u => decide (u = b) && hasB (S : Int) (v : Nat) := List.filter_congr fun u _ => hf u
  rw [e]
  cases hS : hasB (S : Int) (v : Nat) with
  | false => simp
  | true =>
    have : ∀ m, b < m → (List.range m).filter (fun u => decide (u = b) && true) = [b] := by
      intro m
      induction m with
      | zero => intro h; omega
      | succ m ih =>
        intro h
        rw [List.range_succ, List.filter_append]
        by_cases hm : b < m
        · rw [ih hm]
          have : ¬ m = b := by omega
          simp [this]
        · obtain rfl : b = m := by omega
          have : (List.range b).filter (fun u => decide (u = b) && true) = [] := by
            rw [List.filter_eq_nil_iff]
            intro x hx
            have := List.mem_range.1 hx
            simp; omega
          rw [this]; simp
    rw [this _ hb]; simp
/-- One more arc, if it is new. -/
def addA (k : Int) (s : List (List Int) × List Int) (e : List Int) : List (List Int) × List Int := if e ∈ s.1 then s else (s.1 ++ [e], s.2 ++ [k])
def stepA (rows : List Int) (s : List (List Int) × List Int) (k : Nat) : List (List Int) × List Int :=
  (nextA rows ((s.1.getD k []).getD 0 0) ((s.1.getD k []).getD 1 0)).foldl (addA k) s
def bfsA (rows : List Int) (a b : Int) : Nat → List (List Int) × List Int
  | 0 => ([[a, b]], [-1])
  | k + 1 => if k < (bfsA rows a b k).1.length then stepA rows (bfsA rows a b k) k else bfsA rows a b k
/-- An arc between the first n vertices. -/
def arcN (n : Nat) (e : List Int) : Prop := ∃ v u : Nat, e = [(v : Int), (u : Int)] ∧ v < n ∧ u < n
theorem nodup_lenA : ∀ (l m : List (List Int)), l.Nodup → (∀ x ∈ l, x ∈ m) → l.length ≤ m.length
  | [], _, _, _ => Nat.zero_le _
  | x :: r, m, hn, h => by
    obtain ⟨h1, h2⟩ := List.nodup_cons.1 hn
    have hx := h x (List.mem_cons_self ..)
    have := nodup_lenA r (m.erase x) h2 fun y hy => (List.mem_erase_of_ne (fun e => h1 (by rw [← e]; exact hy))).2 (h y (List.mem_cons_of_mem _ hy))
    have h3 := List.length_erase_of_mem hx
    have h4 := List.length_pos_of_mem hx
    simp only [List.length_cons]
    omega
def allArcs (n : Nat) : List (List Int) := (List.range n).flatMap fun v : Nat => (List.range n).map fun u : Nat => [(v : Int), (u : Int)]
theorem allArcs_len (n : Nat) : (allArcs n).length = n * n := by
  unfold allArcs
  rw [List.length_flatMap]
  have : ∀ m : Nat, (List.map (fun _ : Nat => n) (List.range m)).sum = m * n := by
    intro m
    induction m with
    | zero => simp
    | succ m ih => rw [List.range_succ, List.map_append, List.sum_append, ih, Nat.succ_mul]; simp
  simp only [List.length_map, List.length_range]
  exact this n
theorem arcN_mem {n : Nat} {e : List Int} (h : arcN n e) : e ∈ allArcs n := by
  obtain ⟨v, u, rfl, hv, hu⟩ := h
  exact List.mem_flatMap.2 ⟨v, List.mem_range.2 hv, List.mem_map.2 ⟨u, List.mem_range.2 hu, rfl⟩⟩
/-- What a search by breadth keeps true. -/
structure OkA (n : Nat) (s : List (List Int) × List Int) : Prop where
  arc : ∀ e ∈ s.1, arcN n e
  nodup : s.1.Nodup
  len : s.2.length = s.1.length
  back : ∀ i, i < s.2.length → -1 ≤ s.2.getD i 0 ∧ s.2.getD i 0 < i
theorem OkA.bound {n : Nat} {s : List (List Int) × List Int} (h : OkA n s) (hn : n ≤ 7) : s.1.length ≤ 49 := by
  have h1 := nodup_lenA s.1 (allArcs n) h.nodup fun x hx => arcN_mem (h.arc x hx)
  rw [allArcs_len] at h1
  have h2 : n * n ≤ 7 * 7 := Nat.mul_le_mul hn hn
  omega
theorem OkA.add {n : Nat} {s : List (List Int) × List Int} {k : Nat} {e : List Int} (h : OkA n s) (he : arcN n e) (hk : k < s.1.length) : OkA n (addA k s e) ∧ k < (addA k s e).1.length := by
  unfold addA
  split
  · exact ⟨h, hk⟩
  · rename_i hno
    refine ⟨⟨fun x hx => ?_, ?_, by simp [h.len], fun i hi => ?_⟩, by simp; omega⟩
    · rcases List.mem_append.1 hx with hx | hx
      · exact h.arc x hx
      · obtain rfl := List.mem_singleton.1 hx; exact he
    · refine List.nodup_append.2 ⟨h.nodup, List.pairwise_singleton _ _, fun x hx y hy => ?_⟩
      obtain rfl := List.mem_singleton.1 hy
      rintro rfl
      exact hno hx
    · simp only [List.length_append, List.length_singleton] at hi
      by_cases hlt : i < s.2.length
      · have := h.back i hlt
        simpa [List.getD, List.getElem?_append_left hlt] using this
      · obtain rfl : i = s.2.length := by omega
        have := h.len
        simp [List.getD]; omega
theorem OkA.fold {n : Nat} {k : Nat} : ∀ (l : List (List Int)) {s : List (List Int) × List Int}, OkA n s → (∀ e ∈ l, arcN n e) → k < s.1.length → OkA n (l.foldl (addA k) s) ∧ k < (l.foldl (addA k) s).1.length
  | [], _, h, _, hk => ⟨h, hk⟩
  | e :: r, s, h, hl, hk => by
    obtain ⟨h1, h2⟩ := h.add (hl e (List.mem_cons_self ..)) hk
    exact OkA.fold r h1 (fun x hx => hl x (List.mem_cons_of_mem _ hx)) h2
theorem nextA_arc {rows : List Int} {a b : Int} : ∀ e ∈ nextA rows a b, arcN rows.length e := fun e he => by
  obtain ⟨v, u, h, hv, hu, _⟩ := nextA_mem he
  exact ⟨v, u, h, hv, hu⟩
theorem bfsA_ok {rows : List Int} {a b : Int} (hab : arcN rows.length [a, b]) : ∀ k, OkA rows.length (bfsA rows a b k)
  | 0 => ⟨fun e he => by obtain rfl := List.mem_singleton.1 he; exact hab, List.pairwise_singleton _ _, rfl, fun i hi => by
      have : i = 0 := by simp [bfsA] at hi; omega
      subst this; simp [bfsA]⟩
  | k + 1 => by
    have ih := bfsA_ok hab k
    unfold bfsA
    split
    · rename_i hk
      exact (OkA.fold (k := k) _ ih nextA_arc hk).1
    · exact ih
theorem bfsA_stop {rows : List Int} {a b : Int} {k : Nat} (h : (bfsA rows a b k).1.length ≤ k) : ∀ m, k ≤ m → bfsA rows a b m = bfsA rows a b k := by
  intro m hm
  obtain ⟨d, rfl⟩ : ∃ d, m = k + d := ⟨m - k, by omega⟩
  induction d with
  | zero => rfl
  | succ d ih =>
    have e := ih (by omega)
    rw [← Nat.add_assoc]
    rw [bfsA, e, if_neg (by omega)]
/-- An arc and all that it forces, with the places by which they were found. -/
def forcedA (rows : List Int) (a b : Int) : List (List Int) × List Int := bfsA rows a b 49
theorem forcedA_ok {rows : List Int} {a b : Int} (hab : arcN rows.length [a, b]) : OkA rows.length (forcedA rows a b) := bfsA_ok hab 49
theorem forcedA_end {rows : List Int} {a b : Int} (hab : arcN rows.length [a, b]) (hn : rows.length ≤ 7) {k : Nat} (h : k = (bfsA rows a b k).1.length) : forcedA rows a b = bfsA rows a b k := by
  have := (bfsA_ok hab k).bound hn
  exact bfsA_stop (by omega) 49 (by omega)
def foldU (k : Int) (s : List (List Int) × List Int) (L : List (List Int)) (j : Nat) : List (List Int) × List Int := (L.take j).foldl (addA k) s
theorem foldU_succ {k : Int} {s : List (List Int) × List Int} {L : List (List Int)} {j : Nat} (h : j < L.length) : foldU k s L (j + 1) = addA k (foldU k s L j) (L.getD j []) := by
  unfold foldU
  rw [List.take_add_one, List.foldl_append]
  simp [List.getD, h]
theorem foldU_all (k : Int) (s : List (List Int) × List Int) (L : List (List Int)) : foldU k s L L.length = L.foldl (addA k) s := by
  unfold foldU; rw [List.take_length]
theorem foldU_ok {n k : Nat} {s : List (List Int) × List Int} (h : OkA n s) {L : List (List Int)} (hL : ∀ e ∈ L, arcN n e) (hk : k < s.1.length) (j : Nat) : OkA n (foldU k s L j) :=
  (h.fold (L.take j) (fun e he => hL e (List.mem_of_mem_take he)) hk).1
theorem addA_new {k : Int} {s : List (List Int) × List Int} {e : List Int} (h : placeA s.1 e < 0) : addA k s e = (s.1 ++ [e], s.2 ++ [k]) := by
  unfold addA; rw [if_neg (fun hm => by have := (placeA_mem s.1 e).2 hm; omega)]
theorem addA_old {k : Int} {s : List (List Int) × List Int} {e : List Int} (h : ¬ placeA s.1 e < 0) : addA k s e = s := by
  unfold addA; rw [if_pos ((placeA_mem s.1 e).1 (by omega))]
/-- The way back from an arc by the arcs by which they were found. -/
def chainF (f : List Int) : Nat → Int → List Nat
  | 0, _ => []
  | d + 1, i => if i < 0 then [] else chainF f d (f.getD i.toNat 0) ++ [i.toNat]
theorem chainF_fuel {f : List Int} (hf : ∀ i, i < f.length → -1 ≤ f.getD i 0 ∧ f.getD i 0 < i) : ∀ (d m : Nat) (i : Int), -1 ≤ i → i < d → i < m → i < f.length → chainF f d i = chainF f m i
  | 0, 0, _, _, _, _, _ => rfl
  | 0, m + 1, i, h0, h1, _, _ => by
    show [] = chainF f (m + 1) i
    unfold chainF; rw [if_pos (by omega)]
  | d + 1, 0, i, h0, _, h2, _ => by
    show chainF f (d + 1) i = []
    unfold chainF; rw [if_pos (by omega)]
  | d + 1, m + 1, i, h0, h1, h2, h3 => by
    unfold chainF
    split
    · rfl
    · have := hf i.toNat (by omega)
      rw [chainF_fuel hf d m (f.getD i.toNat 0) (by omega) (by omega) (by omega) (by omega)]
def chainI (f : List Int) (i : Int) : List Nat := chainF f (f.length + 1) i
theorem chainI_neg {f : List Int} {i : Int} (h : i < 0) : chainI f i = [] := by unfold chainI chainF; rw [if_pos h]
theorem chainI_step {f : List Int} (hf : ∀ i, i < f.length → -1 ≤ f.getD i 0 ∧ f.getD i 0 < i) {i : Nat} (h : i < f.length) : chainI f i = chainI f (f.getD i 0) ++ [i] := by
  unfold chainI
  rw [show chainF f (f.length + 1) (i : Int) = chainF f f.length (f.getD (i : Int).toNat 0) ++ [(i : Int).toNat] by
    rw [chainF, if_neg (by omega)]]
  have := hf i h
  rw [Int.toNat_natCast, chainF_fuel hf f.length (f.length + 1) (f.getD i 0) (by omega) (by omega) (by omega) (by omega)]
theorem chainI_lt {f : List Int} (hf : ∀ i, i < f.length → -1 ≤ f.getD i 0 ∧ f.getD i 0 < i) : ∀ (k : Nat) (i : Int), i < k → -1 ≤ i → i < f.length → (chainI f i).Pairwise (· < ·) ∧ ∀ x ∈ chainI f i, (x : Int) ≤ i
  | 0, i, h, _, _ => by rw [chainI_neg (by omega)]; exact ⟨List.Pairwise.nil, fun _ h => (List.not_mem_nil h).elim⟩
  | k + 1, i, h, h0, h1 => by
    by_cases hn : i < 0
    · rw [chainI_neg hn]; exact ⟨List.Pairwise.nil, fun _ h => (List.not_mem_nil h).elim⟩
    obtain ⟨j, rfl⟩ := Int.eq_ofNat_of_zero_le (show 0 ≤ i by omega)
    have hb := hf j (by omega)
    obtain ⟨h2, h3⟩ := chainI_lt hf k (f.getD j 0) (by omega) (by omega) (by omega)
    rw [chainI_step hf (by omega)]
    refine ⟨List.pairwise_append.2 ⟨h2, List.pairwise_singleton _ _, fun x hx y hy => ?_⟩, fun x hx => ?_⟩
    · obtain rfl := List.mem_singleton.1 hy
      have := h3 x hx
      omega
    · rcases List.mem_append.1 hx with hx | hx
      · have := h3 x hx; omega
      · obtain rfl := List.mem_singleton.1 hx; exact Int.le_refl _
/-- The chain by which an arc forces its opposite. -/
def chainX (rows : List Int) (a b : Int) : Option (List (List Int)) :=
  if [b, a] ∈ (forcedA rows a b).1 then some ((chainI (forcedA rows a b).2 (placeA (forcedA rows a b).1 [b, a])).map fun i => (forcedA rows a b).1.getD i []) else none
def chainK (rows : List Int) (es : List (List Int)) : Option (List (List Int)) := es.findSome? fun e => chainX rows (e.getD 0 0) (e.getD 1 0)
def forceX (size : Int) (rows : List Int) : Option (List (List Int)) := chainK rows (edgesL size rows)
theorem asc_len : ∀ (c : List Nat) (m : Nat), c.Pairwise (· < ·) → (∀ x ∈ c, m ≤ x ∧ x < 50) → c.length + m ≤ 50 ∨ c = []
  | [], _, _, _ => .inr rfl
  | x :: c, m, hp, h => by
    have h1 := List.pairwise_cons.1 hp
    have hx := h x (List.mem_cons_self ..)
    left
    rcases asc_len c (x + 1) h1.2 (fun y hy => ⟨h1.1 y hy, (h y (List.mem_cons_of_mem _ hy)).2⟩) with h2 | h2
    · simp only [List.length_cons]; omega
    · subst h2; simp only [List.length_cons, List.length_nil]; omega
theorem chainX_len {rows : List Int} {a b : Nat} (ha : a < rows.length) (hb : b < rows.length) (hn : rows.length ≤ 7) {L : List (List Int)} (h : chainX rows a b = some L) : L.length ≤ 50 ∧ ∀ e ∈ L, e.length = 2 := by
  have hab : arcN rows.length [(a : Int), (b : Int)] := ⟨a, b, rfl, ha, hb⟩
  have hok := forcedA_ok hab
  unfold chainX at h
  generalize forcedA rows a b = FA at *
  have hbd := hok.bound hn
  have hlen := hok.len
  have hpr := placeA_range FA.1 [(b : Int), (a : Int)]
  have hpm := placeA_mem FA.1 [(b : Int), (a : Int)]
  split at h
  · rename_i hm
    injection h with h
    subst h
    have h0 := hpm.2 hm
    obtain ⟨c1, c2⟩ := chainI_lt hok.back FA.2.length (placeA FA.1 [(b : Int), (a : Int)]) (by omega) (by omega) (by omega)
    refine ⟨?_, fun e he => ?_⟩
    · rw [List.length_map]
      rcases asc_len _ 0 c1 (fun x hx => by have := c2 x hx; omega) with h | h
      · omega
      · rw [h]; simp
    · obtain ⟨x, hx, rfl⟩ := List.mem_map.1 he
      have hx2 := c2 x hx
      obtain ⟨v, u, e1, _⟩ := hok.arc (FA.1.getD x []) (by
        have : x < FA.1.length := by omega
        simp [List.getD, this])
      rw [e1]; rfl
  · cases h
theorem force_bound (size : Int) (rows : List Int) : ((forceX size rows).getD []).length ≤ 1000 ∧ (((forceX size rows).getD []).map List.length).sum ≤ 100000 := by
  cases h : forceX size rows with
  | none => simp
  | some L =>
    unfold forceX chainK at h
    obtain ⟨e, he, h⟩ := List.exists_of_findSome?_eq_some h
    obtain ⟨a, b, rfl, hab, hb, hg, _⟩ := edges_mem he
    obtain ⟨n, _, hrl, _, hn7⟩ := isG_size hg
    obtain ⟨h1, h2⟩ := chainX_len (show a < rows.length by omega) hb (by omega) h
    show L.length ≤ 1000 ∧ (L.map List.length).sum ≤ 100000
    rw [sum_pairs L h2]
    omega
end Go.Pw
