import Derived.Test.YtkbjcfabbapnpaaPwSM
import Derived.Test.YtkbjcfabbapnpaaPwPpe
import Derived.Test.YtkbjcfabbapnpaaPwPlain
import Derived.Test.YtkbjcfabbapnpaaLk
import Derived.Test.YtkbjcfabbapnpaaPwBool
import Derived.Test.YtkbjcfabbapnpaaPwTurn
import Derived.Test.YtkbjcfabbapnpaaGs
import Derived.Test.YtkbjcfabbapnpaaEd
import Derived.Test.YtkbjcfabbapnpaaPwPar
/- Rows found among the objects by membership. -/
namespace Go.Pw
open Go Go.RowKit
theorem lss_getD' (ps : Pairs) (k : Nat) : (lssOf ps).getD k [] = lsAt ps k := by
  simp only [lssOf, lsAt, List.getD, List.getElem?_map]
  cases ps[k]? <;> rfl
theorem rd_mem {X : List Nat} {w0 : World} {objs : List Ob} {e : TypeId} {sv : Value} {vs : List Value} (h : Ob.row e sv vs ∈ objs) : Rd (Cl X w0 objs) sv vs := ⟨fun _ hw => arr_of_row (hw.holds _ h)⟩
theorem row_mem {ps : Pairs} {e : TypeId} {k : Nat} (h : k < ps.length) : Ob.row e (svAt ps k) (ints (lsAt ps k)) ∈ rowsOb e ps :=
  List.mem_map.2 ⟨ps[k], List.getElem_mem h, by simp [svAt, lsAt, List.getD, h]⟩
theorem rowsOb_append (e : TypeId) (a b : Pairs) : rowsOb e (a ++ b) = rowsOb e a ++ rowsOb e b := by simp [rowsOb]
theorem rowsOb_drop {e : TypeId} {ps : Pairs} {k : Nat} (h : k < ps.length) : rowsOb e (ps.drop k) = .row e (svAt ps k) (ints (lsAt ps k)) :: rowsOb e (ps.drop (k + 1)) := by
  rw [ps_drop h]; rfl
theorem lsAt_mem {ps : Pairs} {k : Nat} (h : k < ps.length) : lsAt ps k ∈ lssOf ps := List.mem_of_getElem? (lss_get h)
theorem stor_mem {X : List Nat} {w0 w : World} {objs : List Ob} {e : TypeId} {sv : Value} {vs : List Value} (hw : Cl X w0 objs w) (h : Ob.row e sv vs ∈ objs) : storable sv = true := stor_arr (arr_of_row (hw.holds _ h))
/-- Ascending numbers are some of the first ones. -/
theorem asc_range' : ∀ (d m : Nat) (c : List Nat), c.Pairwise (· < ·) → (∀ x ∈ c, m ≤ x ∧ x < m + d) → List.Sublist c (List.range' m d)
  | 0, m, [], _, _ => List.Sublist.slnil
  | 0, m, x :: c, _, h => by have := h x (List.mem_cons_self ..); omega
  | d + 1, m, [], _, _ => List.nil_sublist _
  | d + 1, m, x :: c, hp, h => by
    rw [List.range'_succ]
    have h1 := List.pairwise_cons.1 hp
    have hx := h x (List.mem_cons_self ..)
    by_cases e : x = m
    · subst e
      refine List.Sublist.cons_cons _ (asc_range' d (x + 1) c h1.2 fun y hy => ?_)
      have := h1.1 y hy
      have := h y (List.mem_cons_of_mem _ hy)
      omega
    · refine List.Sublist.cons _ (asc_range' d (m + 1) (x :: c) hp fun y hy => ?_)
      have hy2 := h y hy
      rcases List.mem_cons.1 hy with rfl | hy
      · omega
      · have := h1.1 y hy; omega
def pickP (ps : Pairs) (c : List Nat) : Pairs := c.map fun j => (svAt ps j, lsAt ps j)
theorem pickP_range (ps : Pairs) : pickP ps (List.range ps.length) = ps := by
  apply List.ext_getElem (by simp [pickP])
  intro i h1 h2
  simp [pickP, svAt, lsAt, List.getD, h2]
theorem pickP_sub {ps : Pairs} {c : List Nat} (hc : c.Pairwise (· < ·)) (h : ∀ x ∈ c, x < ps.length) : List.Sublist (pickP ps c) ps := by
  have h1 := asc_range' ps.length 0 c hc fun x hx => ⟨Nat.zero_le _, by have := h x hx; omega⟩
  rw [← List.range_eq_range'] at h1
  have h2 := List.Sublist.map (fun j => (svAt ps j, lsAt ps j)) h1
  have h3 := pickP_range ps
  unfold pickP at h3 ⊢
  rw [h3] at h2
  exact h2
theorem pickP_lss (ps : Pairs) (c : List Nat) : lssOf (pickP ps c) = c.map fun i => (lssOf ps).getD i [] := by
  simp only [pickP, lssOf, List.map_map]
  refine List.map_congr_left fun i _ => ?_
  have := lss_getD' ps i
  simp only [Function.comp_apply]
  exact this.symm
theorem svs_set (ps : Pairs) (i : Nat) (p : Value × List Int) : svsOf (ps.set i p) = (svsOf ps).set i p.1 := by simp [svsOf, List.map_set]
theorem ps_snoc {ps : Pairs} {k : Nat} (h : k < ps.length) : ps.take (k + 1) = ps.take k ++ [(svAt ps k, lsAt ps k)] := by
  rw [List.take_add_one, List.getElem?_eq_getElem h]
  have : (svAt ps k, lsAt ps k) = ps[k] := by simp [svAt, lsAt, List.getD, h]
  rw [this]; rfl
theorem rowsOb_sub {e : TypeId} {a b : Pairs} (h : List.Sublist a b) : List.Sublist (rowsOb e a) (rowsOb e b) := h.map _
theorem stor_svsA {w : World} {sv : Value} {ps : Pairs} (h : ArrS w sv ps) : ∀ u ∈ svsOf ps, storable u = true := fun u hu => by
  obtain ⟨k, hk, rfl⟩ := List.mem_iff_getElem.1 hu
  rw [svsOf_length] at hk
  have := stor_arr (h.each k hk)
  simpa [svsOf, svAt, List.getD, hk] using this
theorem pick_mem {ps : Pairs} {e : TypeId} {c : List Nat} (h : ∀ x ∈ c, x < ps.length) : ∀ o ∈ rowsOb e (pickP ps c), o ∈ rowsOb e ps := fun o ho => by
  obtain ⟨p, hp, rfl⟩ := List.mem_map.1 ho
  obtain ⟨x, hx, rfl⟩ := List.mem_map.1 hp
  exact row_mem (h x hx)
theorem pick_snoc (ps : Pairs) (c : List Nat) (m : Nat) : pickP ps (c ++ [m]) = pickP ps c ++ [(svAt ps m, lsAt ps m)] := by simp [pickP]
theorem pick_rev (ps : Pairs) (c : List Nat) : (pickP ps c).reverse = pickP ps c.reverse := by simp [pickP, List.map_reverse]
section
variable {P : Program} {C : Cls} {ρ : Operand → Value} {d : Option Tmp} {t ty : TypeId} {pos : String} {af : Array Edge} {g : Option (Nat × Bool)} {x : Operand}
theorem opv_load_iota {sv : Value} {n i : Nat} (ht : Scalar P t) (hx : ρ x = .pointer (some (addrOf sv i))) (hr : Rd C sv (ints (iota n))) (hi : i < n) : Opv P C ρ ⟨d, .load t x, ty, pos, af, g⟩ (.int .i64 (i : Int)) := by
  have := opv_load_ints (d := d) (ty := ty) (pos := pos) (af := af) (g := g) ht hx hr (by simpa [iota] using hi)
  rwa [iota_get hi] at this
end
end Go.Pw
/- The plain mathematics of module trees. -/
namespace Go.Pw
open Go

/-- A node's children. -/
def childU (c : List Int) (i : Int) (k : Nat) : List Int := ((List.range k).filter fun v => c.getD v 0 = i).map Int.ofNat
def childL (c : List Int) (i : Int) : List Int := childU c i c.length
theorem childU_succ (c : List Int) (i : Int) (k : Nat) : childU c i (k + 1) = if c.getD k 0 = i then childU c i k ++ [(k : Int)] else childU c i k := by
  unfold childU
  rw [List.range_succ, List.filter_append, List.map_append, List.filter_cons, List.filter_nil]
  by_cases h : c.getD k 0 = i
  · rw [if_pos (decide_eq_true h), if_pos h]; rfl
  · rw [if_neg (by rw [decide_eq_false h]; exact Bool.false_ne_true), if_neg h, List.map_nil, List.append_nil]
theorem childU_length (c : List Int) (i : Int) (k : Nat) : (childU c i k).length ≤ k := by
  unfold childU
  rw [List.length_map]
  exact Nat.le_trans (List.length_filter_le _ _) (by simp)

/-- A tree that can be walked. -/
def fineAt (a b c : List Int) (i : Nat) : Prop := (0 ≤ a.getD i 0 ∧ a.getD i 0 ≤ 127) ∧ (0 ≤ b.getD i 0 ∧ b.getD i 0 ≤ 3) ∧ (0 < i → 0 ≤ c.getD i 0 ∧ c.getD i 0 ≤ (i : Int) - 1)
instance (a b c : List Int) (i : Nat) : Decidable (fineAt a b c i) := by unfold fineAt; infer_instance
def fineT (a b c : List Int) : Prop := (1 ≤ (a.length : Int) ∧ (a.length : Int) ≤ 20) ∧ (b.length : Int) = a.length ∧ (c.length : Int) = a.length ∧ c.getD 0 0 = -1 ∧ ∀ i, i < a.length → fineAt a b c i
instance (a b c : List Int) : Decidable (fineT a b c) := by unfold fineT; infer_instance

/-- How deep a node lies. -/
def depF (c : List Int) : Nat → Nat → Int
  | 0, _ => 0
  | f + 1, i => if 0 < i then depF c f (c.getD i 0).toNat + 1 else 0
def dep (c : List Int) (i : Nat) : Int := depF c i i
/-- Each node but the first lies under an earlier one. -/
def down (c : List Int) (n : Nat) : Prop := ∀ i, i < n → 0 < i → 0 ≤ c.getD i 0 ∧ c.getD i 0 ≤ (i : Int) - 1
theorem depF_fuel {c : List Int} {n : Nat} (hd : down c n) : ∀ (f : Nat) (g : Nat) (i : Nat), i < n → i ≤ f → i ≤ g → depF c f i = depF c g i
  | 0, 0, _, _, _, _ => rfl
  | 0, g + 1, i, _, h1, _ => by obtain rfl : i = 0 := by omega
                                rfl
  | f + 1, 0, i, _, _, h2 => by obtain rfl : i = 0 := by omega
                                rfl
  | f + 1, g + 1, i, hn, h1, h2 => by
    unfold depF
    by_cases h : 0 < i
    · have := hd i hn h
      rw [if_pos h, if_pos h, depF_fuel hd f g _ (by omega) (by omega) (by omega)]
    · rw [if_neg h, if_neg h]
theorem dep_zero (c : List Int) : dep c 0 = 0 := rfl
theorem dep_pos {c : List Int} {n : Nat} (hd : down c n) (i : Nat) (hn : i < n) (h : 0 < i) : dep c i = dep c (c.getD i 0).toNat + 1 := by
  have h0 := hd i hn h
  unfold dep
  obtain ⟨j, rfl⟩ : ∃ j, i = j + 1 := ⟨i - 1, by omega⟩
  rw [depF, if_pos h, depF_fuel hd j (c.getD (j + 1) 0).toNat _ (by omega) (by omega) (by omega)]
theorem dep_bound {c : List Int} {n : Nat} (hd : down c n) (i : Nat) (hn : i < n) : 0 ≤ dep c i ∧ dep c i ≤ i := by
  induction i using Nat.strongRecOn with
  | _ i ih =>
    by_cases h : 0 < i
    · have h0 := hd i hn h
      have := ih (c.getD i 0).toNat (by omega) (by omega)
      rw [dep_pos hd i hn h]; omega
    · obtain rfl : i = 0 := by omega
      rw [dep_zero]; omega
def depM (c : List Int) (k : Nat) : Int := (List.range k).foldl (fun m i => max m (dep c i)) 0
theorem depM_succ (c : List Int) (k : Nat) : depM c (k + 1) = max (depM c k) (dep c k) := by simp [depM, List.range_succ]
def depL (c : List Int) (k : Nat) : List Int := (List.range k).map (dep c)
theorem depL_succ (c : List Int) (k : Nat) : depL c (k + 1) = depL c k ++ [dep c k] := by simp [depL, List.range_succ]
@[simp] theorem depL_length (c : List Int) (k : Nat) : (depL c k).length = k := by simp [depL]
theorem depL_get (c : List Int) (k i : Nat) (h : i < k) : (depL c k).getD i 0 = dep c i := by simp [depL, List.getD, h]
theorem depL_bound {c : List Int} {k : Nat} (hd : down c k) (j : Nat) : 0 ≤ (depL c k).getD j 0 ∧ (depL c k).getD j 0 ≤ k := by
  by_cases h : j < k
  · have := dep_bound hd j h; rw [depL_get c k j h]; omega
  · simp [List.getD, depL, h]
def depthT (a b c : List Int) : Int := if fineT a b c then depM c c.length else -1
end Go.Pw
/- Module trees: equality, children, depth. -/
namespace Go.Proofs.Ytkbjcfabbapnpaa
open Go Go.RowKit Go.Pw

theorem en_x_slices_Equal_int_int : Entry Try.prog 64 := ⟨_, Try.func64, by kernel_rfl, rfl⟩
theorem x_Equal_c (sa sb : Value) (a b : List Int) (w : World) (ha : Arr w sa (ints a)) (hb : Arr w sb (ints b)) :
    Pure Try.prog 64 #[sa, sb] w (.bool (decide (a = b))) := by
  refine pure_enter (args := [_, _]) en_x_slices_Equal_int_int Try.func64 rfl Try.ntmps64 rfl ?_
  have h1 := ha.len
  have h2 := hb.len
  repeat' (first | apply pwp_seq | apply pwp_region | (apply px_run; (first | (apply opv_move; first | exact hid_int rfl | rfl) | (apply opv_assign; first | exact hid_bool rfl) | (apply opv_neq <;> rfl) | (apply opv_len_ints el_int; rfl; (first | exact rd_old (by assumption)))); rfl; rfl) | apply px_nil | apply qseq_normal | apply qseq_ret | apply pwp_block | apply pwp_skip | apply pwp_ret | (apply pwp_cond_ndec; rfl; all_goals (intro hc; try (first | fail))))
  · refine qbody_ret1 (v := .bool _) rfl rfl ⟨ret_false rfl fun h => hc (by rw [h]), fun _ h => h.below⟩
  have hl : a.length = b.length := by omega
  refine pwp_loop [(4,5), (13,25)] (fun k : Nat => [(13, .int .i64 (k : Int))]) (fun k => Cl [] w []) (fun k => k ≤ a.length ∧ ∀ i, i < k → a.getD i 0 = b.getD i 0) (fun k => a.length - k) 0
    ⟨rfl, trivial⟩ ⟨Nat.zero_le _, fun i hi => by omega⟩ (fun _ h => h) (fun J k hk => ?_)
  obtain ⟨hk, he⟩ := hk
  by_cases hlt : k < a.length
  · repeat' (first | apply pwp_seq | apply pwp_region | (apply px_run; (first | (apply opv_move; first | exact hid_int rfl | rfl) | (apply opv_assign; first | exact hid_int rfl | exact hid_bool rfl) | (apply opv_lss <;> rfl) | (apply opv_neq <;> rfl) | (apply opv_add_in; rfl; rfl; omega) | (apply opv_load_ints sc_int; rfl; (first | exact rd_old (by assumption)); (first | omega)) | (apply opv_index_nat (vs := ints _) el_int; rfl; rfl; (first | exact rd_old (by assumption)); (first | (simp only [ints_length]; omega)))); rfl; rfl) | apply px_nil | apply qseq_normal | apply qseq_ret | apply pwp_block | apply qblock_normal | apply qblock_ret | apply pwp_skip | apply pwp_ret | apply qround_ret | (apply pwp_region_mix; kernel_rfl; decide +kernel; exact Cl.stable _ _ _) | (apply pwp_cond_ndec; rfl; all_goals (intro hc; try (first | fail))) | (apply pwp_cond_dec; rfl; all_goals (intro hc; try (first | (exfalso; omega)))))
    · refine qbody_ret1 (v := .bool _) rfl rfl ⟨ret_false rfl fun h => hc (by rw [h]), fun _ h => h.below⟩
    · refine qround_normal ?_ ⟨k + 1, ⟨rfl, trivial⟩, ⟨by omega, fun i hi => ?_⟩, by omega, fun _ h => h⟩
      · repeat (first | exact same_refl | refine same_upd rfl ?_ | refine same_junk rfl ?_)
      · by_cases hik : i < k
        · exact he i hik
        · obtain rfl : i = k := by omega
          exact hc
  · repeat' (first | apply pwp_seq | apply pwp_region | (apply px_run; (first | (apply opv_assign; first | exact hid_bool rfl) | (apply opv_lss <;> rfl)); rfl; rfl) | apply px_nil | apply qseq_normal | apply qseq_exit | (apply qblock_exit_same; rfl) | apply pwp_exit | apply pwp_ret | apply qround_exit | (apply pwp_cond_dec; rfl; all_goals (intro hc; try (first | (exfalso; omega)))))
    refine qbody_ret1 (v := .bool _) rfl rfl ⟨ret_true rfl (eq_of_getD hl fun i hi => he i (by omega)), fun _ h => h.below⟩
end Go.Proofs.Ytkbjcfabbapnpaa
/- Arcs that force one another: the program's and the reference's. -/
namespace Go.Proofs.Ytkbjcfabbapnpaa
open Go Go.RowKit Go.Pw
theorem en_i_indexOf_1 : Entry Try.prog 63 := ⟨_, Try.func63, by kernel_rfl, rfl⟩
theorem i_indexOf_1_c (lv mv : Value) (l m : List Int) (b : Nat) (w : World) (hl : Arr w lv (ints l)) (hm : Arr w mv (ints m)) (hb : Bk w b [mv]) :
    Pure Try.prog 63 #[lv, .pointer (some ⟨b, 0, none⟩)] w (.bool (decide (l = m))) := by
  refine pure_enter (args := [_, _]) en_i_indexOf_1 Try.func63 rfl Try.ntmps63 rfl ?_
  repeat' (first | apply pwp_seq | apply pwp_region | (apply px_run; (first | (apply opv_move; first | rfl) | (apply opv_assign; first | exact hid_bool rfl) | (apply opv_load_old; (first | with_reducible exact sc_ints); rfl; assumption; rfl) | (apply opv_call; rfl; rfl; exact Cl.stable _ _ _; exact fun w hw => x_Equal_c _ _ l m _ (by first | exact hw.arr (by assumption)) (by first | exact hw.arr (by assumption)))); rfl; rfl) | apply px_nil | apply qseq_normal | apply pwp_ret)
  refine qbody_ret1 (v := .bool _) rfl rfl ⟨rfl, fun _ h => h.below⟩
theorem en_x_slices_IndexFunc_int_int : Entry Try.prog 62 := ⟨_, Try.func62, by kernel_rfl, rfl⟩
theorem x_IndexFuncA_c (sv : Value) (ps : Pairs) (f : FuncId) (cs : List Value) (arc : List Int) (w : World) (hv : ArrS w sv ps) (hl : ps.length ≤ 1000000)
    (hp : ∀ k, k < ps.length → ∀ w', Below w.heap.size w w' → Pure Try.prog f ([svAt ps k] ++ cs).toArray w' (.bool (decide (lsAt ps k = arc)))) :
    Pure Try.prog 62 #[sv, .func (.func f) #[] cs.toArray] w (.int .i64 (placeA (lssOf ps) arc)) := by
  refine pure_enter (args := [_, _]) en_x_slices_IndexFunc_int_int Try.func62 rfl Try.ntmps62 rfl ?_
  obtain ⟨hA, hE⟩ := hv
  repeat' (first | apply pwp_seq | apply pwp_region | (apply px_run; (first | (apply opv_move; first | exact hid_int rfl | rfl) | (apply opv_assign; first | exact hid_int rfl) | (apply opv_len_svs el_intss; rfl; (first | exact rd_old (by assumption)))); rfl; rfl) | apply px_nil | apply qseq_normal | apply pwp_block)
  refine pwp_loop (τ := Nat) [(4,5), (8,18)] (fun k => [(8, .int .i64 (k : Int))]) (fun k => Cl [] w []) (fun k => k ≤ ps.length ∧ ∀ i, i < k → lsAt ps i ≠ arc) (fun k => ps.length - k) 0
    ⟨rfl, trivial⟩ ⟨Nat.zero_le _, fun i hi => by omega⟩ (fun _ h => h) (fun J k hk => ?_)
  obtain ⟨hk, he⟩ := hk
  by_cases hlt : k < ps.length
  · repeat' (first | apply pwp_seq | apply pwp_region | (apply px_run; (first | (apply opv_move; first | exact hid_int rfl | rfl) | (apply opv_assign; first | exact hid_int rfl) | (apply opv_lss <;> rfl) | (apply opv_add_in; rfl; rfl; omega) | (apply opv_load_svs sc_ints; rfl; (first | exact rd_old (by assumption)); omega) | (apply opv_index_nat (vs := svsOf _) el_intss; rfl; rfl; (first | exact rd_old (by assumption)); (simp only [svsOf_length]; omega)) | (apply opv_callx; rfl; rfl; exact Cl.stable _ _ _; exact fun w hw => hp k hlt _ hw.below)); rfl; rfl) | apply px_nil | apply qseq_normal | apply qseq_ret | apply pwp_block | apply qblock_normal | apply qblock_ret | apply pwp_skip | apply pwp_ret | apply qround_ret | (apply pwp_cond_dec; rfl; all_goals (intro hc; try (first | (exfalso; omega)))))
    · refine qbody_ret1 (v := .int _ _) rfl rfl ⟨by rw [placeA_some (lssOf ps) arc k (by simpa using hlt) (by rw [lss_getD]; exact hc) fun i hi => by rw [lss_getD]; exact he i hi], fun _ h => h.below⟩
    · refine qround_normal ?_ ⟨k + 1, ⟨rfl, trivial⟩, ⟨by omega, fun i hi => ?_⟩, by omega, fun _ h => h⟩
      · repeat (first | exact same_refl | refine same_upd rfl ?_ | refine same_junk rfl ?_)
      · by_cases hik : i < k
        · exact he i hik
        · obtain rfl : i = k := by omega
          exact hc
  · repeat' (first | apply pwp_seq | apply pwp_region | (apply px_run; (first | (apply opv_assign; first | exact hid_int rfl) | (apply opv_lss <;> rfl)); rfl; rfl) | apply px_nil | apply qseq_normal | apply qseq_exit | (apply qblock_exit_same; rfl) | apply pwp_exit | apply pwp_ret | apply qround_exit | (apply pwp_cond_dec; rfl; all_goals (intro hc; try (first | (exfalso; omega)))))
    refine qbody_ret1 (v := .int _ _) rfl rfl ⟨by rw [placeA_none (lssOf ps) arc fun i hi => by rw [lss_getD]; exact he i (by rw [lssOf_length] at hi; omega)], fun _ h => h.below⟩
theorem en_i_indexOf : Entry Try.prog 36 := ⟨_, Try.func36, by kernel_rfl, rfl⟩
theorem i_indexOf_c (sv mv : Value) (ps : Pairs) (arc : List Int) (w : World) (hv : ArrS w sv ps) (hl : ps.length ≤ 1000000) (hm : Arr w mv (ints arc)) :
    Pure Try.prog 36 #[sv, mv] w (.int .i64 (placeA (lssOf ps) arc)) := by
  refine pure_enter (args := [_, _]) en_i_indexOf Try.func36 rfl Try.ntmps36 rfl ?_
  repeat' (first | apply pwp_seq | apply pwp_region | (apply px_run; (first | (apply opv_move; first | rfl) | (apply opv_assign; first | exact hid_int rfl) | (apply opv_make_func; rfl) | (apply opv_call; rfl; rfl; exact Cl.stable _ _ _; exact fun w hw => x_IndexFuncA_c _ ps 63 _ arc _ (hv.below hw.below) hl (fun k hk w' hb => i_indexOf_1_c _ mv _ arc _ w' ((hv.each k hk).below (below_comp hw.below hb)) (hm.below (below_comp hw.below hb)) ((hw.bk (k := 0) rfl).below hb)))); rfl; rfl) | apply px_nil | apply qseq_normal | apply pwp_ret | (apply px_box1; rfl; (intro w hw; (first | exact stor_arr (by assumption))); rfl; rfl; rfl; intro bk))
  refine qbody_ret1 (v := .int _ _) rfl rfl ⟨rfl, fun _ h => h.below⟩
theorem en_s_l13Find : Entry Try.prog 41 := ⟨_, Try.func41, by kernel_rfl, rfl⟩
theorem pair_eq {l : List Int} {a b : Int} (h : l.length = 2) : l = [a, b] ↔ l.getD 0 0 = a ∧ l.getD 1 0 = b := by
  match l, h with
  | [x, y], _ => simp [List.getD]
theorem s_l13Find_c (sv : Value) (ps : Pairs) (a b : Int) (w : World) (hv : ArrS w sv ps) (hl : ps.length ≤ 1000000) (h2 : ∀ k, k < ps.length → (lsAt ps k).length = 2) :
    Pure Try.prog 41 #[sv, .int .i64 a, .int .i64 b] w (.int .i64 (placeA (lssOf ps) [a, b])) := by
  refine pure_enter (args := [_, _, _]) en_s_l13Find Try.func41 rfl Try.ntmps41 rfl ?_
  obtain ⟨hA, hE⟩ := hv
  repeat' (first | apply pwp_seq | apply pwp_region | (apply px_run; (first | (apply opv_assign; first | exact hid_int rfl)); rfl; rfl) | apply px_nil | apply qseq_normal | apply pwp_block)
  refine pwp_loop (τ := Nat) [(6,32)] (fun k => [(7, .int .i64 (k : Int))]) (fun k => Cl [] w []) (fun k => k ≤ ps.length ∧ ∀ i, i < k → lsAt ps i ≠ [a, b]) (fun k => ps.length - k) 0
    ⟨rfl, trivial⟩ ⟨Nat.zero_le _, fun i hi => by omega⟩ (fun _ h => h) (fun J k hk => ?_)
  obtain ⟨hk, he⟩ := hk
  by_cases hlt : k < ps.length
  · have hrow := hE k hlt
    have hlen := h2 k hlt
    have hpe := pair_eq (a := a) (b := b) hlen
    repeat' (first | apply pwp_seq | apply pwp_region | (apply px_run; (first | (apply opv_move; first | exact hid_int rfl | exact hid_bool rfl | rfl) | (apply opv_assign; first | exact hid_int rfl) | (apply opv_lss <;> rfl) | (apply opv_eql <;> rfl) | (apply opv_pick_t <;> rfl) | (apply opv_pick_f <;> rfl) | (apply opv_add_in; rfl; rfl; omega) | (apply opv_load_ints sc_int; rfl; (first | exact rd_old (by assumption)); (first | omega)) | (apply opv_index_nat (k := 0) (vs := ints _) el_int; rfl; rfl; (first | exact rd_old (by assumption)); (first | (simp only [ints_length]; first | omega))) | (apply opv_index_nat (k := 1) (vs := ints _) el_int; rfl; rfl; (first | exact rd_old (by assumption)); (first | (simp only [ints_length]; first | omega))) | (apply opv_load_svs sc_ints; rfl; (first | exact rd_old (by assumption)); omega) | (apply opv_index_nat (vs := svsOf _) el_intss; rfl; rfl; (first | exact rd_old (by assumption)); (simp only [svsOf_length]; omega)) | (apply opv_len_svs el_intss; rfl; (first | exact rd_old (by assumption)))); rfl; rfl) | apply px_nil | (apply px_skip; rfl; rfl) | apply qseq_normal | apply qseq_ret | apply pwp_block | apply qblock_normal | apply qblock_ret | apply pwp_skip | apply pwp_ret | apply qround_ret | (apply pwp_cond_f; rfl) | (apply px_guard_dec; rfl; rfl; rfl; all_goals (intro hc; try (first | fail))) | (apply pwp_cond_dec; rfl; all_goals (intro hc; try (first | (exfalso; omega)))))
    all_goals first
      | (have hit : lsAt ps k = [a, b] := hpe.2 ⟨by assumption, by assumption⟩
         refine qbody_ret1 (v := .int _ _) rfl rfl ⟨by rw [placeA_some (lssOf ps) [a, b] k (by simpa using hlt) (by rw [lss_getD]; exact hit) fun i hi => by rw [lss_getD]; exact he i hi], fun _ h => h.below⟩)
      | (have hmiss : lsAt ps k ≠ [a, b] := fun e => by have := hpe.1 e; first | exact absurd this.1 (by assumption) | exact absurd this.2 (by assumption)
         refine qround_normal ?_ ⟨k + 1, ⟨rfl, trivial⟩, ⟨by omega, fun i hi => ?_⟩, by omega, fun _ h => h⟩
         · repeat (first | exact same_refl | refine same_upd rfl ?_ | refine same_junk rfl ?_)
         · by_cases hik : i < k
           · exact he i hik
           · obtain rfl : i = k := by omega
             exact hmiss)
  · repeat' (first | apply pwp_seq | apply pwp_region | (apply px_run; (first | (apply opv_move; first | exact hid_int rfl | rfl) | (apply opv_assign; first | exact hid_int rfl) | (apply opv_lss <;> rfl) | (apply opv_len_svs el_intss; rfl; (first | exact rd_old (by assumption)))); rfl; rfl) | apply px_nil | apply qseq_normal | apply qseq_exit | (apply qblock_exit_same; rfl) | apply pwp_exit | apply pwp_ret | apply qround_exit | (apply pwp_cond_dec; rfl; all_goals (intro hc; try (first | (exfalso; omega)))))
    refine qbody_ret1 (v := .int _ _) rfl rfl ⟨by rw [placeA_none (lssOf ps) [a, b] fun i hi => by rw [lss_getD]; exact he i (by rw [lssOf_length] at hi; omega)], fun _ h => h.below⟩
theorem en_s_l13Next : Entry Try.prog 56 := ⟨_, Try.func56, by kernel_rfl, rfl⟩
set_option maxHeartbeats 3200000 in
theorem s_l13Next_c (size : Int) (gv : Value) (rows : List Int) (a b : Nat) (w : World) (hr : Arr w gv (ints rows)) (hg : IsG size rows) (ha : a < rows.length) (hb : b < rows.length) :
    Gives Try.prog 56 #[.agg #[.int .i64 size, gv], .int .i64 (a : Int), .int .i64 (b : Int)] w (fun v objs => ∃ ps, lssOf ps = nextA rows a b ∧ objs = .row 24 v (svsOf ps) :: rowsOb 3 ps) := by
  refine gives_enter (args := [_, _, _]) en_s_l13Next Try.func56 rfl Try.ntmps56 rfl ?_
  obtain ⟨n, hn, hrl, hn1, hn7⟩ := isG_size hg
  repeat' (first | apply pwp_seq | apply pwp_region | (apply px_run; (first | (apply opv_assign; first | exact hid_int rfl | rfl)); rfl; rfl) | apply px_nil | apply qseq_normal | apply pwp_block | (apply px_box; rfl; rfl; rfl; rfl; intro bk) | (apply px_lit0s ez_intss; rfl; rfl; rfl; intro sv))
  refine pwp_loop (τ := Nat × Value × Pairs) [(7,9), (11,66)] (fun x => [(8, .int .i64 (x.1 : Int)), (7, x.2.1)]) (fun x => Cl [] w (.row 24 x.2.1 (svsOf x.2.2) :: .blk bk [.int .i64 size, gv] :: rowsOb 3 x.2.2)) (fun x => x.1 ≤ n ∧ lssOf x.2.2 = nextU rows n a b x.1) (fun x => n - x.1) (0, sv, [])
    ⟨rfl, rfl, trivial⟩ ⟨Nat.zero_le _, rfl⟩ (fun _ h => h) (fun J x hx => ?_)
  obtain ⟨v, so, ps⟩ := x
  dsimp only at hx ⊢
  obtain ⟨hv, he⟩ := hx
  by_cases hlt : v < n
  · repeat' (first | apply pwp_seq | apply pwp_region | (apply px_run; (first | (apply opv_move; first | exact hid_int rfl) | (apply opv_assign; first | exact hid_int rfl) | (apply opv_lss <;> rfl) | (apply opv_field fld_G0; rfl) | (apply opv_load_blk 1; (first | with_reducible exact sc_int); rfl; rfl; rfl)); rfl; rfl) | apply px_nil | apply qseq_normal | apply pwp_block | apply pwp_skip | (apply pwp_cond_dec; rfl; all_goals (intro hc; try (first | (exfalso; omega)))))
    refine pwp_loop (τ := Nat × Value × Pairs) [(7,7), (9,9), (17,66)] (fun x => [(9, .int .i64 (x.1 : Int)), (7, x.2.1)]) (fun x => Cl [] w (.row 24 x.2.1 (svsOf x.2.2) :: .blk bk [.int .i64 size, gv] :: rowsOb 3 x.2.2)) (fun x => x.1 ≤ n ∧ lssOf x.2.2 = nextU rows n a b v ++ nextRow rows a b v x.1) (fun x => n - x.1) (0, so, ps)
      ⟨rfl, rfl, trivial⟩ ⟨Nat.zero_le _, by dsimp only; rw [he]; simp [nextRow]⟩ (fun _ h => h) (fun J2 x hx => ?_)
    obtain ⟨u, so2, qs⟩ := x
    dsimp only at hx ⊢
    obtain ⟨hu2, he2⟩ := hx
    by_cases hlu : u < n
    · have hel : qs.length ≤ 98 := by
        have h1 := nextU_length rows n a b v
        have h2 := nextRow_length rows a b v u
        have h3 : v * n ≤ 7 * 7 := Nat.mul_le_mul (by omega) hn7
        have h4 := congrArg List.length he2
        rw [lssOf_length, List.length_append] at h4
        omega
      have hes := nextRow_succ rows a b v u
      have hB : nextB rows a b v u = (hasB (rows.getD v 0) (u : Nat) && (decide ((v : Int) = a) && !decide ((u : Int) = b) && !hasB (rows.getD u 0) b || decide ((u : Int) = b) && !decide ((v : Int) = a) && !hasB (rows.getD v 0) a)) := rfl
      repeat' (first | apply pwp_seq | apply pwp_region | (apply px_run; (first | (apply opv_move; first | exact hid_int rfl | exact hid_bool rfl | rfl) | (apply opv_assign; first | exact hid_int rfl | rfl) | (apply opv_lss <;> rfl) | (apply opv_eql <;> rfl) | (apply opv_neq <;> rfl) | (apply opv_pick_t <;> rfl) | (apply opv_pick_f <;> rfl) | (apply opv_not <;> rfl) | (apply opv_add_in; rfl; rfl; omega) | (apply opv_field fld_G0; rfl) | (apply opv_load_blk 1; (first | with_reducible exact sc_int); rfl; rfl; rfl) | (apply opv_load_str 1 st_G; rfl; rfl; rfl) | (apply opv_call; rfl; rfl; exact Cl.stable _ _ _; exact fun w hw => s_l2Edge_c _ _ rows _ _ _ (by first | exact hw.arr (by assumption)) (by omega) (by omega))); rfl; rfl) | apply px_nil | (apply px_skip; rfl; rfl) | apply qseq_normal | apply pwp_block | apply qblock_normal | apply pwp_skip | (apply pwp_cond_t; rfl) | (apply pwp_cond_f; rfl) | (apply px_guard_ndec; rfl; rfl; rfl; all_goals (intro hc; try (first | contradiction))) | (apply px_guard_dec; rfl; rfl; rfl; all_goals (intro hc; try (first | contradiction))) | (apply px_guard_not; rfl; rfl; rfl; all_goals (intro hc; try (first | fail))) | (apply px_guard; rfl; rfl; rfl; all_goals (intro hc; (first | (fail_if_success (cases hc); try (first | fail))))) | (apply pwp_cond_dec; rfl; all_goals (intro hc; try (first | (exfalso; omega)))) | (apply pwp_cond_not; rfl; all_goals (intro hc; try (first | fail))) | (apply px_lit2 ez_int; rfl; (intro w hw; (first | rfl)); rfl; (intro w hw; (first | rfl)); rfl; rfl; rfl; intro sv) | (apply px_lit1 ez_intss; rfl; (intro w hw; (first | exact stor_row 0 hw rfl)); rfl; rfl; rfl; intro sv) | (apply px_append 2 ez_intss; rfl; rfl; rfl; (first | exact rd_row 0 rfl); (intro w hw u hu; simp only [List.mem_singleton] at hu; subst hu; (first | exact stor_row 1 hw rfl)); (simp; omega); decide; rfl; rfl; intro sv))
      all_goals first
        | (rename_i e s1
           refine qround_normal ?_ ⟨(u + 1, sv, qs ++ [(e, [(v : Int), (u : Int)])]), ⟨rfl, rfl, trivial⟩, ⟨by dsimp only; omega, ?_⟩, by dsimp only; omega, fun w' h => ?_⟩
           · repeat (first | exact same_refl | refine same_upd rfl ?_ | refine same_junk rfl ?_)
           · dsimp only
             rw [hes, if_pos (by (simp only [Int.toNat_natCast] at *); first | exact nextB_iff.2 ⟨by assumption, .inl ⟨by assumption, by assumption, by assumption⟩⟩ | exact nextB_iff.2 ⟨by assumption, .inr ⟨by assumption, by assumption, by assumption⟩⟩), lssOf_snoc, he2, List.append_assoc]
           · dsimp only
             have := (h.sub (List.sublist_cons_self _ _)).perm (List.perm_append_singleton _ _).symm
             rw [rowsOb_snoc, svsOf_snoc]
             exact this)
        | (refine qround_normal ?_ ⟨(u + 1, so2, qs), ⟨rfl, rfl, trivial⟩, ⟨by dsimp only; omega, ?_⟩, by dsimp only; omega, fun _ h => h⟩
           · repeat (first | exact same_refl | refine same_upd rfl ?_ | refine same_junk rfl ?_)
           · dsimp only
             rw [hes, if_neg (fun h => by (obtain ⟨h1, h2⟩ := nextB_iff.1 h); (simp only [Int.toNat_natCast] at *); rcases h2 with ⟨h3, h4, h5⟩ | ⟨h3, h4, h5⟩ <;> first | omega | simp_all), he2])
    · obtain rfl : u = n := by omega
      repeat' (first | apply pwp_seq | apply pwp_region | (apply px_run; (first | (apply opv_move; first | exact hid_int rfl) | (apply opv_assign; first | exact hid_int rfl) | (apply opv_lss <;> rfl) | (apply opv_add_in; rfl; rfl; omega) | (apply opv_field fld_G0; rfl) | (apply opv_load_blk 1; (first | with_reducible exact sc_int); rfl; rfl; rfl)); rfl; rfl) | apply px_nil | apply qseq_normal | apply qseq_exit | apply qblock_normal | (apply qblock_exit_same; rfl) | apply pwp_exit | apply qround_exit | (apply pwp_cond_dec; rfl; all_goals (intro hc; try (first | (exfalso; omega)))))
      refine qround_normal ?_ ⟨(v + 1, so2, qs), ⟨rfl, rfl, trivial⟩, ⟨by dsimp only; omega, ?_⟩, by dsimp only; omega, fun _ h => h⟩
      · repeat (first | exact same_refl | refine same_upd rfl ?_ | refine same_junk rfl ?_)
      · dsimp only
        rw [nextU_succ, he2]
  · obtain rfl : v = n := by omega
    repeat' (first | apply pwp_seq | apply pwp_region | (apply px_run; (first | (apply opv_move; first | exact hid_int rfl | rfl) | (apply opv_assign; first | rfl) | (apply opv_lss <;> rfl) | (apply opv_field fld_G0; rfl) | (apply opv_load_blk 1; (first | with_reducible exact sc_int); rfl; rfl; rfl)); rfl; rfl) | apply px_nil | apply qseq_normal | apply qseq_exit | (apply qblock_exit_same; rfl) | apply pwp_exit | apply pwp_ret | apply qround_exit | (apply pwp_cond_dec; rfl; all_goals (intro hc; try (first | (exfalso; omega)))))
    refine qbody_ret1 (v := so) rfl rfl ⟨_, ⟨ps, by unfold nextA; rw [hrl]; exact he, rfl⟩, fun w' h => ?_⟩
    exact Cl.sub (by assumption) (by repeat (first | exact List.Sublist.slnil | exact List.Sublist.refl _ | apply List.Sublist.cons_cons | exact List.sublist_append_left _ _ | exact List.sublist_append_right _ _ | apply List.Sublist.cons))
theorem en_i_forces : Entry Try.prog 49 := ⟨_, Try.func49, by kernel_rfl, rfl⟩
theorem listS_all {size : Int} {rows : List Int} (hg : IsG size rows) : listS (ishl 1 size - 1) = (List.range rows.length).map Int.ofNat := by
  obtain ⟨n, rfl, hl, h1, h7⟩ := isG_size hg
  rw [hl]
  have : n = 1 ∨ n = 2 ∨ n = 3 ∨ n = 4 ∨ n = 5 ∨ n = 6 ∨ n = 7 := by omega
  rcases this with rfl | rfl | rfl | rfl | rfl | rfl | rfl <;> decide +kernel
theorem range_get {n i : Nat} (h : i < n) : ((List.range n).map Int.ofNat).getD i 0 = i := by simp [List.getD, h]
set_option maxRecDepth 100000 in
set_option maxHeartbeats 3200000 in
theorem i_forces_c (size : Int) (gv : Value) (rows : List Int) (a b : Nat) (w : World) (hr : Arr w gv (ints rows)) (hg : IsG size rows) (ha : a < rows.length) (hb : b < rows.length) :
    Gives Try.prog 49 #[.agg #[.int .i64 size, gv], .int .i64 (a : Int), .int .i64 (b : Int)] w (fun v objs => ∃ ps, lssOf ps = nextA rows a b ∧ objs = .row 24 v (svsOf ps) :: rowsOb 3 ps) := by
  refine gives_enter (args := [_, _, _]) en_i_forces Try.func49 rfl Try.ntmps49 rfl ?_
  obtain ⟨n, hn, hrl, hn1, hn7⟩ := isG_size hg
  obtain ⟨_, hs2, hs3⟩ := shl1 (n := size) ⟨by omega, by omega⟩
  have hlist : ∀ w', Gives Try.prog 46 #[.int .i64 (ishl 1 size - 1)] w' (fun v objs => objs = [.row 3 v (ints (iota n))]) := fun w' => by
    have := i_ListOf_c (ishl 1 size - 1) w'
    rw [listS_all hg, hrl] at this
    exact this
  have hil : (iota n).length = n := by simp [iota]
  repeat' (first | apply pwp_seq | apply pwp_region | (apply px_run; (first | (apply opv_move; first | exact hid_int rfl) | (apply opv_assign; first | rfl) | (apply opv_len_ints el_int; rfl; (first | exact rd_row 0 rfl)) | (apply opv_load_str 1 st_G; rfl; rfl; rfl) | (apply opv_call; rfl; rfl; exact Cl.stable _ _ _; exact fun w hw => i_all_c _ _ _ ⟨by omega, by omega⟩)); rfl; rfl) | apply px_nil | apply qseq_normal | apply pwp_block | (apply px_box; rfl; rfl; rfl; rfl; intro bk) | (apply px_lit0s ez_intss; rfl; rfl; rfl; intro sv) | (apply px_gives; rfl; rfl; rfl; rfl; rfl; exact fun w hw => hlist _; rintro sl _ rfl))
  refine pwp_loop (τ := Nat × Value × Pairs) [(7,7), (9,9), (11,11), (17,70)] (fun x => [(17, .int .i64 (x.1 : Int)), (7, x.2.1)]) (fun x => Cl [] w (.row 24 x.2.1 (svsOf x.2.2) :: .row 3 sl (ints (iota n)) :: .blk bk [.int .i64 size, gv] :: rowsOb 3 x.2.2)) (fun x => x.1 ≤ n ∧ lssOf x.2.2 = nextU rows n a b x.1) (fun x => n - x.1) (0, sv, [])
    ⟨rfl, rfl, trivial⟩ ⟨Nat.zero_le _, rfl⟩ (fun w' h => h.perm (List.Perm.swap _ _ _)) (fun J x hx => ?_)
  obtain ⟨v, so, ps⟩ := x
  dsimp only at hx ⊢
  obtain ⟨hv, he⟩ := hx
  have hpl : ps.length ≤ 49 := by
    have h1 := nextU_length rows n a b v
    have h3 : v * n ≤ 7 * 7 := Nat.mul_le_mul (by omega) hn7
    have h4 := congrArg List.length he
    rw [lssOf_length] at h4
    omega
  by_cases hlt : v < n
  · by_cases hva : v = a
    · have hout := next_out hg ha hb
      have hL2 := listS_length (iandnot (iandnot (rows.getD a 0) (rows.getD b 0)) (ishl 1 (b : Int)))
      have hva2 : (v : Int) = (a : Int) := by omega
      repeat' (first | apply pwp_seq | apply pwp_region | (apply px_run; (first | (apply opv_load_iota sc_int; rfl; exact rd_row 1 rfl; omega) | (apply opv_move; first | exact hid_int rfl) | (apply opv_assign; first | exact hid_int rfl) | (apply opv_lss <;> rfl) | (apply opv_eql <;> rfl) | (apply opv_andNot <;> rfl) | (apply opv_shl; rfl; rfl; omega) | (apply opv_field fld_G1; rfl) | (apply opv_load_blk 2; (first | with_reducible exact sc_int | with_reducible exact sc_ints); rfl; rfl; rfl) | (apply opv_load_ints sc_int; rfl; (first | exact rd_old (by assumption)); (first | omega)) | (apply opv_index_nat (vs := ints _) el_int; rfl; rfl; (first | exact rd_old (by assumption) | exact rd_row 1 rfl); (first | (simp only [ints_length]; omega))) | (apply opv_len_ints el_int; rfl; (first | exact rd_row 0 rfl))); rfl; rfl) | apply px_nil | apply qseq_normal | apply pwp_block | apply pwp_skip | (apply pwp_region_mix; kernel_rfl; decide +kernel; exact Cl.stable _ _ _) | (apply pwp_cond_dec; rfl; all_goals (intro hc; try (first | contradiction | (exfalso; omega)))) | (apply px_gives; rfl; rfl; rfl; rfl; rfl; exact fun w hw => i_ListOf_c _ _; rintro s2 _ rfl))
      refine pwp_loop (τ := Nat × Value × Pairs) [(7,7), (11,11), (40,50)] (fun x => [(40, .int .i64 (x.1 : Int)), (7, x.2.1)]) (fun x => Cl [] w (.row 3 s2 (ints (listS (iandnot (iandnot (rows.getD a 0) (rows.getD b 0)) (ishl 1 (b : Int))))) :: .row 24 x.2.1 (svsOf x.2.2) :: .row 3 sl (ints (iota n)) :: .blk bk [.int .i64 size, gv] :: rowsOb 3 x.2.2)) (fun x => x.1 ≤ (listS (iandnot (iandnot (rows.getD a 0) (rows.getD b 0)) (ishl 1 (b : Int)))).length ∧ lssOf x.2.2 = nextU rows n a b v ++ ((listS (iandnot (iandnot (rows.getD a 0) (rows.getD b 0)) (ishl 1 (b : Int)))).take x.1).map fun c => [(a : Int), c]) (fun x => (listS (iandnot (iandnot (rows.getD a 0) (rows.getD b 0)) (ishl 1 (b : Int)))).length - x.1) (0, so, ps)
        ⟨rfl, rfl, trivial⟩ ⟨Nat.zero_le _, by dsimp only; rw [he]; simp⟩ (fun _ h => h) (fun J2 x hx => ?_)
      generalize listS (iandnot (iandnot (rows.getD a 0) (rows.getD b 0)) (ishl 1 (b : Int))) = L2 at *
      obtain ⟨k, so2, qs⟩ := x
      dsimp only at hx ⊢
      obtain ⟨hk, he2⟩ := hx
      by_cases hkl : k < L2.length
      · have hel : qs.length ≤ 56 := by
          have h4 := congrArg List.length he2
          rw [lssOf_length, List.length_append, List.length_map, List.length_take] at h4
          have h5 := congrArg List.length he
          rw [lssOf_length] at h5
          omega
        repeat' (first | apply pwp_seq | apply pwp_region | (apply px_run; (first | (apply opv_move; first | exact hid_int rfl | rfl) | (apply opv_assign; first | exact hid_int rfl | rfl) | (apply opv_lss <;> rfl) | (apply opv_add_in; rfl; rfl; omega) | (apply opv_load_ints sc_int; rfl; (first | exact rd_row 0 rfl); (first | omega)) | (apply opv_index_nat (vs := ints _) el_int; rfl; rfl; (first | exact rd_row 0 rfl); (first | (simp only [ints_length]; omega)))); rfl; rfl) | apply px_nil | apply qseq_normal | apply pwp_block | apply qblock_normal | apply pwp_skip | (apply pwp_cond_dec; rfl; all_goals (intro hc; try (first | (exfalso; omega)))) | (apply px_lit2 ez_int; rfl; (intro w hw; (first | rfl)); rfl; (intro w hw; (first | rfl)); rfl; rfl; rfl; intro sv) | (apply px_lit1 ez_intss; rfl; (intro w hw; (first | exact stor_row 0 hw rfl)); rfl; rfl; rfl; intro sv) | (apply px_append 3 ez_intss; rfl; rfl; rfl; (first | exact rd_row 0 rfl); (intro w hw u hu; simp only [List.mem_singleton] at hu; subst hu; (first | exact stor_row 1 hw rfl)); (simp; omega); decide; rfl; rfl; intro sv))
        rename_i e s1
        refine qround_normal ?_ ⟨(k + 1, sv, qs ++ [(e, [(a : Int), L2.getD k 0])]), ⟨rfl, rfl, trivial⟩, ⟨by dsimp only; omega, ?_⟩, by dsimp only; omega, fun w' h => ?_⟩
        · repeat (first | exact same_refl | refine same_upd rfl ?_ | refine same_junk rfl ?_)
        · dsimp only
          rw [lssOf_snoc, he2, take_snoc hkl, List.map_append, List.append_assoc]; rfl
        · dsimp only
          have := (h.sub (List.sublist_cons_self _ _)).perm (List.perm_append_singleton _ _).symm
          rw [rowsOb_snoc, svsOf_snoc]
          exact this
      · repeat' (first | apply pwp_seq | apply pwp_region | (apply px_run; (first | (apply opv_move; first | exact hid_int rfl) | (apply opv_lss <;> rfl) | (apply opv_add_in; rfl; rfl; omega)); rfl; rfl) | apply px_nil | apply qseq_normal | apply qseq_exit | apply qblock_normal | (apply qblock_exit_same; rfl) | apply pwp_exit | apply qround_exit | (apply pwp_cond_dec; rfl; all_goals (intro hc; try (first | (exfalso; omega)))))
        refine qround_normal ?_ ⟨(v + 1, so2, qs), ⟨rfl, rfl, trivial⟩, ⟨by dsimp only; omega, ?_⟩, by dsimp only; omega, fun w' h => by exact Cl.sub (by assumption) (by repeat (first | exact List.Sublist.slnil | exact List.Sublist.refl _ | apply List.Sublist.cons_cons | exact List.sublist_append_left _ _ | exact List.sublist_append_right _ _ | apply List.Sublist.cons))⟩
        · repeat (first | exact same_refl | refine same_upd rfl ?_ | refine same_junk rfl ?_)
        · dsimp only
          rw [nextU_succ, he2, List.take_of_length_le (by omega), hva, ← hout, hrl]
    · have hin := next_in hg ha hb (v := v) (by omega) hva
      have hva2 : ¬ (v : Int) = (a : Int) := by omega
      repeat' (first | apply pwp_seq | apply pwp_region | (apply px_run; (first | (apply opv_load_iota sc_int; rfl; exact rd_row 1 rfl; omega) | (apply opv_move; first | exact hid_int rfl | rfl) | (apply opv_assign; first | exact hid_int rfl | rfl) | (apply opv_lss <;> rfl) | (apply opv_eql <;> rfl) | (apply opv_andNot <;> rfl) | (apply opv_add_in; rfl; rfl; omega) | (apply opv_field fld_G1; rfl) | (apply opv_load_blk 2; (first | with_reducible exact sc_int | with_reducible exact sc_ints); rfl; rfl; rfl) | (apply opv_load_ints sc_int; rfl; (first | exact rd_old (by assumption)); (first | omega)) | (apply opv_index_nat (vs := ints _) el_int; rfl; rfl; (first | exact rd_old (by assumption) | exact rd_row 1 rfl); (first | (simp only [ints_length]; omega))) | (apply opv_call; rfl; rfl; exact Cl.stable _ _ _; exact fun w hw => i_has_c _ _ _ (by omega))); rfl; rfl) | apply px_nil | apply qseq_normal | apply pwp_block | apply qblock_normal | apply pwp_skip | (apply pwp_region_draw; kernel_rfl; kernel_rfl; exact Cl.stable _ _ _) | (apply pwp_cond_dec; rfl; all_goals (intro hc; try (first | contradiction | (exfalso; omega)))) | (apply pwp_cond; rfl; all_goals (intro hc; try (first | fail))) | (apply px_lit2 ez_int; rfl; (intro w hw; (first | rfl)); rfl; (intro w hw; (first | rfl)); rfl; rfl; rfl; intro sv) | (apply px_lit1 ez_intss; rfl; (intro w hw; (first | exact stor_row 0 hw rfl)); rfl; rfl; rfl; intro sv) | (apply px_append 2 ez_intss; rfl; rfl; rfl; (first | exact rd_row 0 rfl); (intro w hw u hu; simp only [List.mem_singleton] at hu; subst hu; (first | exact stor_row 1 hw rfl)); (simp; omega); decide; rfl; rfl; intro sv))
      · rename_i e s1
        refine qround_normal ?_ ⟨(v + 1, sv, ps ++ [(e, [(v : Int), (b : Int)])]), ⟨rfl, rfl, trivial⟩, ⟨by dsimp only; omega, ?_⟩, by dsimp only; omega, fun w' h => ?_⟩
        · repeat (first | exact same_refl | refine same_upd rfl ?_ | refine same_junk rfl ?_)
        · dsimp only
          rw [lssOf_snoc, he, nextU_succ, ← hrl, hin, if_pos hc]
        · dsimp only
          have := (h.sub (List.sublist_cons_self _ _)).perm (List.perm_append_singleton _ _).symm
          rw [rowsOb_snoc, svsOf_snoc]
          exact this
      · have hc2 : ¬ hasB (iandnot (rows.getD b 0) (rows.getD a 0)) (v : Nat) = true := by rw [hc]; exact Bool.false_ne_true
        refine qround_normal ?_ ⟨(v + 1, so, ps), ⟨rfl, rfl, trivial⟩, ⟨by dsimp only; omega, ?_⟩, by dsimp only; omega, fun _ h => h⟩
        · repeat (first | exact same_refl | refine same_upd rfl ?_ | refine same_junk rfl ?_)
        · dsimp only
          rw [nextU_succ, he, ← hrl, hin, if_neg hc2, List.append_nil]
  · obtain rfl : v = n := by omega
    repeat' (first | apply pwp_seq | apply pwp_region | (apply px_run; (first | (apply opv_move; first | rfl) | (apply opv_assign; first | rfl) | (apply opv_lss <;> rfl)); rfl; rfl) | apply px_nil | apply qseq_normal | apply qseq_exit | (apply qblock_exit_same; rfl) | apply pwp_exit | apply pwp_ret | apply qround_exit | (apply pwp_cond_dec; rfl; all_goals (intro hc; try (first | (exfalso; omega)))))
    refine qbody_ret1 (v := so) rfl rfl ⟨_, ⟨ps, by unfold nextA; rw [hrl]; exact he, rfl⟩, fun w' h => ?_⟩
    exact Cl.sub (by assumption) (by repeat (first | exact List.Sublist.slnil | exact List.Sublist.refl _ | apply List.Sublist.cons_cons | exact List.sublist_append_left _ _ | exact List.sublist_append_right _ _ | apply List.Sublist.cons))
theorem en_i_forced : Entry Try.prog 35 := ⟨_, Try.func35, by kernel_rfl, rfl⟩
set_option maxRecDepth 100000 in
set_option maxHeartbeats 3200000 in
theorem i_forced_c (size : Int) (gv : Value) (rows : List Int) (a b : Nat) (w : World) (hr : Arr w gv (ints rows)) (hg : IsG size rows) (ha : a < rows.length) (hb : b < rows.length) :
    Gives Try.prog 35 #[.agg #[.int .i64 size, gv], .int .i64 (a : Int), .int .i64 (b : Int)] w (fun v objs => ∃ sv sf ps, v = .tuple #[sv, sf] ∧ lssOf ps = (forcedA rows a b).1 ∧ objs = .row 24 sv (svsOf ps) :: .row 3 sf (ints (forcedA rows a b).2) :: rowsOb 3 ps) := by
  refine gives_enter (args := [_, _, _]) en_i_forced Try.func35 rfl Try.ntmps35 rfl ?_
  obtain ⟨n, hn, hrl, hn1, hn7⟩ := isG_size hg
  have hab : arcN rows.length [(a : Int), (b : Int)] := ⟨a, b, rfl, ha, hb⟩
  have hE : ∀ k, k = (bfsA rows a b k).1.length → forcedA rows a b = bfsA rows a b k := fun k h => forcedA_end hab (by omega) h
  generalize forcedA rows a b = FA at hE ⊢
  repeat' (first | apply pwp_seq | apply pwp_region | (apply px_run; (first | (apply opv_move; first | exact hid_int rfl) | (apply opv_assign; first | exact hid_int rfl | rfl)); rfl; rfl) | apply px_nil | apply qseq_normal | apply pwp_block | (apply px_box; rfl; rfl; rfl; rfl; intro bk) | (apply px_lit2 ez_int; rfl; (intro w hw; (first | rfl)); rfl; (intro w hw; (first | rfl)); rfl; rfl; rfl; intro sv) | (apply px_lit1 ez_intss; rfl; (intro w hw; (first | exact stor_row 0 hw rfl)); rfl; rfl; rfl; intro sv) | (apply px_lit1 ez_int; rfl; (intro w hw; (first | rfl)); rfl; rfl; rfl; intro sv))
  rename_i e so0
  refine pwp_loop (τ := Nat × Value × Value × Pairs) [(8,10), (12,12), (18,55)] (fun x => [(10, .int .i64 (x.1 : Int)), (8, x.2.1), (9, x.2.2.1)]) (fun x => Cl [] w (.row 24 x.2.1 (svsOf x.2.2.2) :: .row 3 x.2.2.1 (ints (bfsA rows a b x.1).2) :: .blk bk [.int .i64 size, gv] :: rowsOb 3 x.2.2.2)) (fun x => x.1 ≤ (bfsA rows a b x.1).1.length ∧ lssOf x.2.2.2 = (bfsA rows a b x.1).1) (fun x => 49 - x.1) (0, so0, sv, [(e, [(a : Int), (b : Int)])])
    ⟨rfl, rfl, rfl, trivial⟩ ⟨Nat.zero_le _, rfl⟩ (fun w' h => h.perm (List.Perm.trans (List.Perm.swap _ _ _) (List.Perm.cons _ (List.Perm.cons _ (List.Perm.swap _ _ _))))) (fun J x hx => ?_)
  obtain ⟨k, so, sf, ps⟩ := x
  dsimp only at hx ⊢
  obtain ⟨hk, he⟩ := hx
  have hok := bfsA_ok hab k
  have hbd := hok.bound (by omega)
  have hpl : ps.length = (bfsA rows a b k).1.length := by rw [← he, lssOf_length]
  by_cases hlt : k < ps.length
  · have hbs : bfsA rows a b (k + 1) = stepA rows (bfsA rows a b k) k := by rw [bfsA, if_pos (by omega)]
    have hlk : (bfsA rows a b k).1.getD k [] = lsAt ps k := by rw [← he, lss_getD]
    obtain ⟨x, y, hxy, hx, hy⟩ := hok.arc (lsAt ps k) (by rw [← he]; exact lsAt_mem hlt)
    have hll : (lsAt ps k).length = 2 := by rw [hxy]; rfl
    have hmem : Ob.row 3 (svAt ps k) (ints (lsAt ps k)) ∈ rowsOb 3 ps := row_mem hlt
    have key : ∀ w', Arr w' gv (ints rows) → Gives Try.prog 49 #[.agg #[.int .i64 size, gv], .int .i64 ((lsAt ps k).getD 0 0), .int .i64 ((lsAt ps k).getD 1 0)] w' (fun v objs => ∃ qs, lssOf qs = nextA rows ((lsAt ps k).getD 0 0) ((lsAt ps k).getD 1 0) ∧ objs = .row 24 v (svsOf qs) :: rowsOb 3 qs) := fun w' h => by
      rw [hxy]; exact i_forces_c size gv rows x y w' h hg hx hy
    repeat' (first | apply pwp_seq | apply pwp_region | (apply px_run; (first | (apply opv_move; first | exact hid_int rfl | rfl) | (apply opv_lss <;> rfl) | (apply opv_load_ints sc_int; rfl; (first | exact rd_mem (by repeat (first | assumption | apply List.mem_cons_of_mem))); (first | omega)) | (apply opv_index_nat (k := 0) (vs := ints _) el_int; rfl; rfl; (first | exact rd_mem (by repeat (first | assumption | apply List.mem_cons_of_mem))); (first | (simp only [ints_length]; first | omega))) | (apply opv_index_nat (k := 1) (vs := ints _) el_int; rfl; rfl; (first | exact rd_mem (by repeat (first | assumption | apply List.mem_cons_of_mem))); (first | (simp only [ints_length]; first | omega))) | (apply opv_load_str 2 st_G; rfl; rfl; rfl) | (apply opv_load_svs sc_ints; rfl; (first | exact rd_row 0 rfl); omega) | (apply opv_index_nat (vs := svsOf _) el_intss; rfl; rfl; (first | exact rd_row 0 rfl); (simp only [svsOf_length]; omega)) | (apply opv_len_svs el_intss; rfl; (first | exact rd_row 0 rfl))); rfl; rfl) | apply px_nil | apply qseq_normal | apply pwp_block | apply pwp_skip | (apply pwp_region_mix; kernel_rfl; decide +kernel; exact Cl.stable _ _ _) | (apply pwp_cond_dec; rfl; all_goals (intro hc; try (first | (exfalso; omega)))) | (apply px_givesT; rfl; rfl; rfl; rfl; rfl; exact fun w hw => key _ (by first | exact hw.arr (by assumption)); rintro vf _ ⟨fs, hfs, rfl⟩; refine ⟨[_], _, rfl, ?_⟩))
    have hst : stepA rows (bfsA rows a b k) k = (lssOf fs).foldl (addA k) (bfsA rows a b k) := by rw [hfs]; unfold stepA; rw [hlk]
    have hfa : ∀ e ∈ lssOf fs, arcN rows.length e := by rw [hfs]; exact nextA_arc
    have hfl : fs.length ≤ 49 := by
      have h1 := nextU_length rows rows.length ((lsAt ps k).getD 0 0) ((lsAt ps k).getD 1 0) rows.length
      have h2 : rows.length * rows.length ≤ 7 * 7 := Nat.mul_le_mul (by omega) (by omega)
      have h3 := congrArg List.length hfs
      rw [lssOf_length] at h3
      unfold nextA at h3
      omega
    have hoj := fun j => foldU_ok hok hfa (k := k) (by omega) j
    generalize hs0 : bfsA rows a b k = s0 at *
    refine pwp_loop (τ := Nat × Value × Value × Pairs) [(8,9), (12,12), (39,55)] (fun x => [(39, .int .i64 (x.1 : Int)), (8, x.2.1), (9, x.2.2.1)]) (fun x => Cl [] w (.row 24 vf (svsOf fs) :: .row 24 x.2.1 (svsOf (ps ++ x.2.2.2)) :: .row 3 x.2.2.1 (ints (foldU k s0 (lssOf fs) x.1).2) :: .blk bk [.int .i64 size, gv] :: (rowsOb 3 ps ++ rowsOb 3 fs)))
      (fun x => x.1 ≤ fs.length ∧ List.Sublist x.2.2.2 (fs.take x.1) ∧ lssOf (ps ++ x.2.2.2) = (foldU k s0 (lssOf fs) x.1).1) (fun x => fs.length - x.1) (0, so, sf, [])
      ⟨rfl, rfl, rfl, trivial⟩ ⟨Nat.zero_le _, List.nil_sublist _, by dsimp only; rw [List.append_nil]; exact he⟩ (fun w' h => by dsimp only; rw [List.append_nil]; exact h) (fun J2 x hx => ?_)
    obtain ⟨j, so2, sf2, qs⟩ := x
    dsimp only at hx ⊢
    obtain ⟨hj, hqs, he2⟩ := hx
    have hob := (hoj j).bound (by omega)
    have hol := (hoj j).len
    have hql : ps.length + qs.length = (foldU k s0 (lssOf fs) j).1.length := by rw [← he2, lssOf_length, List.length_append]
    by_cases hlj : j < fs.length
    · have hmf : Ob.row 3 (svAt fs j) (ints (lsAt fs j)) ∈ rowsOb 3 fs := row_mem hlj
      have hsub : List.Sublist (rowsOb 3 (ps ++ qs)) (rowsOb 3 ps ++ rowsOb 3 fs) := by
        rw [rowsOb_append]; exact (List.Sublist.refl _).append (rowsOb_sub (hqs.trans (List.take_sublist _ _)))
      have hfu := foldU_succ (k := (k : Int)) (s := s0) (L := lssOf fs) (j := j) (by rw [lssOf_length]; exact hlj)
      rw [lss_getD] at hfu
      have hsl : (svsOf (ps ++ qs)).length ≤ 49 := by rw [svsOf_length, List.length_append]; omega
      have hpa : ∀ w', Cl [] w (.row 24 vf (svsOf fs) :: .row 24 so2 (svsOf (ps ++ qs)) :: .row 3 sf2 (ints (foldU k s0 (lssOf fs) j).2) :: .blk bk [.int .i64 size, gv] :: (rowsOb 3 ps ++ rowsOb 3 fs)) w' →
          Pure Try.prog 36 #[so2, svAt fs j] w' (.int .i64 (placeA (foldU k s0 (lssOf fs) j).1 (lsAt fs j))) := fun w' hw => by
        rw [← he2]
        exact i_indexOf_c _ _ (ps ++ qs) (lsAt fs j) _ (hw.arrS 1 rfl fun o ho => List.mem_cons_of_mem _ (List.mem_cons_of_mem _ (List.mem_cons_of_mem _ (List.mem_cons_of_mem _ (hsub.subset ho))))) (by rw [List.length_append]; omega)
          (arr_of_row (hw.holds _ (List.mem_cons_of_mem _ (List.mem_cons_of_mem _ (List.mem_cons_of_mem _ (List.mem_cons_of_mem _ (List.mem_append_right _ hmf)))))))
      repeat' (first | apply pwp_seq | apply pwp_region | (apply px_run; (first | (apply opv_move; first | exact hid_int rfl | rfl) | (apply opv_assign; first | rfl) | (apply opv_lss <;> rfl) | (apply opv_add_in; rfl; rfl; omega) | (apply opv_load_svs sc_ints; rfl; (first | exact rd_row 0 rfl); omega) | (apply opv_index_nat (vs := svsOf _) el_intss; rfl; rfl; (first | exact rd_row 0 rfl); (simp only [svsOf_length]; omega)) | (apply opv_call; rfl; rfl; exact Cl.stable _ _ _; exact fun w hw => hpa _ hw)); rfl; rfl) | apply px_nil | apply qseq_normal | apply pwp_block | apply qblock_normal | apply pwp_skip | (apply pwp_cond_dec; rfl; all_goals (intro hc; try (first | (exfalso; omega)))) | (apply px_lit1 ez_int; rfl; (intro w hw; (first | rfl)); rfl; rfl; rfl; intro sv) | (apply px_lit1 ez_intss; rfl; (intro w hw; (first | exact stor_mem hw (by repeat (first | assumption | apply List.mem_cons_of_mem | apply List.mem_append_right)))); rfl; rfl; rfl; intro sv) | (apply px_append 2 ez_intss; rfl; rfl; rfl; (first | exact rd_row 0 rfl); (intro w hw u hu; simp only [List.mem_singleton] at hu; subst hu; (first | exact stor_mem hw (by repeat (first | assumption | apply List.mem_cons_of_mem | apply List.mem_append_right)))); (simp; omega); decide; rfl; rfl; intro sv) | (apply px_append 4 ez_int; rfl; rfl; rfl; (first | exact rd_row 0 rfl); (first | (intro _ _ u hu; simp at hu; subst hu; rfl)); (simp [ints]; omega); decide; rfl; rfl; intro sv))
      · rename_i s1 s2 s3
        refine qround_normal ?_ ⟨(j + 1, s2, sv, qs ++ [(svAt fs j, lsAt fs j)]), ⟨rfl, rfl, rfl, trivial⟩, ⟨by dsimp only; omega, ?_, ?_⟩, by dsimp only; omega, fun w' h => ?_⟩
        · repeat (first | exact same_refl | refine same_upd rfl ?_ | refine same_junk rfl ?_)
        · rw [ps_snoc hlj]; exact hqs.append (List.Sublist.refl _)
        · dsimp only; rw [hfu, addA_new hc, ← List.append_assoc, lssOf_snoc, he2]
        · dsimp only
          rw [hfu, addA_new hc, ← List.append_assoc, svsOf_snoc, ← ints_snoc]
          exact Cl.sub (by assumption) (by repeat (first | exact List.Sublist.slnil | exact List.Sublist.refl _ | apply List.Sublist.cons_cons | exact List.sublist_append_left _ _ | exact List.sublist_append_right _ _ | apply List.Sublist.cons))
      · refine qround_normal ?_ ⟨(j + 1, so2, sf2, qs), ⟨rfl, rfl, rfl, trivial⟩, ⟨by dsimp only; omega, hqs.trans ?_, ?_⟩, by dsimp only; omega, fun w' h => ?_⟩
        · repeat (first | exact same_refl | refine same_upd rfl ?_ | refine same_junk rfl ?_)
        · rw [ps_snoc hlj]; exact List.sublist_append_left _ _
        · dsimp only; rw [hfu, addA_old hc]; exact he2
        · dsimp only; rw [hfu, addA_old hc]; exact h
    · obtain rfl : j = fs.length := by omega
      have hfin : foldU k s0 (lssOf fs) fs.length = bfsA rows a b (k + 1) := by
        have := foldU_all (k : Int) s0 (lssOf fs)
        rw [lssOf_length] at this
        rw [this, hbs, hst]
      repeat' (first | apply pwp_seq | apply pwp_region | (apply px_run; (first | (apply opv_move; first | exact hid_int rfl) | (apply opv_assign; first | exact hid_int rfl) | (apply opv_lss <;> rfl) | (apply opv_add_in; rfl; rfl; omega)); rfl; rfl) | apply px_nil | apply qseq_normal | apply qseq_exit | apply qblock_normal | (apply qblock_exit_same; rfl) | apply pwp_exit | apply qround_exit | (apply pwp_cond_dec; rfl; all_goals (intro hc; try (first | (exfalso; omega)))))
      refine qround_normal ?_ ⟨(k + 1, so2, sf2, ps ++ qs), ⟨rfl, rfl, rfl, trivial⟩, ⟨?_, ?_⟩, by dsimp only; omega, fun w' h => ?_⟩
      · repeat (first | exact same_refl | refine same_upd rfl ?_ | refine same_junk rfl ?_)
      · dsimp only; rw [← hfin]; omega
      · dsimp only; rw [he2, hfin]
      · dsimp only
        rw [← hfin, rowsOb_append]
        exact h.sub (List.Sublist.cons _ (List.Sublist.cons_cons _ (List.Sublist.cons_cons _ (List.Sublist.cons_cons _ ((List.Sublist.refl _).append (rowsOb_sub (hqs.trans (List.take_sublist _ _))))))))
  · have hend := hE k (by omega)
    repeat' (first | apply pwp_seq | apply pwp_region | (apply px_run; (first | (apply opv_move; first | exact hid_int rfl | rfl) | (apply opv_assign; first | rfl) | (apply opv_lss <;> rfl) | (apply opv_len_svs el_intss; rfl; (first | exact rd_row 0 rfl))); rfl; rfl) | apply px_nil | apply qseq_normal | apply qseq_exit | (apply qblock_exit_same; rfl) | apply pwp_exit | apply pwp_ret | apply qround_exit | (apply pwp_cond_dec; rfl; all_goals (intro hc; try (first | (exfalso; omega)))))
    refine qbody_ret2 rfl rfl rfl ⟨_, ⟨so, sf, ps, rfl, by rw [hend]; exact he, rfl⟩, fun w' h => ?_⟩
    rw [hend]
    exact Cl.sub (by assumption) (by repeat (first | exact List.Sublist.slnil | exact List.Sublist.refl _ | apply List.Sublist.cons_cons | exact List.sublist_append_left _ _ | exact List.sublist_append_right _ _ | apply List.Sublist.cons))
theorem en_s_l13Chain : Entry Try.prog 44 := ⟨_, Try.func44, by kernel_rfl, rfl⟩
set_option maxRecDepth 100000 in
set_option maxHeartbeats 3200000 in
theorem s_l13Chain_c (size : Int) (gv : Value) (rows : List Int) (a b : Nat) (w : World) (hr : Arr w gv (ints rows)) (hg : IsG size rows) (ha : a < rows.length) (hb : b < rows.length) :
    Gives Try.prog 44 #[.agg #[.int .i64 size, gv], .int .i64 (a : Int), .int .i64 (b : Int)] w (fun v objs => ∃ sv qs, v = .tuple #[sv, .bool (chainX rows a b).isSome] ∧ lssOf qs = (chainX rows a b).getD [] ∧ objs = .row 24 sv (svsOf qs) :: rowsOb 3 qs) := by
  refine gives_enter (args := [_, _, _]) en_s_l13Chain Try.func44 rfl Try.ntmps44 rfl ?_
  obtain ⟨n, hn, hrl, hn1, hn7⟩ := isG_size hg
  have hab : arcN rows.length [(a : Int), (b : Int)] := ⟨a, b, rfl, ha, hb⟩
  have hE : ∀ k, k = (bfsA rows a b k).1.length → forcedA rows a b = bfsA rows a b k := fun k h => forcedA_end hab (by omega) h
  have hcx : chainX rows a b = if [(b : Int), (a : Int)] ∈ (forcedA rows a b).1 then some ((chainI (forcedA rows a b).2 (placeA (forcedA rows a b).1 [(b : Int), (a : Int)])).map fun i => (forcedA rows a b).1.getD i []) else none := rfl
  have hFok := forcedA_ok hab
  generalize chainX rows a b = CX at hcx ⊢
  generalize forcedA rows a b = FA at hE hcx hFok
  repeat' (first | apply pwp_seq | apply pwp_region | (apply px_run; (first | (apply opv_move; first | exact hid_int rfl) | (apply opv_assign; first | exact hid_int rfl | exact hid_bool rfl | rfl)); rfl; rfl) | apply px_nil | apply qseq_normal | apply pwp_block | (apply px_box; rfl; rfl; rfl; rfl; intro bk) | (apply px_lit2 ez_int; rfl; (intro w hw; (first | rfl)); rfl; (intro w hw; (first | rfl)); rfl; rfl; rfl; intro sv) | (apply px_lit1 ez_intss; rfl; (intro w hw; (first | exact stor_row 0 hw rfl)); rfl; rfl; rfl; intro sv) | (apply px_lit1 ez_int; rfl; (intro w hw; (first | rfl)); rfl; rfl; rfl; intro sv))
  rename_i e so0
  refine pwp_loop (τ := Nat × Value × Value × Pairs) [(8,12), (20,71)] (fun x => [(10, .int .i64 (x.1 : Int)), (8, x.2.1), (9, x.2.2.1)]) (fun x => Cl [] w (.row 24 x.2.1 (svsOf x.2.2.2) :: .row 3 x.2.2.1 (ints (bfsA rows a b x.1).2) :: .blk bk [.int .i64 size, gv] :: rowsOb 3 x.2.2.2)) (fun x => x.1 ≤ (bfsA rows a b x.1).1.length ∧ lssOf x.2.2.2 = (bfsA rows a b x.1).1) (fun x => 49 - x.1) (0, so0, sv, [(e, [(a : Int), (b : Int)])])
    ⟨rfl, rfl, rfl, trivial⟩ ⟨Nat.zero_le _, rfl⟩ (fun w' h => h.perm (List.Perm.trans (List.Perm.swap _ _ _) (List.Perm.cons _ (List.Perm.cons _ (List.Perm.swap _ _ _))))) (fun J x hx => ?_)
  obtain ⟨k, so, sf, ps⟩ := x
  dsimp only at hx ⊢
  obtain ⟨hk, he⟩ := hx
  have hok := bfsA_ok hab k
  have hbd := hok.bound (by omega)
  have hpl : ps.length = (bfsA rows a b k).1.length := by rw [← he, lssOf_length]
  by_cases hlt : k < ps.length
  · have hbs : bfsA rows a b (k + 1) = stepA rows (bfsA rows a b k) k := by rw [bfsA, if_pos (by omega)]
    have hlk : (bfsA rows a b k).1.getD k [] = lsAt ps k := by rw [← he, lss_getD]
    obtain ⟨x, y, hxy, hx, hy⟩ := hok.arc (lsAt ps k) (by rw [← he]; exact lsAt_mem hlt)
    have hll : (lsAt ps k).length = 2 := by rw [hxy]; rfl
    have hmem : Ob.row 3 (svAt ps k) (ints (lsAt ps k)) ∈ rowsOb 3 ps := row_mem hlt
    have key : ∀ w', Arr w' gv (ints rows) → Gives Try.prog 56 #[.agg #[.int .i64 size, gv], .int .i64 ((lsAt ps k).getD 0 0), .int .i64 ((lsAt ps k).getD 1 0)] w' (fun v objs => ∃ qs, lssOf qs = nextA rows ((lsAt ps k).getD 0 0) ((lsAt ps k).getD 1 0) ∧ objs = .row 24 v (svsOf qs) :: rowsOb 3 qs) := fun w' h => by
      rw [hxy]; exact s_l13Next_c size gv rows x y w' h hg hx hy
    repeat' (first | apply pwp_seq | apply pwp_region | (apply px_run; (first | (apply opv_move; first | exact hid_int rfl | rfl) | (apply opv_assign; first | exact hid_int rfl | rfl) | (apply opv_lss <;> rfl) | (apply opv_load_ints sc_int; rfl; (first | exact rd_mem (by repeat (first | assumption | apply List.mem_cons_of_mem))); (first | omega)) | (apply opv_index_nat (k := 0) (vs := ints _) el_int; rfl; rfl; (first | exact rd_mem (by repeat (first | assumption | apply List.mem_cons_of_mem))); (first | (simp only [ints_length]; first | omega))) | (apply opv_index_nat (k := 1) (vs := ints _) el_int; rfl; rfl; (first | exact rd_mem (by repeat (first | assumption | apply List.mem_cons_of_mem))); (first | (simp only [ints_length]; first | omega))) | (apply opv_load_str 2 st_G; rfl; rfl; rfl) | (apply opv_load_svs sc_ints; rfl; (first | exact rd_row 0 rfl); omega) | (apply opv_index_nat (vs := svsOf _) el_intss; rfl; rfl; (first | exact rd_row 0 rfl); (simp only [svsOf_length]; omega)) | (apply opv_len_svs el_intss; rfl; (first | exact rd_row 0 rfl))); rfl; rfl) | apply px_nil | apply qseq_normal | apply pwp_block | apply pwp_skip | (apply pwp_region_mix; kernel_rfl; decide +kernel; exact Cl.stable _ _ _) | (apply pwp_cond_dec; rfl; all_goals (intro hc; try (first | (exfalso; omega)))) | (apply px_givesT; rfl; rfl; rfl; rfl; rfl; exact fun w hw => key _ (by first | exact hw.arr (by assumption)); rintro vf _ ⟨fs, hfs, rfl⟩; refine ⟨[_], _, rfl, ?_⟩))
    have hst : stepA rows (bfsA rows a b k) k = (lssOf fs).foldl (addA k) (bfsA rows a b k) := by rw [hfs]; unfold stepA; rw [hlk]
    have hfa : ∀ e ∈ lssOf fs, arcN rows.length e := by rw [hfs]; exact nextA_arc
    have hfl : fs.length ≤ 49 := by
      have h1 := nextU_length rows rows.length ((lsAt ps k).getD 0 0) ((lsAt ps k).getD 1 0) rows.length
      have h2 : rows.length * rows.length ≤ 7 * 7 := Nat.mul_le_mul (by omega) (by omega)
      have h3 := congrArg List.length hfs
      rw [lssOf_length] at h3
      unfold nextA at h3
      omega
    have hoj := fun j => foldU_ok hok hfa (k := k) (by omega) j
    generalize hs0 : bfsA rows a b k = s0 at *
    refine pwp_loop (τ := Nat × Value × Value × Pairs) [(8,9), (12,12), (40,71)] (fun x => [(12, .int .i64 (x.1 : Int)), (8, x.2.1), (9, x.2.2.1)]) (fun x => Cl [] w (.row 24 vf (svsOf fs) :: .row 24 x.2.1 (svsOf (ps ++ x.2.2.2)) :: .row 3 x.2.2.1 (ints (foldU k s0 (lssOf fs) x.1).2) :: .blk bk [.int .i64 size, gv] :: (rowsOb 3 ps ++ rowsOb 3 fs)))
      (fun x => x.1 ≤ fs.length ∧ List.Sublist x.2.2.2 (fs.take x.1) ∧ lssOf (ps ++ x.2.2.2) = (foldU k s0 (lssOf fs) x.1).1) (fun x => fs.length - x.1) (0, so, sf, [])
      ⟨rfl, rfl, rfl, trivial⟩ ⟨Nat.zero_le _, List.nil_sublist _, by dsimp only; rw [List.append_nil]; exact he⟩ (fun w' h => by dsimp only; rw [List.append_nil]; exact h) (fun J2 x hx => ?_)
    obtain ⟨j, so2, sf2, qs⟩ := x
    dsimp only at hx ⊢
    obtain ⟨hj, hqs, he2⟩ := hx
    have hob := (hoj j).bound (by omega)
    have hol := (hoj j).len
    have hql : ps.length + qs.length = (foldU k s0 (lssOf fs) j).1.length := by rw [← he2, lssOf_length, List.length_append]
    by_cases hlj : j < fs.length
    · have hmf : Ob.row 3 (svAt fs j) (ints (lsAt fs j)) ∈ rowsOb 3 fs := row_mem hlj
      have hsub : List.Sublist (rowsOb 3 (ps ++ qs)) (rowsOb 3 ps ++ rowsOb 3 fs) := by
        rw [rowsOb_append]; exact (List.Sublist.refl _).append (rowsOb_sub (hqs.trans (List.take_sublist _ _)))
      have hfu := foldU_succ (k := (k : Int)) (s := s0) (L := lssOf fs) (j := j) (by rw [lssOf_length]; exact hlj)
      rw [lss_getD] at hfu
      have hsl : (svsOf (ps ++ qs)).length ≤ 49 := by rw [svsOf_length, List.length_append]; omega
      have hpa : ∀ w', Cl [] w (.row 24 vf (svsOf fs) :: .row 24 so2 (svsOf (ps ++ qs)) :: .row 3 sf2 (ints (foldU k s0 (lssOf fs) j).2) :: .blk bk [.int .i64 size, gv] :: (rowsOb 3 ps ++ rowsOb 3 fs)) w' →
          Pure Try.prog 41 #[so2, .int .i64 ((lsAt fs j).getD 0 0), .int .i64 ((lsAt fs j).getD 1 0)] w' (.int .i64 (placeA (foldU k s0 (lssOf fs) j).1 (lsAt fs j))) := fun w' hw => by
        have h2 := s_l13Find_c so2 (ps ++ qs) ((lsAt fs j).getD 0 0) ((lsAt fs j).getD 1 0) w' (hw.arrS 1 rfl fun o ho => List.mem_cons_of_mem _ (List.mem_cons_of_mem _ (List.mem_cons_of_mem _ (List.mem_cons_of_mem _ (hsub.subset ho))))) (by rw [List.length_append]; omega)
          (fun i hi => by
            obtain ⟨x', y', h, _⟩ := (hoj j).arc (lsAt (ps ++ qs) i) (by rw [← he2]; exact lsAt_mem hi)
            rw [h]; rfl)
        rw [he2] at h2
        have h3 : [(lsAt fs j).getD 0 0, (lsAt fs j).getD 1 0] = lsAt fs j := by
          obtain ⟨x', y', h, _⟩ := hfa (lsAt fs j) (lsAt_mem hlj)
          rw [h]; rfl
        rw [h3] at h2
        exact h2
      have hl2 : (lsAt fs j).length = 2 := by
        obtain ⟨x', y', h, _⟩ := hfa (lsAt fs j) (lsAt_mem hlj)
        rw [h]; rfl
      repeat' (first | apply pwp_seq | apply pwp_region | (apply px_run; (first | (apply opv_move; first | exact hid_int rfl | rfl) | (apply opv_assign; first | exact hid_int rfl | rfl) | (apply opv_lss <;> rfl) | (apply opv_add_in; rfl; rfl; omega) | (apply opv_load_ints sc_int; rfl; (first | exact rd_mem (by repeat (first | assumption | apply List.mem_cons_of_mem | apply List.mem_append_right))); (first | omega)) | (apply opv_index_nat (k := 0) (vs := ints _) el_int; rfl; rfl; (first | exact rd_mem (by repeat (first | assumption | apply List.mem_cons_of_mem | apply List.mem_append_right))); (first | (simp only [ints_length]; first | omega))) | (apply opv_index_nat (k := 1) (vs := ints _) el_int; rfl; rfl; (first | exact rd_mem (by repeat (first | assumption | apply List.mem_cons_of_mem | apply List.mem_append_right))); (first | (simp only [ints_length]; first | omega))) | (apply opv_load_svs sc_ints; rfl; (first | exact rd_row 0 rfl); omega) | (apply opv_index_nat (vs := svsOf _) el_intss; rfl; rfl; (first | exact rd_row 0 rfl); (simp only [svsOf_length]; omega)) | (apply opv_len_svs el_intss; rfl; (first | exact rd_row 0 rfl)) | (apply opv_call; rfl; rfl; exact Cl.stable _ _ _; exact fun w hw => hpa _ hw)); rfl; rfl) | apply px_nil | apply qseq_normal | apply pwp_block | apply qblock_normal | apply pwp_skip | (apply pwp_region_mix; kernel_rfl; decide +kernel; exact Cl.stable _ _ _) | (apply pwp_cond_dec; rfl; all_goals (intro hc; try (first | (exfalso; omega)))) | (apply px_lit1 ez_int; rfl; (intro w hw; (first | rfl)); rfl; rfl; rfl; intro sv) | (apply px_lit1 ez_intss; rfl; (intro w hw; (first | exact stor_mem hw (by repeat (first | assumption | apply List.mem_cons_of_mem | apply List.mem_append_right)))); rfl; rfl; rfl; intro sv) | (apply px_append 2 ez_intss; rfl; rfl; rfl; (first | exact rd_row 0 rfl); (intro w hw u hu; simp only [List.mem_singleton] at hu; subst hu; (first | exact stor_mem hw (by repeat (first | assumption | apply List.mem_cons_of_mem | apply List.mem_append_right)))); (simp; omega); decide; rfl; rfl; intro sv) | (apply px_append 4 ez_int; rfl; rfl; rfl; (first | exact rd_row 0 rfl); (first | (intro _ _ u hu; simp at hu; subst hu; rfl)); (simp [ints]; omega); decide; rfl; rfl; intro sv))
      · rename_i s1 s2 s3
        refine qround_normal ?_ ⟨(j + 1, s2, sv, qs ++ [(svAt fs j, lsAt fs j)]), ⟨rfl, rfl, rfl, trivial⟩, ⟨by dsimp only; omega, ?_, ?_⟩, by dsimp only; omega, fun w' h => ?_⟩
        · repeat (first | exact same_refl | refine same_upd rfl ?_ | refine same_junk rfl ?_)
        · rw [ps_snoc hlj]; exact hqs.append (List.Sublist.refl _)
        · dsimp only; rw [hfu, addA_new hc, ← List.append_assoc, lssOf_snoc, he2]
        · dsimp only
          rw [hfu, addA_new hc, ← List.append_assoc, svsOf_snoc, ← ints_snoc]
          exact Cl.sub (by assumption) (by repeat (first | exact List.Sublist.slnil | exact List.Sublist.refl _ | apply List.Sublist.cons_cons | exact List.sublist_append_left _ _ | exact List.sublist_append_right _ _ | apply List.Sublist.cons))
      · refine qround_normal ?_ ⟨(j + 1, so2, sf2, qs), ⟨rfl, rfl, rfl, trivial⟩, ⟨by dsimp only; omega, hqs.trans ?_, ?_⟩, by dsimp only; omega, fun w' h => ?_⟩
        · repeat (first | exact same_refl | refine same_upd rfl ?_ | refine same_junk rfl ?_)
        · rw [ps_snoc hlj]; exact List.sublist_append_left _ _
        · dsimp only; rw [hfu, addA_old hc]; exact he2
        · dsimp only; rw [hfu, addA_old hc]; exact h
    · obtain rfl : j = fs.length := by omega
      have hfin : foldU k s0 (lssOf fs) fs.length = bfsA rows a b (k + 1) := by
        have := foldU_all (k : Int) s0 (lssOf fs)
        rw [lssOf_length] at this
        rw [this, hbs, hst]
      repeat' (first | apply pwp_seq | apply pwp_region | (apply px_run; (first | (apply opv_move; first | exact hid_int rfl | rfl) | (apply opv_assign; first | exact hid_int rfl) | (apply opv_lss <;> rfl) | (apply opv_add_in; rfl; rfl; omega) | (apply opv_len_svs el_intss; rfl; (first | exact rd_row 0 rfl))); rfl; rfl) | apply px_nil | apply qseq_normal | apply qseq_exit | apply qblock_normal | (apply qblock_exit_same; rfl) | apply pwp_exit | apply qround_exit | (apply pwp_cond_dec; rfl; all_goals (intro hc; try (first | (exfalso; omega)))))
      refine qround_normal ?_ ⟨(k + 1, so2, sf2, ps ++ qs), ⟨rfl, rfl, rfl, trivial⟩, ⟨?_, ?_⟩, by dsimp only; omega, fun w' h => ?_⟩
      · repeat (first | exact same_refl | refine same_upd rfl ?_ | refine same_junk rfl ?_)
      · dsimp only; rw [← hfin]; omega
      · dsimp only; rw [he2, hfin]
      · dsimp only
        rw [← hfin, rowsOb_append]
        exact h.sub (List.Sublist.cons _ (List.Sublist.cons_cons _ (List.Sublist.cons_cons _ (List.Sublist.cons_cons _ ((List.Sublist.refl _).append (rowsOb_sub (hqs.trans (List.take_sublist _ _))))))))
  · have hend := hE k (by omega)
    have hpp : ps.length ≤ 49 := by omega
    rw [← hend] at he hok hpl ⊢
    clear hE hk hbd
    have hfind : ∀ w', Cl [] w (.row 24 so (svsOf ps) :: .row 3 sf (ints FA.2) :: .blk bk [.int .i64 size, gv] :: rowsOb 3 ps) w' → Pure Try.prog 41 #[so, .int .i64 (b : Int), .int .i64 (a : Int)] w' (.int .i64 (placeA FA.1 [(b : Int), (a : Int)])) := fun w' hw => by
      have h2 := s_l13Find_c so ps b a w' (hw.arrS 0 rfl fun o ho => List.mem_cons_of_mem _ (List.mem_cons_of_mem _ (List.mem_cons_of_mem _ ho))) (by omega)
        (fun i hi => by
          obtain ⟨x', y', h, _⟩ := hok.arc (lsAt ps i) (by rw [← he]; exact lsAt_mem hi)
          rw [h]; rfl)
      rw [he] at h2
      exact h2
    have hpr := placeA_range FA.1 [(b : Int), (a : Int)]
    have hpm := placeA_mem FA.1 [(b : Int), (a : Int)]
    generalize hpl0 : placeA FA.1 [(b : Int), (a : Int)] = at0 at *
    by_cases hneg : at0 < 0
    · have hx : CX = none := by rw [hcx, if_neg (fun h => by have := hpm.2 h; omega)]
      rw [hx]
      repeat' (first | apply pwp_seq | apply pwp_region | (apply px_run; (first | (apply opv_move; first | exact hid_int rfl | rfl) | (apply opv_assign; first | exact hid_int rfl | exact hid_bool rfl | rfl) | (apply opv_lss <;> rfl) | (apply opv_len_svs el_intss; rfl; (first | exact rd_row 0 rfl)) | (apply opv_call; rfl; rfl; exact Cl.stable _ _ _; exact fun w hw => hfind _ hw)); rfl; rfl) | apply px_nil | apply qseq_normal | apply qseq_ret | apply qseq_exit | (apply qblock_exit_same; rfl) | apply pwp_exit | apply pwp_ret | apply qround_exit | (apply pwp_cond_dec; rfl; all_goals (intro hc; try (first | contradiction | (exfalso; omega)))) | (apply px_lit0s ez_intss; rfl; rfl; rfl; intro sv))
      refine qbody_ret2 rfl rfl rfl ⟨_, ⟨sv, [], rfl, rfl, rfl⟩, fun w' h => ?_⟩
      exact h.sub (List.Sublist.cons_cons _ (List.nil_sublist _))
    · have hx : CX = some ((chainI FA.2 at0).map fun i => FA.1.getD i []) := by rw [hcx, if_pos (hpm.1 (by omega))]
      rw [hx]
      have hlen := hok.len
      have hback := hok.back
      repeat' (first | apply pwp_seq | apply pwp_region | (apply px_run; (first | (apply opv_move; first | exact hid_int rfl | rfl) | (apply opv_assign; first | exact hid_int rfl | rfl) | (apply opv_lss <;> rfl) | (apply opv_len_svs el_intss; rfl; (first | exact rd_row 0 rfl)) | (apply opv_call; rfl; rfl; exact Cl.stable _ _ _; exact fun w hw => hfind _ hw)); rfl; rfl) | apply px_nil | apply qseq_normal | apply qseq_exit | apply pwp_block | (apply qblock_exit_same; rfl) | apply pwp_skip | apply pwp_exit | apply qround_exit | (apply pwp_cond_dec; rfl; all_goals (intro hc; try (first | contradiction | (exfalso; omega)))) | (apply px_lit0s ez_intss; rfl; rfl; rfl; intro sv))
      refine pwp_loop (τ := Int × Value × Pairs) [(13,14), (80,101)] (fun x => [(13, .int .i64 x.1), (14, x.2.1)]) (fun x => Cl [] w (.row 24 x.2.1 (svsOf x.2.2) :: .row 24 so (svsOf ps) :: .row 3 sf (ints FA.2) :: .blk bk [.int .i64 size, gv] :: (rowsOb 3 ps ++ rowsOb 3 x.2.2)))
        (fun x => (-1 ≤ x.1 ∧ x.1 < FA.2.length) ∧ x.2.2.length + (x.1 + 1) ≤ 50 ∧ ∃ L, chainI FA.2 at0 = chainI FA.2 x.1 ++ L ∧ lssOf x.2.2 = L.map fun i => FA.1.getD i []) (fun x => (x.1 + 1).toNat) (at0, sv, [])
        ⟨rfl, rfl, trivial⟩ ⟨⟨by omega, by dsimp only; omega⟩, by simp; omega, [], by simp, rfl⟩ (fun w' h => by simpa [rowsOb] using h) (fun J2 x hx => ?_)
      obtain ⟨i, so2, qs⟩ := x
      dsimp only at hx ⊢
      obtain ⟨hi, hql, L, hL, hq⟩ := hx
      by_cases hi0 : i < 0
      · rw [chainI_neg hi0, List.nil_append] at hL
        repeat' (first | apply pwp_seq | apply pwp_region | (apply px_run; (first | (apply opv_move; first | exact hid_int rfl | rfl) | (apply opv_assign; first | exact hid_bool rfl | rfl) | (apply opv_geq <;> rfl)); rfl; rfl) | apply px_nil | apply qseq_normal | apply qseq_exit | (apply qblock_exit_same; rfl) | apply pwp_exit | apply pwp_ret | apply qround_exit | (apply pwp_cond_dec; rfl; all_goals (intro hc; try (first | (exfalso; omega)))))
        refine qbody_ret2 rfl rfl rfl ⟨_, ⟨so2, qs, rfl, by rw [hL]; exact hq, rfl⟩, fun w' h => ?_⟩
        exact h.sub (List.Sublist.cons_cons _ (List.Sublist.cons _ (List.Sublist.cons _ (List.Sublist.cons _ (List.sublist_append_right _ _)))))
      · obtain ⟨m, rfl⟩ : ∃ m : Nat, i = m := ⟨i.toNat, by omega⟩
        have hml : m < ps.length := by omega
        have hmem : Ob.row 3 (svAt ps m) (ints (lsAt ps m)) ∈ rowsOb 3 ps ++ rowsOb 3 qs := List.mem_append_left _ (row_mem hml)
        obtain ⟨x, y, hxy, _, _⟩ := hok.arc (lsAt ps m) (by rw [← he]; exact lsAt_mem hml)
        have hll : (lsAt ps m).length = 2 := by rw [hxy]; rfl
        have hb := hback m (by omega)
        have hcs := chainI_step hback (i := m) (by omega)
        repeat' (first | apply pwp_seq | apply pwp_region | (apply px_run; (first | (apply opv_move; first | exact hid_int rfl | rfl) | (apply opv_assign; first | exact hid_int rfl | rfl) | (apply opv_geq <;> rfl) | (apply opv_load_ints sc_int; rfl; (first | exact rd_row 4 rfl | exact rd_mem (by repeat (first | assumption | apply List.mem_cons_of_mem))); (first | omega)) | (apply opv_index_nat (k := 0) (vs := ints _) el_int; rfl; rfl; (first | exact rd_mem (by repeat (first | assumption | apply List.mem_cons_of_mem))); (first | (simp only [ints_length]; first | omega))) | (apply opv_index_nat (k := 1) (vs := ints _) el_int; rfl; rfl; (first | exact rd_mem (by repeat (first | assumption | apply List.mem_cons_of_mem))); (first | (simp only [ints_length]; first | omega))) | (apply opv_index_nat (vs := ints _) el_int; rfl; rfl; (first | exact rd_row 4 rfl); (first | (simp only [ints_length]; omega))) | (apply opv_load_svs sc_ints; rfl; (first | exact rd_row 1 rfl); omega) | (apply opv_index_nat (vs := svsOf _) el_intss; rfl; rfl; (first | exact rd_row 1 rfl); (simp only [svsOf_length]; omega))); rfl; rfl) | apply px_nil | apply qseq_normal | apply pwp_block | apply qblock_normal | apply pwp_skip | (apply pwp_cond_t; rfl) | (apply pwp_region_any [0, 1, 2, 3, 4, 5, 6, 7, 8, 9, 10, 11, 14] [] 4 (Cl [] w (.row 24 so2 (svsOf qs) :: .row 24 so (svsOf ps) :: .row 3 sf (ints FA.2) :: .blk bk [.int .i64 size, gv] :: (rowsOb 3 ps ++ rowsOb 3 qs))); kernel_rfl; decide +kernel; exact Cl.stable _ _ _; exact fun w h => h.sub (by repeat (first | exact List.Sublist.refl _))) | apply qlooks_normal | (apply qstep_in; exact fun w h => h.sub (by repeat (first | exact List.Sublist.refl _ | apply List.Sublist.cons))) | (apply pxa_nil; decide +kernel) | (apply pxa_one 12; decide +kernel; rfl) | (apply pxa_one 13; decide +kernel; rfl) | (apply pxa_one 15; decide +kernel; rfl) | (apply pxa_one 16; decide +kernel; rfl) | (apply px_append 0 ez_intss; rfl; rfl; rfl; exact rd_row 2 rfl; exact fun w hw => stor_svsA (hw.arrS 2 rfl fun o ho => List.mem_cons_of_mem _ (List.mem_cons_of_mem _ (List.mem_cons_of_mem _ (List.mem_cons_of_mem _ (List.mem_cons_of_mem _ (List.mem_cons_of_mem _ (List.mem_append_right _ ho))))))); (simp; omega); decide; rfl; rfl; intro sv) | (apply px_lit2 ez_int; rfl; (intro w hw; (first | rfl)); rfl; (intro w hw; (first | rfl)); rfl; rfl; rfl; intro sv) | (apply px_lit1 ez_intss; rfl; (intro w hw; (first | exact stor_row 0 hw rfl)); rfl; rfl; rfl; intro sv))
        rename_i e2 s1
        refine qround_normal ?_ ⟨(FA.2.getD m 0, sv, (e2, [(lsAt ps m).getD 0 0, (lsAt ps m).getD 1 0]) :: qs), ⟨rfl, rfl, trivial⟩, ⟨⟨hb.1, by dsimp only; omega⟩, by dsimp only; simp only [List.length_cons]; omega, m :: L, ?_, ?_⟩, by dsimp only; omega, fun w' h => ?_⟩
        · repeat (first | exact same_refl | refine same_upd rfl ?_ | refine same_junk rfl ?_)
        · dsimp only; rw [hL, hcs, List.append_assoc]; rfl
        · have e3 : [(lsAt ps m).getD 0 0, (lsAt ps m).getD 1 0] = FA.1.getD m [] := by rw [← he, lss_getD, hxy]; rfl
          dsimp only
          rw [List.map_cons, ← e3, ← hq]; rfl
        · dsimp only
          have h2 := h.sub (objs' := .row 24 sv (e2 :: svsOf qs) :: .row 3 e2 (ints [(lsAt ps m).getD 0 0, (lsAt ps m).getD 1 0]) :: .row 24 so (svsOf ps) :: .row 3 sf (ints FA.2) :: .blk bk [.int .i64 size, gv] :: (rowsOb 3 ps ++ rowsOb 3 qs)) (List.Sublist.cons_cons _ (List.Sublist.cons_cons _ (List.Sublist.cons _ (List.Sublist.refl _))))
          exact h2.perm ((List.perm_middle (l₁ := .row 24 so (svsOf ps) :: .row 3 sf (ints FA.2) :: .blk bk [.int .i64 size, gv] :: rowsOb 3 ps)).symm.cons _)
end Go.Proofs.Ytkbjcfabbapnpaa
