/- The first ones of the longest rising or falling lists of places. -/
import Derived.Test.YtmmflnigejfplaaGreatSo
import Derived.Test.YtmmflnigejfplaaGreatPwPlo
import Derived.Test.YtmmflnigejfplaaGreatPwArc
namespace Go.Proofs.YtmmflnigejfplaaGreat
open Go Go.RowKit Go.Pw
theorem rows_set {X : List Nat} {w0 w : World} {e : TypeId} {ps : Pairs} {p : Value × List Int} {i : Nat} {objs : List Ob} (hi : i < ps.length) (h : Cl X w0 (.row e p.1 (ints p.2) :: (objs ++ rowsOb e ps)) w) : Cl X w0 (objs ++ rowsOb e (ps.set i p)) w := by
  have e1 : rowsOb e ps = rowsOb e (ps.take i) ++ rowsOb e (ps.drop i) := by rw [← rowsOb_append, List.take_append_drop]
  have e2 : rowsOb e (ps.set i p) = rowsOb e (ps.take i) ++ (.row e p.1 (ints p.2) :: rowsOb e (ps.drop (i + 1))) := by
    rw [List.set_eq_take_append_cons_drop, if_pos hi, rowsOb_append]; rfl
  rw [e1, rowsOb_drop hi] at h
  rw [e2]
  have h2 := h.sub (objs' := .row e p.1 (ints p.2) :: (objs ++ (rowsOb e (ps.take i) ++ rowsOb e (ps.drop (i + 1))))) (List.Sublist.cons_cons _ ((List.Sublist.refl _).append ((List.Sublist.refl _).append (List.Sublist.cons _ (List.Sublist.refl _)))))
  refine h2.perm ?_
  rw [← List.append_assoc, ← List.append_assoc]
  exact List.perm_middle.symm
theorem svAt_set {ps : Pairs} {p : Value × List Int} {i k : Nat} (hi : i < ps.length) : svAt (ps.set i p) k = if k = i then p.1 else svAt ps k := by
  simp only [svAt, List.getD, List.getElem?_set]
  by_cases h : i = k
  · subst h; simp [hi]
  · rw [if_neg h, if_neg (fun e => h e.symm)]
theorem lsAt_set {ps : Pairs} {p : Value × List Int} {i k : Nat} (hi : i < ps.length) : lsAt (ps.set i p) k = if k = i then p.2 else lsAt ps k := by
  simp only [lsAt, List.getD, List.getElem?_set]
  by_cases h : i = k
  · subst h; simp [hi]
  · rw [if_neg h, if_neg (fun e => h e.symm)]
/-- Where the best so far lies. -/
def outAt (so0 so : Value) (ps : Pairs) (l : List Int) (lo : Nat) : Prop := (so = so0 ∧ l = []) ∨ ∃ k, lo ≤ k ∧ k < ps.length ∧ so = svAt ps k ∧ l = lsAt ps k
theorem outAt_mem {so0 so : Value} {ps : Pairs} {l : List Int} {lo : Nat} {e : TypeId} (h : outAt so0 so ps l lo) : Ob.row e so (ints l) ∈ .row e so0 (ints []) :: rowsOb e ps := by
  rcases h with ⟨rfl, rfl⟩ | ⟨k, _, hk, rfl, rfl⟩
  · exact List.mem_cons_self ..
  · exact List.mem_cons_of_mem _ (row_mem hk)
theorem outAt_set {so0 so : Value} {ps : Pairs} {p : Value × List Int} {l : List Int} {lo i : Nat} (h : outAt so0 so ps l lo) (hi : i < lo) : outAt so0 so (ps.set i p) l lo := by
  rcases h with h | ⟨k, h1, h2, h3, h4⟩
  · exact .inl h
  · refine .inr ⟨k, h1, by simpa using h2, ?_, ?_⟩
    · rw [svAt_set (by omega), if_neg (by omega)]; exact h3
    · rw [lsAt_set (by omega), if_neg (by omega)]; exact h4
theorem en_i_longest : Entry Tryz.prog 51 := ⟨_, Tryz.func51, by kernel_rfl, rfl⟩
set_option maxRecDepth 100000 in
set_option maxHeartbeats 3200000 in
theorem i_longest_c (n : Nat) (f : FuncId) (cs : List Value) (F : Nat → Nat → Bool) (w : World) (h1 : 1 ≤ n) (hn : n ≤ 7)
    (hp : ∀ (v u : Nat) w', v < u → u < n → Below w.heap.size w w' → Pure Tryz.prog f ([Value.int .i64 v, Value.int .i64 u] ++ cs).toArray w' (.bool (F v u))) :
    Gives Tryz.prog 51 #[.int .i64 n, .func (.func f) #[] cs.toArray] w (fun v objs => objs = [.row 3 v (ints (ouT F n n))]) := by
  refine gives_enter (args := [_, _]) en_i_longest Tryz.func51 rfl Tryz.ntmps51 rfl ?_
  repeat' (first | apply pwp_seq | apply pwp_region | (apply px_run; (first | (apply opv_move; first | exact hid_int rfl) | (apply opv_assign; first | exact hid_int rfl | rfl) | (apply opv_sub_in; rfl; rfl; omega)); rfl; rfl) | apply px_nil | apply qseq_normal | apply pwp_block | (apply px_make ez_intss; rfl; rfl; rfl; rfl; rfl; omega; (simp only [maxLen]; omega); intro sv) | (apply px_lit0i ez_int; rfl; rfl; rfl; intro sv))
  rename_i bv
  rename Value => so0
  refine pwp_loop (τ := Nat × Value × Pairs) [(6,8), (14,69)] (fun x => [(7, .int .i64 ((x.1 : Int) - 1)), (6, x.2.1)]) (fun x => Cl [] w (.row 24 bv (svsOf x.2.2) :: .row 3 so0 (ints []) :: rowsOb 3 x.2.2))
    (fun x => x.1 ≤ n ∧ x.2.2.length = n ∧ (∀ k, x.1 ≤ k → k < n → lsAt x.2.2 k = bsT F n (n - x.1) k) ∧ outAt so0 x.2.1 x.2.2 (ouT F n (n - x.1)) x.1) (fun x => x.1) (n, so0, List.replicate n (.slice none 0 0, []))
    ⟨rfl, rfl, trivial⟩ ⟨Nat.le_refl _, by simp, fun k h1 h2 => by dsimp only at h1; omega, .inl ⟨rfl, by dsimp only; rw [Nat.sub_self]; rfl⟩⟩ (fun w' h => ?_) (fun J x hx => ?_)
  · dsimp only
    have e1 : svsOf (List.replicate n ((.slice none 0 0, []) : Value × List Int)) = List.replicate n (.slice none 0 0) := by simp [svsOf]
    rw [e1]
    have h2 := h.perm (.swap _ _ _)
    have key : ∀ (m : Nat) (objs : List Ob), Cl [] w objs w' → Cl [] w (rowsOb 3 (List.replicate m ((.slice none 0 0, []) : Value × List Int)) ++ objs) w' := fun m => by
      induction m with
      | zero => exact fun _ h => h
      | succ m ih => exact fun objs h => (ih objs h).nilRow _
    exact (key n _ h2).perm List.perm_append_comm
  obtain ⟨m, so, ps⟩ := x
  dsimp only at hx ⊢
  obtain ⟨hm, hpl, hls, hout⟩ := hx
  rcases Nat.eq_zero_or_pos m with rfl | hm0
  · repeat' (first | apply pwp_seq | apply pwp_region | (apply px_run; (first | (apply opv_move; first | exact hid_int rfl | rfl) | (apply opv_assign; first | rfl) | (apply opv_geq <;> rfl)); rfl; rfl) | apply px_nil | apply qseq_normal | apply qseq_exit | (apply qblock_exit_same; rfl) | apply pwp_exit | apply pwp_ret | apply qround_exit | (apply pwp_cond_f; rfl))
    refine qbody_ret1 rfl rfl ⟨_, rfl, fun w' h => ?_⟩
    exact h.sub (List.singleton_sublist.2 (List.mem_cons_of_mem _ (outAt_mem hout)))
  obtain ⟨i, rfl⟩ : ∃ i, m = i + 1 := ⟨m - 1, by omega⟩
  have e : (((i + 1 : Nat) : Int)) - 1 = (i : Nat) := by omega
  have hips : i < ps.length := by omega
  rw [e]
  repeat' (first | apply pwp_seq | apply pwp_region | (apply px_run; (first | (apply opv_move; first | exact hid_int rfl | rfl) | (apply opv_assign; first | exact hid_int rfl) | (apply opv_geq <;> rfl) | (apply opv_sub_in; rfl; rfl; omega) | (apply opv_index_nat (vs := svsOf _) el_intss; rfl; rfl; (first | exact rd_row 1 rfl); (simp only [svsOf_length]; omega))); rfl; rfl) | apply px_nil | apply qseq_normal | apply pwp_block | apply pwp_skip | (apply pwp_cond_t; rfl) | (apply px_lit1 ez_int; rfl; (intro w hw; (first | rfl)); rfl; rfl; rfl; intro sv) | (apply px_store_row 1; (first | with_reducible exact co_ints); rfl; rfl; rfl; (intro w hw; (first | exact stor_row 0 hw rfl)); (simp [ints]; omega); rfl))
  refine pwp_loop (τ := Nat × Pairs) [(8,8), (25,57)] (fun x => [(8, .int .i64 (x.1 : Int))]) (fun x => Cl [] w (.row 24 bv (svsOf x.2) :: .row 3 so0 (ints []) :: rowsOb 3 x.2))
    (fun x => i ≤ x.1 ∧ x.1 ≤ n - 1 ∧ x.2.length = n ∧ lsAt x.2 i = inB F n i (bsT F n (n - (i + 1))) (n - 1 - x.1) ∧ (∀ k, i + 1 ≤ k → k < n → lsAt x.2 k = bsT F n (n - (i + 1)) k) ∧ outAt so0 so x.2 (ouT F n (n - (i + 1))) (i + 1)) (fun x => x.1) (n - 1, ps.set i (sv, [(i : Int)]))
    ⟨by show Value.int .i64 _ = .int .i64 _; congr 1; omega, trivial⟩ ⟨by dsimp only; omega, Nat.le_refl _, by dsimp only; rw [List.length_set]; exact hpl, ?_, fun k h1 h2 => ?_, outAt_set hout (Nat.lt_succ_self i)⟩ (fun w' h => ?_) (fun J2 x hx => ?_)
  · dsimp only
    rw [lsAt_set hips, if_pos rfl, Nat.sub_self]; rfl
  · dsimp only at h1 ⊢
    rw [lsAt_set hips, if_neg (by omega)]; exact hls k h1 h2
  · dsimp only
    rw [svs_set]
    exact rows_set (p := (sv, [(i : Int)])) (objs := [_, _]) hips h
  obtain ⟨k, qs⟩ := x
  dsimp only at hx ⊢
  obtain ⟨hk1, hk2, hql, hqi, hqs, hout2⟩ := hx
  have hiq : i < qs.length := by omega
  have hmi : Ob.row 3 (svAt qs i) (ints (lsAt qs i)) ∈ rowsOb 3 qs := row_mem hiq
  by_cases hlt : i < k
  · have hmk : Ob.row 3 (svAt qs k) (ints (lsAt qs k)) ∈ rowsOb 3 qs := row_mem (by omega)
    have hgk := hqs k (by omega) (by omega)
    have hst : inB F n i (bsT F n (n - (i + 1))) (n - 1 - k + 1) = if F i k = true ∧ (lsAt qs i).length ≤ (lsAt qs k).length + 1 then (i : Int) :: lsAt qs k else lsAt qs i := by
      rw [inB, show n - 1 - (n - 1 - k) = k by omega, hqi, hgk]
    have hbk : (lsAt qs k).length ≤ 8 := by rw [hgk]; have := bsT_len (F := F) (n := n) (i := i) (k := k) (by omega) (by omega) (by omega); omega
    have hbi : (lsAt qs i).length ≤ 8 := by rw [hqi]; have := inB_len (F := F) (n := n) (i := i) (j := n - 1 - k) (by omega) (by omega); omega
    repeat' (first | apply pwp_seq | apply pwp_region | (apply px_run; (first | (apply opv_move; first | exact hid_int rfl | exact hid_bool rfl | rfl) | (apply opv_assign; first | exact hid_int rfl) | (apply opv_gtr <;> rfl) | (apply opv_geq <;> rfl) | (apply opv_pick_t <;> rfl) | (apply opv_pick_f <;> rfl) | (apply opv_add_in; rfl; rfl; omega) | (apply opv_sub_in; rfl; rfl; omega) | (apply opv_len_ints el_int; rfl; (first | exact rd_mem (by repeat (first | assumption | apply List.mem_cons_of_mem)))) | (apply opv_load_svs sc_ints; rfl; (first | exact rd_row 0 rfl | exact rd_row 1 rfl); omega) | (apply opv_index_nat (vs := svsOf _) el_intss; rfl; rfl; (first | exact rd_row 0 rfl | exact rd_row 1 rfl); (simp only [svsOf_length]; omega)) | (apply opv_callx; rfl; rfl; exact Cl.stable _ _ _; exact fun w hw => hp i k w (by omega) (by omega) hw.below)); rfl; rfl) | apply px_nil | (apply px_skip; rfl; rfl) | apply qseq_normal | apply pwp_block | apply qblock_normal | apply pwp_skip | (apply pwp_cond_f; rfl) | (apply pwp_region_mix; kernel_rfl; decide +kernel; exact Cl.stable _ _ _) | (apply px_guard; rfl; rfl; rfl; all_goals (intro hc; (first | (fail_if_success (cases hc); try (first | fail))))) | (apply pwp_cond_dec; rfl; all_goals (intro hc; try (first | (exfalso; omega)))) | (apply px_lit1 ez_int; rfl; (intro w hw; (first | rfl)); rfl; rfl; rfl; intro sv) | (apply px_store_row 1; (first | with_reducible exact co_ints); rfl; rfl; rfl; (intro w hw; (first | exact stor_row 0 hw rfl)); (simp [ints]; omega); rfl) | (apply px_append 0 ez_int; rfl; rfl; rfl; (first | exact rd_mem (by repeat (first | assumption | apply List.mem_cons_of_mem))); (first | exact fun _ _ => stor_ints); (simp [ints]; omega); decide; rfl; rfl; intro sv))
    · refine qround_normal ?_ ⟨(k - 1, qs.set i (sv, (i : Int) :: lsAt qs k)), ⟨by show Value.int .i64 _ = .int .i64 _; congr 1; omega, trivial⟩, ⟨by dsimp only; omega, by dsimp only; omega, by dsimp only; rw [List.length_set]; exact hql, ?_, fun x h1 h2 => ?_, outAt_set hout2 (Nat.lt_succ_self i)⟩, by dsimp only; omega, fun w' h => ?_⟩
      · repeat (first | exact same_refl | refine same_upd rfl ?_ | refine same_junk rfl ?_)
      · dsimp only
        rw [lsAt_set hiq, if_pos rfl, show n - 1 - (k - 1) = n - 1 - k + 1 by omega, hst, if_pos ⟨by assumption, by omega⟩]
      · dsimp only
        rw [lsAt_set hiq, if_neg (by omega)]; exact hqs x h1 h2
      · dsimp only
        rw [svs_set]
        exact rows_set (p := (sv, (i : Int) :: lsAt qs k)) (objs := [_, _]) hiq h
    all_goals
      refine qround_normal ?_ ⟨(k - 1, qs), ⟨by show Value.int .i64 _ = .int .i64 _; congr 1; omega, trivial⟩, ⟨by dsimp only; omega, by dsimp only; omega, hql, ?_, hqs, hout2⟩, by dsimp only; omega, fun w' h => h⟩
      · repeat (first | exact same_refl | refine same_upd rfl ?_ | refine same_junk rfl ?_)
      · dsimp only
        rw [show n - 1 - (k - 1) = n - 1 - k + 1 by omega, hst, if_neg (by first | (intro h; omega) | (intro h; exact absurd h.1 (by simp_all)))]
  · obtain rfl : k = i := by omega
    have hmo : Ob.row 3 so (ints (ouT F n (n - (k + 1)))) ∈ .row 3 so0 (ints []) :: rowsOb 3 qs := outAt_mem hout2
    have e2 : n - 1 - (n - (k + 1)) = k := by omega
    have e3 : n - k = n - (k + 1) + 1 := by omega
    have hbi : lsAt qs k = bsT F n (n - k) k := by
      rw [e3]; have := bsT_new (F := F) (n := n) (t := n - (k + 1)); rw [e2] at this; rw [this, hqi]; congr 1; omega
    have hou : ouT F n (n - k) = if (ouT F n (n - (k + 1))).length ≤ (lsAt qs k).length then lsAt qs k else ouT F n (n - (k + 1)) := by
      rw [hbi, e3, ouT, e2]
    have hbs : ∀ x, k ≤ x → x < n → lsAt qs x = bsT F n (n - k) x := fun x h1 h2 => by
      by_cases hx : x = k
      · subst hx; exact hbi
      · rw [hqs x (by omega) h2, e3, bsT_keep (by omega)]
    repeat' (first | apply pwp_seq | apply pwp_region | (apply px_run; (first | (apply opv_move; first | exact hid_int rfl | rfl) | (apply opv_assign; first | exact hid_int rfl | rfl) | (apply opv_gtr <;> rfl) | (apply opv_geq <;> rfl) | (apply opv_sub_in; rfl; rfl; omega) | (apply opv_len_ints el_int; rfl; (first | exact rd_mem (by repeat (first | assumption | apply List.mem_cons_of_mem)))) | (apply opv_load_svs sc_ints; rfl; (first | exact rd_row 0 rfl); omega) | (apply opv_index_nat (vs := svsOf _) el_intss; rfl; rfl; (first | exact rd_row 0 rfl); (simp only [svsOf_length]; omega))); rfl; rfl) | apply px_nil | apply qseq_normal | apply qseq_exit | apply qblock_normal | (apply qblock_exit_same; rfl) | apply pwp_skip | apply pwp_exit | apply qround_exit | (apply pwp_cond_dec; rfl; all_goals (intro hc; try (first | (exfalso; omega)))))
    · refine qround_normal ?_ ⟨(k, svAt qs k, qs), ⟨rfl, rfl, trivial⟩, ⟨by dsimp only; omega, hql, hbs, ?_⟩, by dsimp only; omega, fun w' h => h⟩
      · repeat (first | exact same_refl | refine same_upd rfl ?_ | refine same_junk rfl ?_)
      · dsimp only
        rw [hou, if_pos (by omega)]
        exact .inr ⟨k, Nat.le_refl _, hiq, rfl, rfl⟩
    · refine qround_normal ?_ ⟨(k, so, qs), ⟨rfl, rfl, trivial⟩, ⟨by dsimp only; omega, hql, hbs, ?_⟩, by dsimp only; omega, fun w' h => h⟩
      · repeat (first | exact same_refl | refine same_upd rfl ?_ | refine same_junk rfl ?_)
      · dsimp only
        rw [hou, if_neg (by omega)]
        rcases hout2 with h | ⟨x, h1, h2⟩
        · exact .inl h
        · exact .inr ⟨x, by omega, h2⟩
theorem en_i_LongestDecreasing_1 : Entry Tryz.prog 52 := ⟨_, Tryz.func52, by kernel_rfl, rfl⟩
theorem i_LongestDecreasing_1_c (lv : Value) (l : List Int) (b v u : Nat) (w : World) (hl : Arr w lv (ints l)) (hb : Bk w b [lv]) (hv : v < l.length) (hu : u < l.length) :
    Pure Tryz.prog 52 #[.int .i64 v, .int .i64 u, .pointer (some ⟨b, 0, none⟩)] w (.bool (fallF l v u)) := by
  refine pure_enter (args := [_, _, _]) en_i_LongestDecreasing_1 Tryz.func52 rfl Tryz.ntmps52 rfl ?_
  unfold fallF
  repeat' (first | apply pwp_seq | apply pwp_region | (apply px_run; (first | (apply opv_move; first | exact hid_int rfl) | (apply opv_assign; first | exact hid_bool rfl) | (apply opv_lss <;> rfl) | (apply opv_load_ints sc_int; rfl; (first | exact rd_old (by assumption)); (first | omega)) | (apply opv_index_nat (vs := ints _) el_int; rfl; rfl; (first | exact rd_old (by assumption)); (first | (simp only [ints_length]; omega))) | (apply opv_load_old; (first | with_reducible exact sc_ints); rfl; assumption; rfl)); rfl; rfl) | apply px_nil | apply qseq_normal | apply pwp_ret | (apply pwp_region_mix; kernel_rfl; decide +kernel; exact Cl.stable _ _ _))
  refine qbody_ret1 (v := .bool _) rfl rfl ⟨rfl, fun _ h => h.below⟩
theorem en_i_LongestIncreasing_1 : Entry Tryz.prog 53 := ⟨_, Tryz.func53, by kernel_rfl, rfl⟩
theorem i_LongestIncreasing_1_c (lv : Value) (l : List Int) (b v u : Nat) (w : World) (hl : Arr w lv (ints l)) (hb : Bk w b [lv]) (hv : v < l.length) (hu : u < l.length) :
    Pure Tryz.prog 53 #[.int .i64 v, .int .i64 u, .pointer (some ⟨b, 0, none⟩)] w (.bool (riseF l v u)) := by
  refine pure_enter (args := [_, _, _]) en_i_LongestIncreasing_1 Tryz.func53 rfl Tryz.ntmps53 rfl ?_
  unfold riseF
  repeat' (first | apply pwp_seq | apply pwp_region | (apply px_run; (first | (apply opv_move; first | exact hid_int rfl) | (apply opv_assign; first | exact hid_bool rfl) | (apply opv_gtr <;> rfl) | (apply opv_load_ints sc_int; rfl; (first | exact rd_old (by assumption)); (first | omega)) | (apply opv_index_nat (vs := ints _) el_int; rfl; rfl; (first | exact rd_old (by assumption)); (first | (simp only [ints_length]; omega))) | (apply opv_load_old; (first | with_reducible exact sc_ints); rfl; assumption; rfl)); rfl; rfl) | apply px_nil | apply qseq_normal | apply pwp_ret | (apply pwp_region_mix; kernel_rfl; decide +kernel; exact Cl.stable _ _ _))
  refine qbody_ret1 (v := .bool _) rfl rfl ⟨rfl, fun _ h => h.below⟩
theorem en_i_LongestDecreasing : Entry Tryz.prog 16 := ⟨_, Tryz.func16, by kernel_rfl, rfl⟩
theorem i_LongestDecreasing_c (pv : Value) (p : List Int) (w : World) (hp : Arr w pv (ints p)) :
    Gives Tryz.prog 16 #[pv] w (fun v objs => objs = [.row 3 v (ints (loL fallF p))]) := by
  refine gives_enter (args := [_]) en_i_LongestDecreasing Tryz.func16 rfl Tryz.ntmps16 rfl ?_
  have hlen := hp.len
  by_cases hok : permP p
  case neg =>
    have f2 : loL fallF p = [] := if_neg hok
    repeat' (first | apply pwp_seq | apply pwp_region | (apply px_run; (first | (apply opv_assign; first | rfl) | (apply opv_not_dec <;> rfl) | (apply opv_load_blk 0; (first | with_reducible exact sc_ints); rfl; rfl; rfl) | (apply opv_call; rfl; rfl; exact Cl.stable _ _ _; exact fun w hw => i_IsPermutation_c _ p _ (by first | exact hw.arr (by assumption)))); rfl; rfl) | apply px_nil | apply qseq_normal | apply qseq_ret | apply pwp_ret | (apply pwp_cond_ndec; rfl; all_goals (intro hc; try (first | contradiction))) | (apply px_box1; rfl; (intro w hw; (first | exact stor_arr (by assumption))); rfl; rfl; rfl; intro bk))
    refine qbody_ret1 rfl rfl ⟨_, rfl, fun w' h => ?_⟩
    rw [f2]
    exact (h.sub (List.nil_sublist _)).nilRow _
  have l1 : 1 ≤ p.length := by have := hok.1; omega
  have l7 : p.length ≤ 7 := by have := hok.1; omega
  have f2 : loL fallF p = ouT (fallF p) p.length p.length := if_pos hok
  repeat' (first | apply pwp_seq | apply pwp_region | (apply px_run; (first | (apply opv_assign; first | rfl) | (apply opv_not_dec <;> rfl) | (apply opv_load_blk 0; (first | with_reducible exact sc_ints); rfl; rfl; rfl) | (apply opv_len_ints el_int; rfl; (first | exact rd_old (by assumption))) | (apply opv_make_func; rfl) | (apply opv_call; rfl; rfl; exact Cl.stable _ _ _; exact fun w hw => i_IsPermutation_c _ p _ (by first | exact hw.arr (by assumption)))); rfl; rfl) | apply px_nil | apply qseq_normal | apply pwp_skip | apply pwp_ret | (apply pwp_cond_ndec; rfl; all_goals (intro hc; try (first | contradiction))) | (apply px_box1; rfl; (intro w hw; (first | exact stor_arr (by assumption))); rfl; rfl; rfl; intro bk) | (apply px_gives; rfl; rfl; rfl; rfl; rfl; exact fun w hw => i_longest_c p.length _ _ (fallF p) _ l1 l7 (fun v u w' hv hu hb => i_LongestDecreasing_1_c _ p _ v u w' (Arr.below (by first | exact hw.arr (by assumption)) hb) (Bk.below (hw.bk (k := 0) rfl) hb) (by omega) hu); rintro sq _ rfl))
  refine qbody_ret1 rfl rfl ⟨_, rfl, fun w' h => ?_⟩
  rw [f2]
  exact Cl.sub (by assumption) (by repeat (first | exact List.Sublist.slnil | exact List.Sublist.refl _ | apply List.Sublist.cons_cons | exact List.sublist_append_left _ _ | exact List.sublist_append_right _ _ | apply List.Sublist.cons))
theorem en_i_LongestIncreasing : Entry Tryz.prog 17 := ⟨_, Tryz.func17, by kernel_rfl, rfl⟩
theorem i_LongestIncreasing_c (pv : Value) (p : List Int) (w : World) (hp : Arr w pv (ints p)) :
    Gives Tryz.prog 17 #[pv] w (fun v objs => objs = [.row 3 v (ints (loL riseF p))]) := by
  refine gives_enter (args := [_]) en_i_LongestIncreasing Tryz.func17 rfl Tryz.ntmps17 rfl ?_
  have hlen := hp.len
  by_cases hok : permP p
  case neg =>
    have f2 : loL riseF p = [] := if_neg hok
    repeat' (first | apply pwp_seq | apply pwp_region | (apply px_run; (first | (apply opv_assign; first | rfl) | (apply opv_not_dec <;> rfl) | (apply opv_load_blk 0; (first | with_reducible exact sc_ints); rfl; rfl; rfl) | (apply opv_call; rfl; rfl; exact Cl.stable _ _ _; exact fun w hw => i_IsPermutation_c _ p _ (by first | exact hw.arr (by assumption)))); rfl; rfl) | apply px_nil | apply qseq_normal | apply qseq_ret | apply pwp_ret | (apply pwp_cond_ndec; rfl; all_goals (intro hc; try (first | contradiction))) | (apply px_box1; rfl; (intro w hw; (first | exact stor_arr (by assumption))); rfl; rfl; rfl; intro bk))
    refine qbody_ret1 rfl rfl ⟨_, rfl, fun w' h => ?_⟩
    rw [f2]
    exact (h.sub (List.nil_sublist _)).nilRow _
  have l1 : 1 ≤ p.length := by have := hok.1; omega
  have l7 : p.length ≤ 7 := by have := hok.1; omega
  have f2 : loL riseF p = ouT (riseF p) p.length p.length := if_pos hok
  repeat' (first | apply pwp_seq | apply pwp_region | (apply px_run; (first | (apply opv_assign; first | rfl) | (apply opv_not_dec <;> rfl) | (apply opv_load_blk 0; (first | with_reducible exact sc_ints); rfl; rfl; rfl) | (apply opv_len_ints el_int; rfl; (first | exact rd_old (by assumption))) | (apply opv_make_func; rfl) | (apply opv_call; rfl; rfl; exact Cl.stable _ _ _; exact fun w hw => i_IsPermutation_c _ p _ (by first | exact hw.arr (by assumption)))); rfl; rfl) | apply px_nil | apply qseq_normal | apply pwp_skip | apply pwp_ret | (apply pwp_cond_ndec; rfl; all_goals (intro hc; try (first | contradiction))) | (apply px_box1; rfl; (intro w hw; (first | exact stor_arr (by assumption))); rfl; rfl; rfl; intro bk) | (apply px_gives; rfl; rfl; rfl; rfl; rfl; exact fun w hw => i_longest_c p.length _ _ (riseF p) _ l1 l7 (fun v u w' hv hu hb => i_LongestIncreasing_1_c _ p _ v u w' (Arr.below (by first | exact hw.arr (by assumption)) hb) (Bk.below (hw.bk (k := 0) rfl) hb) (by omega) hu); rintro sq _ rfl))
  refine qbody_ret1 rfl rfl ⟨_, rfl, fun w' h => ?_⟩
  rw [f2]
  exact Cl.sub (by assumption) (by repeat (first | exact List.Sublist.slnil | exact List.Sublist.refl _ | apply List.Sublist.cons_cons | exact List.sublist_append_left _ _ | exact List.sublist_append_right _ _ | apply List.Sublist.cons))
theorem en_s_l14Less : Entry Tryz.prog 83 := ⟨_, Tryz.func83, by kernel_rfl, rfl⟩
set_option maxHeartbeats 800000 in
theorem s_l14Less_c (sa sb : Value) (a b : List Int) (w : World) (ha : Arr w sa (ints a)) (hb : Arr w sb (ints b)) :
    Pure Tryz.prog 83 #[sa, sb] w (.bool (lessL a b)) := by
  refine pure_enter (args := [_, _]) en_s_l14Less Tryz.func83 rfl Tryz.ntmps83 rfl ?_
  have h1 := ha.len
  have h2 := hb.len
  repeat' (first | apply pwp_seq | apply pwp_region | (apply px_run; (first | (apply opv_assign; first | exact hid_int rfl | exact hid_bool rfl)); rfl; rfl) | apply px_nil | apply qseq_normal | apply pwp_block)
  refine pwp_loop (τ := Nat) [(4,35)] (fun k => [(5, .int .i64 (k : Int))]) (fun _ => Cl [] w []) (fun k => k ≤ a.length ∧ k ≤ b.length ∧ lessL a b = lessL (a.drop k) (b.drop k)) (fun k => a.length - k) 0
    ⟨rfl, trivial⟩ ⟨Nat.zero_le _, Nat.zero_le _, rfl⟩ (fun _ h => h) (fun J k hk => ?_)
  obtain ⟨hk1, hk2, he⟩ := hk
  rw [he]
  by_cases hla : k < a.length
  · by_cases hlb : k < b.length
    · have e : lessL (a.drop k) (b.drop k) = if a.getD k 0 = b.getD k 0 then lessL (a.drop (k + 1)) (b.drop (k + 1)) else decide (a.getD k 0 < b.getD k 0) := by
        rw [drop_cons hla, drop_cons hlb, lessL]
      repeat' (first | apply pwp_seq | apply pwp_region | (apply px_run; (first | (apply opv_move; first | exact hid_int rfl | exact hid_bool rfl | rfl) | (apply opv_assign; first | exact hid_int rfl | exact hid_bool rfl) | (apply opv_lss <;> rfl) | (apply opv_neq <;> rfl) | (apply opv_pick_t <;> rfl) | (apply opv_add_in; rfl; rfl; omega) | (apply opv_load_ints sc_int; rfl; (first | exact rd_old (by assumption)); (first | omega)) | (apply opv_index_nat (vs := ints _) el_int; rfl; rfl; (first | exact rd_old (by assumption)); (first | (simp only [ints_length]; omega))) | (apply opv_len_ints el_int; rfl; (first | exact rd_old (by assumption)))); rfl; rfl) | apply px_nil | apply qseq_normal | apply qseq_ret | apply pwp_block | apply qblock_normal | apply qblock_ret | apply pwp_skip | apply pwp_ret | apply qround_ret | (apply pwp_region_mix; kernel_rfl; decide +kernel; exact Cl.stable _ _ _) | (apply px_guard_dec; rfl; rfl; rfl; all_goals (intro hc; try (first | (exfalso; omega)))) | (apply pwp_cond_ndec; rfl; all_goals (intro hc; try (first | fail))) | (apply pwp_cond_dec; rfl; all_goals (intro hc; try (first | (exfalso; omega)))))
      · refine qbody_ret1 (v := .bool _) rfl rfl ⟨?_, fun _ h => h.below⟩
        rw [e, if_neg hc]
      · refine qround_normal ?_ ⟨k + 1, ⟨rfl, trivial⟩, ⟨by omega, by omega, ?_⟩, by omega, fun _ h => h⟩
        · repeat (first | exact same_refl | refine same_upd rfl ?_ | refine same_junk rfl ?_)
        · rw [e, if_pos hc]
    · have e : lessL (a.drop k) (b.drop k) = false := by
        rw [List.drop_of_length_le (by omega : b.length ≤ k), drop_cons hla]; rfl
      rw [e]
      repeat' (first | apply pwp_seq | apply pwp_region | (apply px_run; (first | (apply opv_move; first | exact hid_int rfl | exact hid_bool rfl | rfl) | (apply opv_assign; first | exact hid_bool rfl) | (apply opv_lss <;> rfl) | (apply opv_pick_t <;> rfl) | (apply opv_len_ints el_int; rfl; (first | exact rd_old (by assumption)))); rfl; rfl) | apply px_nil | apply qseq_normal | apply qseq_exit | (apply qblock_exit_same; rfl) | apply pwp_exit | apply pwp_ret | apply qround_exit | (apply px_guard_dec; rfl; rfl; rfl; all_goals (intro hc; try (first | (exfalso; omega)))) | (apply pwp_cond_dec; rfl; all_goals (intro hc; try (first | (exfalso; omega)))))
      refine qbody_ret1 (v := .bool _) rfl rfl ⟨by congr 1; exact decide_eq_false (by omega), fun _ h => h.below⟩
  · have e : lessL (a.drop k) (b.drop k) = decide (a.length < b.length) := by
      rw [List.drop_of_length_le (by omega : a.length ≤ k)]
      by_cases hlb : k < b.length
      · rw [drop_cons hlb, decide_eq_true (by omega)]; rfl
      · rw [List.drop_of_length_le (by omega : b.length ≤ k), decide_eq_false (by omega)]; rfl
    rw [e]
    repeat' (first | apply pwp_seq | apply pwp_region | (apply px_run; (first | (apply opv_move; first | exact hid_int rfl | exact hid_bool rfl | rfl) | (apply opv_assign; first | exact hid_bool rfl) | (apply opv_lss <;> rfl) | (apply opv_pick_f <;> rfl) | (apply opv_len_ints el_int; rfl; (first | exact rd_old (by assumption)))); rfl; rfl) | apply px_nil | (apply px_skip; rfl; rfl) | apply qseq_normal | apply qseq_exit | (apply qblock_exit_same; rfl) | apply pwp_exit | apply pwp_ret | apply qround_exit | (apply pwp_cond_f; rfl) | (apply px_guard_dec; rfl; rfl; rfl; all_goals (intro hc; try (first | (exfalso; omega)))))
    refine qbody_ret1 (v := .bool _) rfl rfl ⟨by congr 1; exact decide_eq_decide.2 (by omega), fun _ h => h.below⟩
theorem en_s_l14Longest : Entry Tryz.prog 54 := ⟨_, Tryz.func54, by kernel_rfl, rfl⟩
set_option maxRecDepth 100000 in
set_option maxHeartbeats 3200000 in
theorem s_l14Longest_c (pv : Value) (p : List Int) (fal : Bool) (w : World) (hp : Arr w pv (ints p)) (hok : permP p) :
    Gives Tryz.prog 54 #[pv, .bool fal] w (fun v objs => objs = [.row 3 v (ints (lspB (spF p fal) (2 ^ p.length)))]) := by
  refine gives_enter (args := [_, _]) en_s_l14Longest Tryz.func54 rfl Tryz.ntmps54 rfl ?_
  have l1 : 1 ≤ p.length := by have := hok.1; omega
  have l7 : p.length ≤ 7 := by have := hok.1; omega
  have h7 : 2 ^ p.length ≤ 2 ^ 7 := Nat.pow_le_pow_right (by omega) l7
  have hN : ishl 1 (p.length : Int) = ((2 ^ p.length : Nat) : Int) := ishl_one_nat (by omega)
  have hb0 : lspB (spF p fal) 1 = [] := by unfold lspB; rw [if_neg (fun h => Nat.lt_irrefl _ h.1)]; rfl
  have hpos := Nat.two_pow_pos p.length
  generalize hPN : 2 ^ p.length = N at *
  repeat' (first | apply pwp_seq | apply pwp_region | (apply px_run; (first | (apply opv_assign; first | exact hid_int rfl | rfl)); rfl; rfl) | apply px_nil | apply qseq_normal | apply pwp_block | (apply px_lit0i ez_int; rfl; rfl; rfl; intro sv))
  refine pwp_loop (τ := Nat × Value) [(5,9), (11,67)] (fun x => [(6, .int .i64 (x.1 : Int)), (5, x.2)]) (fun x => Cl [] w [.row 3 x.2 (ints (lspB (spF p fal) x.1))]) (fun x => 1 ≤ x.1 ∧ x.1 ≤ N) (fun x => N - x.1) (1, sv)
    ⟨rfl, rfl, trivial⟩ ⟨Nat.le_refl _, hpos⟩ (fun _ h => by dsimp only; rw [hb0]; exact h) (fun J x hx => ?_)
  obtain ⟨s, so⟩ := x
  dsimp only at hx ⊢
  obtain ⟨hs1, hsN⟩ := hx
  have hblen : (lspB (spF p fal) s).length ≤ 7 := by
    rcases (lspB_spec (spF p fal) s).1 with h | ⟨x, _, _, _, h⟩
    · rw [h]; simp
    · rw [h]; exact listS_length _
  by_cases hlt : s < N
  · have hst : lspB (spF p fal) (s + 1) = if 0 < s ∧ adjF (spF p fal) (listS (s : Nat)) ∧ bet (listS (s : Nat)) (lspB (spF p fal) s) then listS (s : Nat) else lspB (spF p fal) s := rfl
    have hLr : ∀ i, i < (listS (s : Int)).length → 0 ≤ (listS (s : Int)).getD i 0 ∧ (listS (s : Int)).getD i 0 < p.length := fun i hi => by
      obtain ⟨_, v, hv, _, hb⟩ := mem_listS.1 (getD_mem hi)
      rw [hasB_nat (by omega) (by omega)] at hb
      have := has_lt (n := p.length) (by omega) hb
      omega
    have hLl := listS_length (s : Int)
    repeat' (first | apply pwp_seq | apply pwp_region | (apply px_run; (first | (apply opv_move; first | exact hid_int rfl | rfl) | (apply opv_assign; first | exact hid_int rfl | exact hid_bool rfl | rfl) | (apply opv_lss <;> rfl) | (apply opv_shl; rfl; rfl; omega) | (apply opv_len_ints el_int; rfl; (first | exact rd_old (by assumption)))); rfl; rfl) | apply px_nil | apply qseq_normal | apply pwp_block | apply pwp_skip | (apply pwp_cond_dec; rfl; all_goals (intro hc; try (first | (exfalso; omega)))) | (apply px_gives; rfl; rfl; rfl; rfl; rfl; exact fun w hw => s_ListOf_c _ _; rintro sl _ rfl))
    generalize listS (s : Int) = L at *
    generalize lspB (spF p fal) s = B at *
    refine pwp_loop (τ := Nat × Bool) [(8,9), (20,46)] (fun x => [(9, .int .i64 ((x.1 : Int) + 1)), (8, .bool x.2)]) (fun x => Cl [] w [.row 3 sl (ints L), .row 3 so (ints B)])
      (fun x => x.1 ≤ 7 ∧ (x.2 = true → ∀ j, j < x.1 → j + 1 < L.length ∧ spF p fal (L.getD j 0).toNat (L.getD (j + 1) 0).toNat = true) ∧ (x.2 = false → ¬ adjF (spF p fal) L)) (fun x => 8 - x.1) (0, true)
      ⟨rfl, rfl, trivial⟩ ⟨by omega, fun _ j hj => by dsimp only at hj; omega, fun h => by cases h⟩ (fun _ h => h) (fun J2 x hx => ?_)
    obtain ⟨k, b⟩ := x
    dsimp only at hx ⊢
    obtain ⟨hk7, hbt, hbf⟩ := hx
    by_cases hgo : k + 1 < L.length ∧ b = true
    · obtain ⟨hkl, rfl⟩ := hgo
      have e1 : ((k : Int) + 1 - 1).toNat = k := by omega
      have r1 := hLr k (by omega)
      have r2 := hLr (k + 1) (by omega)
      rw [← e1] at r1
      repeat' (first | apply pwp_seq | apply pwp_region | (apply px_run; (first | (apply opv_move; first | exact hid_int rfl | exact hid_bool rfl | rfl) | (apply opv_assign; first | exact hid_int rfl | exact hid_bool rfl) | (apply opv_lss <;> rfl) | (apply opv_gtr <;> rfl) | (apply opv_pick_t <;> rfl) | (apply opv_add_in; rfl; rfl; omega) | (apply opv_sub_in; rfl; rfl; omega) | (apply opv_load_ints sc_int; rfl; (first | exact rd_old (by assumption) | exact rd_row 0 rfl); (first | omega)) | (apply opv_index_nat (k := (k+1)) (vs := ints _) el_int; rfl; rfl; (first | exact rd_row 0 rfl); (first | (simp only [ints_length]; first | omega))) | (apply opv_index (vs := ints _) el_int; rfl; rfl; (first | exact rd_old (by assumption) | exact rd_row 0 rfl); omega; (first | (simp only [ints_length]; omega))) | (apply opv_len_ints el_int; rfl; (first | exact rd_row 0 rfl)) | (apply opv_eql_bool ty_bool <;> rfl)); rfl; rfl) | apply px_nil | apply qseq_normal | apply pwp_block | apply qblock_normal | apply pwp_skip | (apply pwp_cond_t; rfl) | (apply pwp_region_mix; kernel_rfl; decide +kernel; exact Cl.stable _ _ _) | (apply px_guard_dec; rfl; rfl; rfl; all_goals (intro hc; try (first | (exfalso; omega)))))
      refine qround_normal ?_ ⟨(k + 1, spF p fal (L.getD k 0).toNat (L.getD (k + 1) 0).toNat), ⟨rfl, ?_, trivial⟩, ⟨by dsimp only; omega, fun h j hj => ?_, fun h => ?_⟩, by dsimp only; omega, fun _ h => h⟩
      · repeat (first | exact same_refl | refine same_upd rfl ?_ | refine same_junk rfl ?_)
      · show Value.bool (decide (p.getD (L.getD (k + 1) 0).toNat 0 < p.getD (L.getD ((k : Int) + 1 - 1).toNat 0).toNat 0) == fal) = Value.bool _
        unfold spF; rw [e1]
      · by_cases hjk : j < k
        · exact hbt rfl j hjk
        · obtain rfl : j = k := by dsimp only at hj; omega
          exact ⟨hkl, h⟩
      · dsimp only at h
        intro ha
        rw [ha k hkl] at h; cases h
    · have fin : (b = true ∧ bet L B ↔ 0 < s ∧ adjF (spF p fal) L ∧ bet L B) := by
        constructor
        · rintro ⟨rfl, h⟩
          exact ⟨by omega, fun i hi => (hbt rfl i (by have : ¬ k + 1 < L.length := fun h => hgo ⟨h, rfl⟩; omega)).2, h⟩
        · rintro ⟨_, h2, h3⟩
          refine ⟨?_, h3⟩
          cases b with
          | true => rfl
          | false => exact absurd h2 (hbf rfl)
      cases b with
      | false =>
        have hno : ¬ (0 < s ∧ adjF (spF p fal) L ∧ bet L B) := fun h => by have := (fin.2 h).1; cases this
        repeat' (first | apply pwp_seq | apply pwp_region | (apply px_run; (first | (apply opv_move; first | exact hid_int rfl | exact hid_bool rfl | rfl) | (apply opv_assign; first | exact hid_int rfl) | (apply opv_lss <;> rfl) | (apply opv_pick_t <;> rfl) | (apply opv_pick_f <;> rfl) | (apply opv_add_in; rfl; rfl; omega) | (apply opv_len_ints el_int; rfl; (first | exact rd_row 0 rfl))); rfl; rfl) | apply px_nil | (apply px_skip; rfl; rfl) | apply qseq_normal | apply qseq_exit | apply qblock_normal | (apply qblock_exit_same; rfl) | apply pwp_skip | apply pwp_exit | apply qround_exit | (apply pwp_cond_f; rfl) | (apply px_guard_dec; rfl; rfl; rfl; all_goals (intro hc; try (first | fail))))
        all_goals (
          refine qround_normal ?_ ⟨(s + 1, so), ⟨rfl, rfl, trivial⟩, ⟨by dsimp only; omega, by dsimp only; omega⟩, by dsimp only; omega, fun w' h => ?_⟩
          · repeat (first | exact same_refl | refine same_upd rfl ?_ | refine same_junk rfl ?_)
          · dsimp only
            rw [hst, if_neg hno]
            exact Cl.sub (by assumption) (by repeat (first | exact List.Sublist.slnil | exact List.Sublist.refl _ | apply List.Sublist.cons_cons | exact List.sublist_append_left _ _ | exact List.sublist_append_right _ _ | apply List.Sublist.cons)))
      | true =>
        have hkl : ¬ k + 1 < L.length := fun h => hgo ⟨h, rfl⟩
        have hbe : bet L B ↔ B.length < L.length ∨ (L.length = B.length ∧ lessL L B = true) := Iff.rfl
        repeat' (first | apply pwp_seq | apply pwp_region | (apply px_run; (first | (apply opv_move; first | exact hid_int rfl | exact hid_bool rfl | rfl) | (apply opv_assign; first | exact hid_int rfl | rfl) | (apply opv_lss <;> rfl) | (apply opv_gtr <;> rfl) | (apply opv_eql <;> rfl) | (apply opv_pick_t <;> rfl) | (apply opv_pick_f <;> rfl) | (apply opv_add_in; rfl; rfl; omega) | (apply opv_len_ints el_int; rfl; (first | exact rd_row 0 rfl | exact rd_row 1 rfl)) | (apply opv_call; rfl; rfl; exact Cl.stable _ _ _; exact fun w hw => s_l14Less_c _ _ L B _ (by first | exact hw.rowArr (k := 0) rfl) (by first | exact hw.rowArr (k := 1) rfl))); rfl; rfl) | apply px_nil | (apply px_skip; rfl; rfl) | apply qseq_normal | apply qseq_exit | apply qblock_normal | (apply qblock_exit_same; rfl) | apply pwp_skip | apply pwp_exit | apply qround_exit | (apply pwp_cond_t; rfl) | (apply pwp_cond_f; rfl) | (apply px_guard_dec; rfl; rfl; rfl; all_goals (intro hc; try (first | (exfalso; omega)))) | (apply pwp_cond; rfl; all_goals (intro hc; try (first | fail))))
        all_goals first
          | (have hb : bet L B := hbe.2 (by first | exact .inl (by omega) | exact .inr ⟨by omega, by assumption⟩)
             refine qround_normal ?_ ⟨(s + 1, sl), ⟨rfl, rfl, trivial⟩, ⟨by dsimp only; omega, by dsimp only; omega⟩, by dsimp only; omega, fun w' h => ?_⟩
             · repeat (first | exact same_refl | refine same_upd rfl ?_ | refine same_junk rfl ?_)
             · dsimp only
               rw [hst, if_pos (fin.1 ⟨rfl, hb⟩)]
               exact Cl.sub (by assumption) (by repeat (first | exact List.Sublist.slnil | exact List.Sublist.refl _ | apply List.Sublist.cons_cons | exact List.sublist_append_left _ _ | exact List.sublist_append_right _ _ | apply List.Sublist.cons)))
          | (have hb : ¬ bet L B := fun h => by
               rcases hbe.1 h with h | ⟨h1, h2⟩
               · omega
               · first | omega | (simp_all; done)
             refine qround_normal ?_ ⟨(s + 1, so), ⟨rfl, rfl, trivial⟩, ⟨by dsimp only; omega, by dsimp only; omega⟩, by dsimp only; omega, fun w' h => ?_⟩
             · repeat (first | exact same_refl | refine same_upd rfl ?_ | refine same_junk rfl ?_)
             · dsimp only
               rw [hst, if_neg (fun h => hb (fin.2 h).2)]
               exact Cl.sub (by assumption) (by repeat (first | exact List.Sublist.slnil | exact List.Sublist.refl _ | apply List.Sublist.cons_cons | exact List.sublist_append_left _ _ | exact List.sublist_append_right _ _ | apply List.Sublist.cons)))
  · obtain rfl : s = N := by omega
    repeat' (first | apply pwp_seq | apply pwp_region | (apply px_run; (first | (apply opv_move; first | exact hid_int rfl | rfl) | (apply opv_assign; first | rfl) | (apply opv_lss <;> rfl) | (apply opv_shl; rfl; rfl; omega) | (apply opv_len_ints el_int; rfl; (first | exact rd_old (by assumption)))); rfl; rfl) | apply px_nil | apply qseq_normal | apply qseq_exit | (apply qblock_exit_same; rfl) | apply pwp_exit | apply pwp_ret | apply qround_exit | (apply pwp_cond_dec; rfl; all_goals (intro hc; try (first | (exfalso; omega)))))
    refine qbody_ret1 rfl rfl ⟨_, rfl, fun w' h => h⟩
theorem en_s_LongestDecreasing : Entry Tryz.prog 19 := ⟨_, Tryz.func19, by kernel_rfl, rfl⟩
theorem s_LongestDecreasing_c (pv : Value) (p : List Int) (w : World) (hp : Arr w pv (ints p)) :
    Gives Tryz.prog 19 #[pv] w (fun v objs => objs = [.row 3 v (ints (loL fallF p))]) := by
  refine gives_enter (args := [_]) en_s_LongestDecreasing Tryz.func19 rfl Tryz.ntmps19 rfl ?_
  by_cases hok : permP p
  · rw [← lspB_fall hok]
    repeat' (first | apply pwp_seq | apply pwp_region | (apply px_run; (first | (apply opv_move; first | rfl) | (apply opv_assign; first | rfl) | (apply opv_not_dec <;> rfl) | (apply opv_call; rfl; rfl; exact Cl.stable _ _ _; exact fun w hw => s_IsPermutation_c _ p _ (by first | exact hw.arr (by assumption)))); rfl; rfl) | apply px_nil | apply qseq_normal | apply pwp_skip | apply pwp_ret | (apply pwp_cond_ndec; rfl; all_goals (intro hc; try (first | contradiction))) | (apply px_gives; rfl; rfl; rfl; rfl; rfl; exact fun w hw => s_l14Longest_c _ p true _ (by first | exact hw.arr (by assumption)) hok; rintro sq _ rfl))
    refine qbody_ret1 rfl rfl ⟨_, rfl, fun w' h => h⟩
  · have f2 : loL fallF p = [] := if_neg hok
    repeat' (first | apply pwp_seq | apply pwp_region | (apply px_run; (first | (apply opv_move; first | rfl) | (apply opv_assign; first | rfl) | (apply opv_not_dec <;> rfl) | (apply opv_call; rfl; rfl; exact Cl.stable _ _ _; exact fun w hw => s_IsPermutation_c _ p _ (by first | exact hw.arr (by assumption)))); rfl; rfl) | apply px_nil | apply qseq_normal | apply qseq_ret | apply pwp_ret | (apply pwp_cond_ndec; rfl; all_goals (intro hc; try (first | contradiction))) | (apply px_lit0 ez_int; rfl; rfl; rfl; intro sv))
    refine qbody_ret1 rfl rfl ⟨_, rfl, fun w' h => ?_⟩
    rw [f2]; exact h
theorem en_s_LongestIncreasing : Entry Tryz.prog 20 := ⟨_, Tryz.func20, by kernel_rfl, rfl⟩
theorem s_LongestIncreasing_c (pv : Value) (p : List Int) (w : World) (hp : Arr w pv (ints p)) :
    Gives Tryz.prog 20 #[pv] w (fun v objs => objs = [.row 3 v (ints (loL riseF p))]) := by
  refine gives_enter (args := [_]) en_s_LongestIncreasing Tryz.func20 rfl Tryz.ntmps20 rfl ?_
  by_cases hok : permP p
  · rw [← lspB_rise hok]
    repeat' (first | apply pwp_seq | apply pwp_region | (apply px_run; (first | (apply opv_move; first | rfl) | (apply opv_assign; first | rfl) | (apply opv_not_dec <;> rfl) | (apply opv_call; rfl; rfl; exact Cl.stable _ _ _; exact fun w hw => s_IsPermutation_c _ p _ (by first | exact hw.arr (by assumption)))); rfl; rfl) | apply px_nil | apply qseq_normal | apply pwp_skip | apply pwp_ret | (apply pwp_cond_ndec; rfl; all_goals (intro hc; try (first | contradiction))) | (apply px_gives; rfl; rfl; rfl; rfl; rfl; exact fun w hw => s_l14Longest_c _ p false _ (by first | exact hw.arr (by assumption)) hok; rintro sq _ rfl))
    refine qbody_ret1 rfl rfl ⟨_, rfl, fun w' h => h⟩
  · have f2 : loL riseF p = [] := if_neg hok
    repeat' (first | apply pwp_seq | apply pwp_region | (apply px_run; (first | (apply opv_move; first | rfl) | (apply opv_assign; first | rfl) | (apply opv_not_dec <;> rfl) | (apply opv_call; rfl; rfl; exact Cl.stable _ _ _; exact fun w hw => s_IsPermutation_c _ p _ (by first | exact hw.arr (by assumption)))); rfl; rfl) | apply px_nil | apply qseq_normal | apply qseq_ret | apply pwp_ret | (apply pwp_cond_ndec; rfl; all_goals (intro hc; try (first | contradiction))) | (apply px_lit0 ez_int; rfl; rfl; rfl; intro sv))
    refine qbody_ret1 rfl rfl ⟨_, rfl, fun w' h => ?_⟩
    rw [f2]; exact h
end Go.Proofs.YtmmflnigejfplaaGreat
