/- Module trees: equality, children, depth. -/
import Derived.Test.YthbhoofhenmbeaaDoorTr
import Derived.Test.YthbhoofhenmbeaaDoorGs
import Derived.Test.YthbhoofhenmbeaaDoorPwPlt
namespace Go.Proofs.YthbhoofhenmbeaaDoor
open Go Go.RowKit Go.Pw

theorem en_i_isBag : Entry Tryd.prog 46 := ⟨_, Tryd.func46, by kernel_rfl, rfl⟩
theorem i_isBag_c (s : Int) (w : World) : Pure Tryd.prog 46 #[.int .i64 s] w (.bool (decide (0 ≤ s ∧ s ≤ 127))) := by
  refine pure_enter (args := [_]) en_i_isBag Tryd.func46 rfl Tryd.ntmps46 rfl ?_
  repeat' (first | apply pwp_seq | apply pwp_region | (apply px_run; (first | (apply opv_move; first | exact hid_int rfl) | (apply opv_assign; first | exact hid_bool rfl) | (apply opv_call; rfl; rfl; exact Cl.stable _ _ _; exact fun w hw => i_within_c _ _ _ _)); rfl; rfl) | apply px_nil | apply qseq_normal | apply pwp_ret)
  refine qbody_ret1 (v := .bool (decide _)) rfl rfl ⟨ret_iff Iff.rfl, fun _ h => h.below⟩
theorem en_s_l16Fine : Entry Tryd.prog 21 := ⟨_, Tryd.func21, by kernel_rfl, rfl⟩
set_option maxHeartbeats 1000000 in
theorem s_l16Fine_c (sa sb sc : Value) (a b c : List Int) (w : World) (ha : Arr w sa (ints a)) (hb : Arr w sb (ints b)) (hd : Arr w sc (ints c)) :
    Pure Tryd.prog 21 #[.agg #[sa, sb, sc]] w (.bool (decide (fineT a b c))) := by
  refine pure_enter (args := [_]) en_s_l16Fine Tryd.func21 rfl Tryd.ntmps21 rfl ?_
  repeat' (first | apply pwp_seq | apply pwp_region | (apply px_run; (first | (apply opv_move; first | exact hid_bool rfl) | (apply opv_assign; first | exact hid_int rfl | exact hid_bool rfl) | (apply opv_neq <;> rfl) | (apply opv_pick_t <;> rfl) | (apply opv_pick_f <;> rfl) | (apply opv_not_dec <;> rfl) | (apply opv_field fld_T0; rfl) | (apply opv_field fld_T1; rfl) | (apply opv_field fld_T2; rfl) | (apply opv_load_blk 0; (first | with_reducible exact sc_int | with_reducible exact sc_ints); rfl; rfl; rfl) | (apply opv_load_ints sc_int; rfl; (first | exact rd_old (by assumption)); (first | omega)) | (apply opv_index_nat (k := 0) (vs := ints _) el_int; rfl; rfl; (first | exact rd_old (by assumption)); (first | (simp only [ints_length]; first | omega))) | (apply opv_len_ints el_int; rfl; (first | exact rd_old (by assumption))) | (apply opv_call; rfl; rfl; exact Cl.stable _ _ _; exact fun w hw => s_l1In_c _ _ _ _)); rfl; rfl) | apply px_nil | (apply px_skip; rfl; rfl) | apply qseq_normal | apply qseq_ret | apply pwp_block | apply pwp_skip | apply pwp_ret | (apply pwp_cond_t; rfl) | (apply px_guard_ndec; rfl; rfl; rfl; all_goals (intro hc; try (first | fail))) | (apply pwp_cond_ndec; rfl; all_goals (intro hc; try (first | fail))) | (apply px_box; rfl; rfl; rfl; rfl; intro bk))
  all_goals try (refine qbody_ret1 (v := .bool _) rfl rfl ⟨ret_false rfl fun h => hc ?_, fun _ h => h.below⟩; first | exact h.1 | exact h.2.1 | exact h.2.2.1 | exact h.2.2.2.1)
  rename_i h1 h2 h3
  have h4 := hc
  clear hc
  refine pwp_loop [(2,3), (34,71)] (fun k : Nat => [(3, .int .i64 (k : Int))]) (fun _ => Cl [] w [.blk bk [sa, sb, sc]]) (fun k => k ≤ a.length ∧ ∀ i, i < k → fineAt a b c i) (fun k => a.length - k) 0
    ⟨rfl, trivial⟩ ⟨Nat.zero_le _, fun i hi => by omega⟩ (fun _ h => h) (fun J k hk => ?_)
  obtain ⟨hk, he⟩ := hk
  by_cases hlt : k < a.length
  · have key : fineT a b c → fineAt a b c k := fun h => h.2.2.2.2 k hlt
    repeat' (first | apply pwp_seq | apply pwp_region | (apply px_run; (first | (apply opv_move; first | exact hid_int rfl | exact hid_bool rfl | rfl) | (apply opv_assign; first | exact hid_int rfl | exact hid_bool rfl) | (apply opv_lss <;> rfl) | (apply opv_gtr <;> rfl) | (apply opv_pick_t <;> rfl) | (apply opv_pick_f <;> rfl) | (apply opv_not_dec <;> rfl) | (apply opv_add_in; rfl; rfl; omega) | (apply opv_sub_in; rfl; rfl; omega) | (apply opv_field fld_T0; rfl) | (apply opv_field fld_T1; rfl) | (apply opv_field fld_T2; rfl) | (apply opv_load_blk 0; (first | with_reducible exact sc_int | with_reducible exact sc_ints); rfl; rfl; rfl) | (apply opv_load_ints sc_int; rfl; (first | exact rd_old (by assumption)); (first | omega)) | (apply opv_index_nat (vs := ints _) el_int; rfl; rfl; (first | exact rd_old (by assumption)); (first | (simp only [ints_length]; omega))) | (apply opv_len_ints el_int; rfl; (first | exact rd_old (by assumption))) | (apply opv_call; rfl; rfl; exact Cl.stable _ _ _; exact fun w hw => s_l1In_c _ _ _ _) | (apply opv_call; rfl; rfl; exact Cl.stable _ _ _; exact fun w hw => s_l3Fine_c _ _)); rfl; rfl) | apply px_nil | (apply px_skip; rfl; rfl) | apply qseq_normal | apply qseq_ret | apply pwp_block | apply qblock_normal | apply qblock_ret | apply pwp_skip | apply pwp_ret | apply qround_ret | (apply pwp_cond_t; rfl) | (apply pwp_cond_f; rfl) | (apply px_guard_ndec; rfl; rfl; rfl; all_goals (intro hc; try (first | fail))) | (apply px_guard_dec; rfl; rfl; rfl; all_goals (intro hc; try (first | fail))) | (apply pwp_cond_ndec; rfl; all_goals (intro hc; try (first | fail))) | (apply pwp_cond_dec; rfl; all_goals (intro hc; try (first | (exfalso; omega)))))
    all_goals try (refine qbody_ret1 (v := .bool _) rfl rfl ⟨ret_false rfl fun h => hc ?_, fun _ h => h.below⟩; first | exact (key h).1 | exact (key h).2.1 | exact (key h).2.2 (by omega))
    all_goals (refine qround_normal ?_ ⟨k + 1, ⟨rfl, trivial⟩, ⟨by omega, fun i hi => ?_⟩, by omega, fun _ h => h⟩)
    all_goals (repeat (first | exact same_refl | refine same_upd rfl ?_ | refine same_junk rfl ?_))
    all_goals
      by_cases hik : i < k
      · exact he i hik
      · obtain rfl : i = k := by omega
        exact ⟨by assumption, by assumption, fun h => by first | assumption | (exfalso; omega)⟩
  · repeat' (first | apply pwp_seq | apply pwp_region | (apply px_run; (first | (apply opv_move; first | exact hid_int rfl) | (apply opv_assign; first | exact hid_bool rfl) | (apply opv_lss <;> rfl) | (apply opv_field fld_T0; rfl) | (apply opv_load_blk 0; (first | with_reducible exact sc_ints); rfl; rfl; rfl) | (apply opv_len_ints el_int; rfl; (first | exact rd_old (by assumption)))); rfl; rfl) | apply px_nil | apply qseq_normal | apply qseq_exit | (apply qblock_exit_same; rfl) | apply pwp_exit | apply pwp_ret | apply qround_exit | (apply pwp_cond_dec; rfl; all_goals (intro hc; try (first | (exfalso; omega)))))
    refine qbody_ret1 (v := .bool _) rfl rfl ⟨ret_true rfl ⟨h1, h2, h3, h4, fun i hi => he i (by omega)⟩, fun _ h => h.below⟩
theorem en_i_DepthOf : Entry Tryd.prog 24 := ⟨_, Tryd.func24, by kernel_rfl, rfl⟩
set_option maxHeartbeats 2000000 in
theorem i_DepthOf_c (sa sb sc : Value) (a b c : List Int) (w : World) (ha : Arr w sa (ints a)) (hb : Arr w sb (ints b)) (hd : Arr w sc (ints c)) :
    Pure Tryd.prog 24 #[.agg #[sa, sb, sc]] w (.int .i64 (depthT a b c)) := by
  refine pure_enter (args := [_]) en_i_DepthOf Tryd.func24 rfl Tryd.ntmps24 rfl ?_
  have neg : ¬ fineT a b c → depthT a b c = -1 := fun h => by rw [depthT, if_neg h]
  repeat' (first | apply pwp_seq | apply pwp_region | (apply px_run; (first | (apply opv_move; first | exact hid_int rfl | exact hid_bool rfl) | (apply opv_assign; first | exact hid_int rfl | rfl) | (apply opv_neq <;> rfl) | (apply opv_pick_t <;> rfl) | (apply opv_pick_f <;> rfl) | (apply opv_not_dec <;> rfl) | (apply opv_field fld_T0; rfl) | (apply opv_field fld_T1; rfl) | (apply opv_field fld_T2; rfl) | (apply opv_load_blk 0; (first | with_reducible exact sc_int | with_reducible exact sc_ints); rfl; rfl; rfl) | (apply opv_load_blk 1; (first | with_reducible exact sc_int | with_reducible exact sc_ints); rfl; rfl; rfl) | (apply opv_load_ints sc_int; rfl; (first | exact rd_old (by assumption)); (first | omega)) | (apply opv_index_nat (k := 0) (vs := ints _) el_int; rfl; rfl; (first | exact rd_old (by assumption)); (first | (simp only [ints_length]; first | omega))) | (apply opv_len_ints el_int; rfl; (first | exact rd_old (by assumption))) | (apply opv_call; rfl; rfl; exact Cl.stable _ _ _; exact fun w hw => i_within_c _ _ _ _)); rfl; rfl) | apply px_nil | (apply px_skip; rfl; rfl) | apply qseq_normal | apply qseq_ret | apply pwp_block | apply pwp_skip | apply pwp_ret | (apply pwp_cond_t; rfl) | (apply px_guard_ndec; rfl; rfl; rfl; all_goals (intro hc; try (first | fail))) | (apply pwp_cond_ndec; rfl; all_goals (intro hc; try (first | fail))) | (apply px_box; rfl; rfl; rfl; rfl; intro bk) | (apply px_lit0 ez_int; rfl; rfl; rfl; intro sv))
  all_goals try (refine qbody_ret1 (v := .int _ _) rfl rfl ⟨by rw [neg fun h => hc (by first | exact h.1 | exact h.2.1 | exact h.2.2.1 | exact h.2.2.2.1)], fun _ h => h.below⟩)
  rename_i h1 h2 h3
  have h4 := hc
  clear hc
  refine pwp_loop (τ := Nat × Value) [(2,2), (4,8), (40,86)] (fun x => [(40, .int .i64 (x.1 : Int)), (4, x.2), (5, .int .i64 (depM c x.1))]) (fun x => Cl [] w [.row 3 x.2 (ints (depL c x.1)), .blk bk [sa, sb, sc]]) (fun x => x.1 ≤ a.length ∧ ∀ i, i < x.1 → fineAt a b c i) (fun x => a.length - x.1) (0, sv)
    ⟨rfl, rfl, rfl, trivial⟩ ⟨Nat.zero_le _, fun i hi => (Nat.not_lt_zero _ hi).elim⟩ (fun _ h => h) (fun J x hk => ?_)
  obtain ⟨k, so⟩ := x
  obtain ⟨hk, he⟩ := hk
  dsimp only at hk he ⊢
  have hll := depL_length c k
  by_cases hlt : k < a.length
  · have key : fineT a b c → fineAt a b c k := fun h => h.2.2.2.2 k hlt
    have hb' := depL_bound (c := c) (k := k) (fun i hi h0 => (he i hi).2.2 h0) (c.getD k 0).toNat
    repeat' (first | apply pwp_seq | apply pwp_region | (apply px_run; (first | (apply opv_move; first | exact hid_int rfl | exact hid_bool rfl | rfl) | (apply opv_assign; first | exact hid_int rfl) | (apply opv_lss <;> rfl) | (apply opv_gtr <;> rfl) | (apply opv_pick_t <;> rfl) | (apply opv_pick_f <;> rfl) | (apply opv_not_dec <;> rfl) | (apply opv_add_in; rfl; rfl; omega) | (apply opv_sub_in; rfl; rfl; omega) | (apply opv_field fld_T0; rfl) | (apply opv_field fld_T1; rfl) | (apply opv_load_blk 1; (first | with_reducible exact sc_int | with_reducible exact sc_ints); rfl; rfl; rfl) | (apply opv_load_ints sc_int; rfl; (first | exact rd_old (by assumption) | exact rd_row 0 rfl); (first | omega)) | (apply opv_index_nat (vs := ints _) el_int; rfl; rfl; (first | exact rd_old (by assumption)); (first | (simp only [ints_length]; omega))) | (apply opv_index (vs := ints _) el_int; rfl; rfl; (first | exact rd_row 0 rfl); omega; (first | (simp only [ints_length]; omega))) | (apply opv_call; rfl; rfl; exact Cl.stable _ _ _; exact fun w hw => i_within_c _ _ _ _) | (apply opv_call; rfl; rfl; exact Cl.stable _ _ _; exact fun w hw => i_isBag_c _ _)); rfl; rfl) | apply px_nil | (apply px_skip; rfl; rfl) | apply qseq_normal | apply qseq_ret | apply pwp_block | apply qblock_ret | apply pwp_skip | apply pwp_ret | apply qround_ret | (apply pwp_cond_t; rfl) | (apply pwp_cond_f; rfl) | (apply px_guard_ndec; rfl; rfl; rfl; all_goals (intro hc; try (first | fail))) | (apply px_guard_dec; rfl; rfl; rfl; all_goals (intro hc; try (first | fail))) | (apply pwp_cond_ndec; rfl; all_goals (intro hc; try (first | fail))) | (apply pwp_cond_dec; rfl; all_goals (intro hc; try (first | contradiction | (exfalso; omega)))))
    · refine qbody_ret1 (v := .int _ _) rfl rfl ⟨by rw [neg fun h => hc (key h).1], fun _ h => h.below⟩
    · refine qbody_ret1 (v := .int _ _) rfl rfl ⟨by rw [neg fun h => hc (key h).2.1], fun _ h => h.below⟩
    · refine qbody_ret1 (v := .int _ _) rfl rfl ⟨by rw [neg fun h => hc ((key h).2.2 (by first | assumption | (apply Int.ofNat_lt.1; assumption)))], fun _ h => h.below⟩
    · rename_i f1 f2 f3 f4
      have hf : fineAt a b c k := ⟨f1, f2, fun _ => f4⟩
      have hk0 : 0 < k := by exact Int.ofNat_lt.1 f3
      have f5 : 0 ≤ c.getD k 0 ∧ c.getD k 0 ≤ (k : Int) - 1 := f4
      have hdn : down c (k + 1) := fun i hi h0 => by
        by_cases hik : i < k
        · exact (he i hik).2.2 h0
        · obtain rfl : i = k := by omega
          exact f4
      have hb := dep_bound hdn (c.getD k 0).toNat (by omega)
      have hst := dep_pos hdn k (by omega) hk0
      have hget := depL_get c k (c.getD k 0).toNat (by omega)
      clear f1 f2 f3 f4
      repeat' (first | apply pwp_region | (apply px_run; (first | (apply opv_move; first | exact hid_int rfl) | (apply opv_assign; first | exact hid_int rfl | rfl) | (apply opv_add_in; rfl; rfl; omega) | (apply opv_max <;> rfl)); rfl; rfl) | apply px_nil | apply qseq_normal | apply qblock_normal | (apply px_lit1 ez_int; rfl; (intro w hw; (first | rfl)); rfl; rfl; rfl; intro sv) | (apply px_append 1 ez_int; rfl; rfl; rfl; (first | exact rd_row 0 rfl); (first | (intro _ _ u hu; simp at hu; subst hu; rfl)); (simp [ints]; omega); decide; rfl; rfl; intro sv))
      refine qround_normal ?_ ⟨(k + 1, _), ⟨rfl, rfl, ?_, trivial⟩, ⟨by dsimp only; omega, fun i hi => ?_⟩, by dsimp only; omega, fun w' h => ?_⟩
      · repeat (first | exact same_refl | refine same_upd rfl ?_ | refine same_junk rfl ?_)
      · refine Eq.trans (b := .int .i64 (max (depM c k) ((depL c k).getD (c.getD k 0).toNat 0 + 1))) rfl ?_
        show _ = Value.int .i64 (depM c (k + 1))
        rw [depM_succ, hst, hget]
      · dsimp only at hi
        by_cases hik : i < k
        · exact he i hik
        · obtain rfl : i = k := by omega
          exact hf
      · have e : ints (depL c (k + 1)) = ints (depL c k) ++ [.int .i64 ((depL c k).getD (c.getD k 0).toNat 0 + 1)] := by rw [depL_succ, hst, hget, ints_snoc]
        dsimp only
        rw [e]
        exact Cl.sub (by assumption) (by repeat (first | exact List.Sublist.slnil | exact List.Sublist.refl _ | apply List.Sublist.cons_cons | exact List.sublist_append_left _ _ | exact List.sublist_append_right _ _ | apply List.Sublist.cons))
    · rename_i f1 f2 f3
      have hf : fineAt a b c k := ⟨f1, f2, fun h => absurd (Int.ofNat_lt.2 h) f3⟩
      have hk0 : k = 0 := by have : ¬ (0 : Int) < (k : Int) := f3
                             omega
      clear f1 f2 f3
      repeat' (first | apply pwp_region | (apply px_run; (first | (apply opv_move; first | exact hid_int rfl) | (apply opv_assign; first | exact hid_int rfl | rfl) | (apply opv_add_in; rfl; rfl; omega) | (apply opv_max <;> rfl)); rfl; rfl) | apply px_nil | apply qseq_normal | apply qblock_normal | (apply px_lit1 ez_int; rfl; (intro w hw; (first | rfl)); rfl; rfl; rfl; intro sv) | (apply px_append 1 ez_int; rfl; rfl; rfl; (first | exact rd_row 0 rfl); (first | (intro _ _ u hu; simp at hu; subst hu; rfl)); (simp [ints]; omega); decide; rfl; rfl; intro sv))
      refine qround_normal ?_ ⟨(k + 1, _), ⟨rfl, rfl, ?_, trivial⟩, ⟨by dsimp only; omega, fun i hi => ?_⟩, by dsimp only; omega, fun w' h => ?_⟩
      · repeat (first | exact same_refl | refine same_upd rfl ?_ | refine same_junk rfl ?_)
      · subst hk0; rfl
      · dsimp only at hi
        by_cases hik : i < k
        · exact he i hik
        · obtain rfl : i = k := by omega
          exact hf
      · have hz : dep c k = 0 := by rw [hk0]; exact dep_zero c
        have e : ints (depL c (k + 1)) = ints (depL c k) ++ [.int .i64 0] := by rw [depL_succ, hz, ints_snoc]
        dsimp only
        rw [e]
        exact Cl.sub (by assumption) (by repeat (first | exact List.Sublist.slnil | exact List.Sublist.refl _ | apply List.Sublist.cons_cons | exact List.sublist_append_left _ _ | exact List.sublist_append_right _ _ | apply List.Sublist.cons))
  · repeat' (first | apply pwp_seq | apply pwp_region | (apply px_run; (first | (apply opv_move; first | exact hid_int rfl) | (apply opv_assign; first | exact hid_int rfl) | (apply opv_lss <;> rfl)); rfl; rfl) | apply px_nil | apply qseq_normal | apply qseq_exit | (apply qblock_exit_same; rfl) | apply pwp_exit | apply pwp_ret | apply qround_exit | (apply pwp_cond_dec; rfl; all_goals (intro hc; try (first | (exfalso; omega)))))
    obtain rfl : k = a.length := by omega
    have hf : fineT a b c := ⟨h1, h2, h3, h4, he⟩
    refine qbody_ret1 (v := .int _ _) rfl rfl ⟨by rw [depthT, if_pos hf, show c.length = a.length by omega], fun _ h => h.below⟩
end Go.Proofs.YthbhoofhenmbeaaDoor
