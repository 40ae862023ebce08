/- Quotients: the program's and the reference's. -/
import Derived.Test.YteopfbfcnggbbaaQt
import Derived.Test.YteopfbfcnggbbaaPwPqt
namespace Go.Proofs.Yteopfbfcnggbbaa
open Go Go.RowKit Go.Pw
theorem en_i_QuotientOf : Entry Try.prog 21 := ⟨_, Try.func21, by kernel_rfl, rfl⟩
set_option maxHeartbeats 1600000 in
theorem i_QuotientOf_c (size : Int) (gv lv : Value) (rows parts : List Int) (w : World) (hr : Arr w gv (ints rows)) (hl : Arr w lv (ints parts)) :
    Gives Try.prog 21 #[.agg #[.int .i64 size, gv], lv] w (fun v objs => ∃ sv', v = .tuple #[.agg #[.int .i64 (qZ size rows parts), sv'], .bool (decide (qOkP size rows parts))] ∧ objs = [.row 3 sv' (ints (qL size rows parts))]) := by
  refine gives_enter (args := [_, _]) en_i_QuotientOf Try.func21 rfl Try.ntmps21 rfl ?_
  have hlen := hl.len
  have fin : ¬ qOkP size rows parts → qZ size rows parts = 0 ∧ qL size rows parts = [] ∧ decide (qOkP size rows parts) = false := fun h => ⟨if_neg h, if_neg h, decide_eq_false h⟩
  repeat' (first | apply pwp_seq | apply pwp_region | (apply px_run; (first | (apply opv_move; first | exact hid_int rfl) | (apply opv_assign; first | exact hid_int rfl | exact hid_bool rfl) | (apply opv_load_blk 1; (first | with_reducible exact sc_ints); rfl; rfl; rfl) | (apply opv_len_ints el_int; rfl; (first | exact rd_old (by assumption)))); rfl; rfl) | apply px_nil | apply qseq_normal | apply pwp_block | (apply px_box; rfl; rfl; rfl; rfl; intro bk) | (apply px_alloc st_G; rfl; rfl; rfl; intro bk) | (apply px_box1; rfl; (intro w hw; (first | exact stor_arr (by assumption))); rfl; rfl; rfl; intro bk))
  rename_i bk2 bk1
  refine pwp_loop (τ := Nat × Int) [(5,6), (8,8), (11,29)] (fun x => [(11, .int .i64 (x.1 : Int)), (6, .int .i64 x.2)]) (fun _ => Cl [] w [.blk bk [.int .i64 0, .slice none 0 0], .blk bk1 [lv], .blk bk2 [.int .i64 size, gv]]) (fun x => x.1 ≤ parts.length ∧ qGo size rows x.2 (parts.drop x.1) = qGo size rows 0 parts) (fun x => parts.length - x.1) (0, 0)
    ⟨rfl, rfl, trivial⟩ ⟨Nat.zero_le _, rfl⟩ (fun _ h => h) (fun J x hk => ?_)
  obtain ⟨k, S⟩ := x
  dsimp only at hk ⊢
  obtain ⟨hk, hq⟩ := hk
  by_cases hlt : k < parts.length
  · repeat' (first | apply pwp_seq | apply pwp_region | (apply px_run; (first | (apply opv_move; first | exact hid_int rfl | exact hid_bool rfl) | (apply opv_assign; first | exact hid_int rfl | exact hid_bool rfl) | (apply opv_lss <;> rfl) | (apply opv_neq <;> rfl) | (apply opv_and <;> rfl) | (apply opv_or <;> rfl) | (apply opv_pick_t <;> rfl) | (apply opv_pick_f <;> rfl) | (apply opv_not_dec <;> rfl) | (apply opv_add_in; rfl; rfl; omega) | (apply opv_load_ints sc_int; rfl; (first | exact rd_old (by assumption)); (first | omega)) | (apply opv_index_nat (vs := ints _) el_int; rfl; rfl; (first | exact rd_old (by assumption)); (first | (simp only [ints_length]; omega))) | (apply opv_load_str 2 st_G; rfl; rfl; rfl) | (apply opv_build0 bl_G) | (apply opv_call; rfl; rfl; exact Cl.stable _ _ _; exact fun w hw => i_IsModule_c _ _ rows _ _ (by first | exact hw.arr (by assumption)))); rfl; rfl) | apply px_nil | (apply px_skip; rfl; rfl) | apply qseq_normal | apply qseq_ret | apply pwp_block | apply qblock_normal | apply qblock_ret | apply pwp_skip | apply pwp_ret | apply qround_ret | (apply pwp_cond_t; rfl) | (apply px_guard_ndec; rfl; rfl; rfl; all_goals (intro hc; try (first | fail))) | (apply pwp_cond_ndec; rfl; all_goals (intro hc; try (first | fail))) | (apply pwp_cond_dec; rfl; all_goals (intro hc; try (first | (exfalso; omega)))) | (apply px_store_str 0 st_G; rfl; rfl; rfl; rfl; rfl; (intro w hw; (first | refine all2 rfl ?_ ?_) <;> (first | rfl)); rfl))
    · obtain ⟨f1, f2, f3⟩ := fin (qOk_no (by rw [← hq]; exact qGo_stop hlt fun h => hc h.1))
      refine qbody_cell_tmp 0 rfl st_G rfl rfl rfl rfl ⟨_, ⟨_, by rw [f1, f3]; rfl, rfl⟩, fun w' h => ?_⟩
      rw [f2]
      exact (h.sub (List.nil_sublist _)).nilRow _
    · obtain ⟨f1, f2, f3⟩ := fin (qOk_no (by rw [← hq]; exact qGo_stop hlt fun h => hc h.2))
      refine qbody_cell_tmp 0 rfl st_G rfl rfl rfl rfl ⟨_, ⟨_, by rw [f1, f3]; rfl, rfl⟩, fun w' h => ?_⟩
      rw [f2]
      exact (h.sub (List.nil_sublist _)).nilRow _
    · refine qround_normal ?_ ⟨(k + 1, ior S (parts.getD k 0)), ⟨rfl, rfl, trivial⟩, ⟨by dsimp only; omega, ?_⟩, by dsimp only; omega, fun _ h => h⟩
      · repeat (first | exact same_refl | refine same_upd rfl ?_ | refine same_junk rfl ?_)
      · rw [← hq, qGo_step hlt (by assumption) hc]
  obtain rfl : k = parts.length := by omega
  rw [List.drop_length] at hq
  have hq : qGo size rows 0 parts = some S := by rw [← hq]; rfl
  by_cases hg : IsG size rows
  case neg =>
    obtain ⟨f1, f2, f3⟩ := fin fun h => hg h.1
    repeat' (first | apply pwp_seq | apply pwp_region | (apply px_run; (first | (apply opv_move; first | exact hid_int rfl | exact hid_bool rfl) | (apply opv_assign; first | exact hid_bool rfl) | (apply opv_lss <;> rfl) | (apply opv_pick_t <;> rfl) | (apply opv_not_dec <;> rfl) | (apply opv_load_str 2 st_G; rfl; rfl; rfl) | (apply opv_build0 bl_G) | (apply opv_call; rfl; rfl; exact Cl.stable _ _ _; exact fun w hw => i_IsGraph_c _ _ rows _ (by first | exact hw.arr (by assumption)))); rfl; rfl) | apply px_nil | (apply px_skip; rfl; rfl) | apply qseq_normal | apply qseq_ret | apply qseq_exit | (apply qblock_exit_same; rfl) | apply pwp_exit | apply pwp_ret | apply qround_exit | (apply pwp_cond_t; rfl) | (apply px_guard_ndec; rfl; rfl; rfl; all_goals (intro hc; try (first | contradiction))) | (apply pwp_cond_dec; rfl; all_goals (intro hc; try (first | (exfalso; omega)))) | (apply px_store_str 0 st_G; rfl; rfl; rfl; rfl; rfl; (intro w hw; (first | refine all2 rfl ?_ ?_) <;> (first | rfl)); rfl))
    refine qbody_cell_tmp 0 rfl st_G rfl rfl rfl rfl ⟨_, ⟨_, by rw [f1, f3]; rfl, rfl⟩, fun w' h => ?_⟩
    rw [f2]
    exact (h.sub (List.nil_sublist _)).nilRow _
  have hsz : 0 ≤ size ∧ size ≤ 7 := ⟨by have := hg.1; omega, hg.1.2⟩
  by_cases hS : S = ishl 1 size - 1
  case neg =>
    obtain ⟨f1, f2, f3⟩ := fin fun h => by rw [h.2] at hq; injection hq with hq; exact hS hq.symm
    repeat' (first | apply pwp_seq | apply pwp_region | (apply px_run; (first | (apply opv_move; first | exact hid_int rfl | exact hid_bool rfl) | (apply opv_assign; first | exact hid_bool rfl) | (apply opv_lss <;> rfl) | (apply opv_neq <;> rfl) | (apply opv_pick_f <;> rfl) | (apply opv_not_dec <;> rfl) | (apply opv_load_str 2 st_G; rfl; rfl; rfl) | (apply opv_build0 bl_G) | (apply opv_call; rfl; rfl; exact Cl.stable _ _ _; exact fun w hw => i_IsGraph_c _ _ rows _ (by first | exact hw.arr (by assumption))) | (apply opv_call; rfl; rfl; exact Cl.stable _ _ _; exact fun w hw => i_all_c _ _ _ hsz)); rfl; rfl) | apply px_nil | apply qseq_normal | apply qseq_ret | apply qseq_exit | (apply qblock_exit_same; rfl) | apply pwp_exit | apply pwp_ret | apply qround_exit | (apply px_guard_ndec; rfl; rfl; rfl; all_goals (intro hc; try (first | contradiction))) | (apply pwp_cond_ndec; rfl; all_goals (intro hc; try (first | contradiction))) | (apply pwp_cond_dec; rfl; all_goals (intro hc; try (first | (exfalso; omega)))) | (apply px_store_str 0 st_G; rfl; rfl; rfl; rfl; rfl; (intro w hw; (first | refine all2 rfl ?_ ?_) <;> (first | rfl)); rfl))
    refine qbody_cell_tmp 0 rfl st_G rfl rfl rfl rfl ⟨_, ⟨_, by rw [f1, f3]; rfl, rfl⟩, fun w' h => ?_⟩
    rw [f2]
    exact (h.sub (List.nil_sublist _)).nilRow _
  have hok : qOkP size rows parts := ⟨hg, by rw [hq, hS]⟩
  obtain ⟨l1, l7⟩ := qOk_len hok
  obtain ⟨n, hn, _⟩ := isG_size hg
  obtain ⟨hmod, _, _⟩ := qGo_spec hg hn parts 0 (Nat.two_pow_pos _) _ hq
  repeat' (first | apply pwp_seq | apply pwp_region | (apply px_run; (first | (apply opv_move; first | exact hid_int rfl | exact hid_bool rfl) | (apply opv_assign; first | exact hid_bool rfl) | (apply opv_lss <;> rfl) | (apply opv_neq <;> rfl) | (apply opv_pick_f <;> rfl) | (apply opv_not_dec <;> rfl) | (apply opv_load_blk 1; (first | with_reducible exact sc_ints); rfl; rfl; rfl) | (apply opv_len_ints el_int; rfl; (first | exact rd_old (by assumption))) | (apply opv_load_str 2 st_G; rfl; rfl; rfl) | (apply opv_make_func; rfl) | (apply opv_call; rfl; rfl; exact Cl.stable _ _ _; exact fun w hw => i_IsGraph_c _ _ rows _ (by first | exact hw.arr (by assumption))) | (apply opv_call; rfl; rfl; exact Cl.stable _ _ _; exact fun w hw => i_all_c _ _ _ hsz)); rfl; rfl) | apply px_nil | apply qseq_normal | apply qseq_exit | (apply qblock_exit_same; rfl) | apply pwp_skip | apply pwp_exit | apply pwp_ret | apply qround_exit | (apply px_guard_ndec; rfl; rfl; rfl; all_goals (intro hc; try (first | contradiction))) | (apply pwp_cond_ndec; rfl; all_goals (intro hc; try (first | contradiction))) | (apply pwp_cond_dec; rfl; all_goals (intro hc; try (first | (exfalso; omega)))) | (apply px_store_str 1 st_G; rfl; rfl; rfl; rfl; rfl; (intro w hw; (first | refine all2 rfl ?_ ?_) <;> (first | rfl | exact stor_row 0 hw rfl)); rfl) | (apply px_gives; rfl; rfl; rfl; rfl; rfl; exact fun w hw => i_graphOf_c parts.length _ _ (qJ rows parts) _ l7 (fun v u w' hv hu hb => i_QuotientOf_1_c _ _ _ rows parts _ _ v u w' (Arr.below (by first | exact hw.arr (by assumption)) hb) (Arr.below (by first | exact hw.arr (by assumption)) hb) (Bk.below (hw.bk (k := 2) rfl) hb) (Bk.below (hw.bk (k := 1) rfl) hb) hg hv hu (hmod _ (getD_mem hv)).1.1.2); rintro _ _ ⟨sq, rfl, rfl⟩))
  refine qbody_cell_tmp 1 rfl st_G rfl rfl rfl rfl ⟨_, ⟨sq, by rw [qZ, if_pos hok, decide_eq_true hok]; rfl, rfl⟩, fun w' h => ?_⟩
  rw [qL, if_pos hok]
  exact Cl.sub (by assumption) (by repeat (first | exact List.Sublist.slnil | exact List.Sublist.refl _ | apply List.Sublist.cons_cons | exact List.sublist_append_left _ _ | exact List.sublist_append_right _ _ | apply List.Sublist.cons))
theorem en_s_QuotientOf : Entry Try.prog 22 := ⟨_, Try.func22, by kernel_rfl, rfl⟩
set_option maxHeartbeats 2400000 in
theorem s_QuotientOf_c (size : Int) (gv lv : Value) (rows parts : List Int) (w : World) (hr : Arr w gv (ints rows)) (hl : Arr w lv (ints parts)) :
    Gives Try.prog 22 #[.agg #[.int .i64 size, gv], lv] w (fun v objs => ∃ sv', v = .tuple #[.agg #[.int .i64 (qZ size rows parts), sv'], .bool (decide (qOkP size rows parts))] ∧ objs = [.row 3 sv' (ints (qL size rows parts))]) := by
  refine gives_enter (args := [_, _]) en_s_QuotientOf Try.func22 rfl Try.ntmps22 rfl ?_
  have hlen := hl.len
  have fin : ¬ qOkP size rows parts → qZ size rows parts = 0 ∧ qL size rows parts = [] ∧ decide (qOkP size rows parts) = false := fun h => ⟨if_neg h, if_neg h, decide_eq_false h⟩
  repeat' (first | apply pwp_seq | apply pwp_region | (apply px_run; (first | (apply opv_assign; first | exact hid_int rfl | exact hid_bool rfl)); rfl; rfl) | apply px_nil | apply qseq_normal | apply pwp_block | (apply px_box; rfl; rfl; rfl; rfl; intro bk) | (apply px_alloc st_G; rfl; rfl; rfl; intro bk))
  rename_i bk2
  rename Nat => bk0
  refine pwp_loop (τ := Nat × Int) [(5,7), (11,39)] (fun x => [(7, .int .i64 (x.1 : Int)), (6, .int .i64 x.2)]) (fun _ => Cl [] w [.blk bk0 [.int .i64 0, .slice none 0 0], .blk bk2 [.int .i64 size, gv]]) (fun x => x.1 ≤ parts.length ∧ qGo size rows x.2 (parts.drop x.1) = qGo size rows 0 parts) (fun x => parts.length - x.1) (0, 0)
    ⟨rfl, rfl, trivial⟩ ⟨Nat.zero_le _, rfl⟩ (fun _ h => h) (fun J x hk => ?_)
  obtain ⟨k, S⟩ := x
  dsimp only at hk ⊢
  obtain ⟨hk, hq⟩ := hk
  by_cases hlt : k < parts.length
  · repeat' (first | apply pwp_seq | apply pwp_region | (apply px_run; (first | (apply opv_move; first | exact hid_int rfl | exact hid_bool rfl | rfl) | (apply opv_assign; first | exact hid_int rfl | exact hid_bool rfl) | (apply opv_lss <;> rfl) | (apply opv_neq <;> rfl) | (apply opv_and <;> rfl) | (apply opv_or <;> rfl) | (apply opv_pick_t <;> rfl) | (apply opv_pick_f <;> rfl) | (apply opv_not_dec <;> rfl) | (apply opv_add_in; rfl; rfl; omega) | (apply opv_load_ints sc_int; rfl; (first | exact rd_old (by assumption)); (first | omega)) | (apply opv_index_nat (vs := ints _) el_int; rfl; rfl; (first | exact rd_old (by assumption)); (first | (simp only [ints_length]; omega))) | (apply opv_len_ints el_int; rfl; (first | exact rd_old (by assumption))) | (apply opv_load_str 1 st_G; rfl; rfl; rfl) | (apply opv_build0 bl_G) | (apply opv_call; rfl; rfl; exact Cl.stable _ _ _; exact fun w hw => s_IsModule_c _ _ rows _ _ (by first | exact hw.arr (by assumption)))); rfl; rfl) | apply px_nil | (apply px_skip; rfl; rfl) | apply qseq_normal | apply qseq_ret | apply pwp_block | apply qblock_normal | apply qblock_ret | apply pwp_skip | apply pwp_ret | apply qround_ret | (apply pwp_cond_t; rfl) | (apply pwp_region_mix; kernel_rfl; decide +kernel; exact Cl.stable _ _ _) | (apply px_guard_ndec; rfl; rfl; rfl; all_goals (intro hc; try (first | fail))) | (apply pwp_cond_ndec; rfl; all_goals (intro hc; try (first | fail))) | (apply pwp_cond_dec; rfl; all_goals (intro hc; try (first | (exfalso; omega)))) | (apply px_store_str 0 st_G; rfl; rfl; rfl; rfl; rfl; (intro w hw; (first | refine all2 rfl ?_ ?_) <;> (first | rfl)); rfl))
    · obtain ⟨f1, f2, f3⟩ := fin (qOk_no (by rw [← hq]; exact qGo_stop hlt fun h => hc h.1))
      refine qbody_cell_tmp 0 rfl st_G rfl rfl rfl rfl ⟨_, ⟨_, by rw [f1, f3]; rfl, rfl⟩, fun w' h => ?_⟩
      rw [f2]
      exact (h.sub (List.nil_sublist _)).nilRow _
    · obtain ⟨f1, f2, f3⟩ := fin (qOk_no (by rw [← hq]; exact qGo_stop hlt fun h => hc h.2))
      refine qbody_cell_tmp 0 rfl st_G rfl rfl rfl rfl ⟨_, ⟨_, by rw [f1, f3]; rfl, rfl⟩, fun w' h => ?_⟩
      rw [f2]
      exact (h.sub (List.nil_sublist _)).nilRow _
    · refine qround_normal ?_ ⟨(k + 1, ior S (parts.getD k 0)), ⟨rfl, rfl, trivial⟩, ⟨by dsimp only; omega, ?_⟩, by dsimp only; omega, fun _ h => h⟩
      · repeat (first | exact same_refl | refine same_upd rfl ?_ | refine same_junk rfl ?_)
      · rw [← hq, qGo_step hlt (by assumption) hc]
  obtain rfl : k = parts.length := by omega
  rw [List.drop_length] at hq
  have hq : qGo size rows 0 parts = some S := by rw [← hq]; rfl
  by_cases hg : IsG size rows
  case neg =>
    obtain ⟨f1, f2, f3⟩ := fin fun h => hg h.1
    repeat' (first | apply pwp_seq | apply pwp_region | (apply px_run; (first | (apply opv_move; first | exact hid_int rfl | exact hid_bool rfl | rfl) | (apply opv_assign; first | exact hid_bool rfl) | (apply opv_lss <;> rfl) | (apply opv_pick_t <;> rfl) | (apply opv_not_dec <;> rfl) | (apply opv_field fld_G0; rfl) | (apply opv_len_ints el_int; rfl; (first | exact rd_old (by assumption))) | (apply opv_load_str 1 st_G; rfl; rfl; rfl) | (apply opv_build0 bl_G) | (apply opv_call; rfl; rfl; exact Cl.stable _ _ _; exact fun w hw => s_IsGraph_c _ _ rows _ (by first | exact hw.arr (by assumption)))); rfl; rfl) | apply px_nil | (apply px_skip; rfl; rfl) | apply qseq_normal | apply qseq_ret | apply qseq_exit | (apply qblock_exit_same; rfl) | apply pwp_exit | apply pwp_ret | apply qround_exit | (apply pwp_cond_t; rfl) | (apply px_guard_ndec; rfl; rfl; rfl; all_goals (intro hc; try (first | contradiction))) | (apply pwp_cond_dec; rfl; all_goals (intro hc; try (first | (exfalso; omega)))) | (apply px_store_str 0 st_G; rfl; rfl; rfl; rfl; rfl; (intro w hw; (first | refine all2 rfl ?_ ?_) <;> (first | rfl)); rfl))
    refine qbody_cell_tmp 0 rfl st_G rfl rfl rfl rfl ⟨_, ⟨_, by rw [f1, f3]; rfl, rfl⟩, fun w' h => ?_⟩
    rw [f2]
    exact (h.sub (List.nil_sublist _)).nilRow _
  have hsz : 0 ≤ size ∧ size ≤ 7 := ⟨by have := hg.1; omega, hg.1.2⟩
  obtain ⟨hp0, hp1, hp2⟩ := shl1 hsz
  by_cases hS : S = ishl 1 size - 1
  case neg =>
    obtain ⟨f1, f2, f3⟩ := fin fun h => by rw [h.2] at hq; injection hq with hq; exact hS hq.symm
    repeat' (first | apply pwp_seq | apply pwp_region | (apply px_run; (first | (apply opv_move; first | exact hid_int rfl | exact hid_bool rfl | rfl) | (apply opv_assign; first | exact hid_bool rfl) | (apply opv_lss <;> rfl) | (apply opv_neq <;> rfl) | (apply opv_pick_f <;> rfl) | (apply opv_not_dec <;> rfl) | (apply opv_sub_in; rfl; rfl; omega) | (apply opv_shl; rfl; rfl; omega) | (apply opv_field fld_G0; rfl) | (apply opv_load_blk 1; (first | with_reducible exact sc_int); rfl; rfl; rfl) | (apply opv_len_ints el_int; rfl; (first | exact rd_old (by assumption))) | (apply opv_load_str 1 st_G; rfl; rfl; rfl) | (apply opv_build0 bl_G) | (apply opv_call; rfl; rfl; exact Cl.stable _ _ _; exact fun w hw => s_IsGraph_c _ _ rows _ (by first | exact hw.arr (by assumption)))); rfl; rfl) | apply px_nil | apply qseq_normal | apply qseq_ret | apply qseq_exit | (apply qblock_exit_same; rfl) | apply pwp_exit | apply pwp_ret | apply qround_exit | (apply px_guard_ndec; rfl; rfl; rfl; all_goals (intro hc; try (first | contradiction))) | (apply pwp_cond_ndec; rfl; all_goals (intro hc; try (first | contradiction))) | (apply pwp_cond_dec; rfl; all_goals (intro hc; try (first | (exfalso; omega)))) | (apply px_store_str 0 st_G; rfl; rfl; rfl; rfl; rfl; (intro w hw; (first | refine all2 rfl ?_ ?_) <;> (first | rfl)); rfl))
    refine qbody_cell_tmp 0 rfl st_G rfl rfl rfl rfl ⟨_, ⟨_, by rw [f1, f3]; rfl, rfl⟩, fun w' h => ?_⟩
    rw [f2]
    exact (h.sub (List.nil_sublist _)).nilRow _
  have hok : qOkP size rows parts := ⟨hg, by rw [hq, hS]⟩
  obtain ⟨l1, l7⟩ := qOk_len hok
  obtain ⟨n, hn, hrl, _⟩ := isG_size hg
  have h0 : gRows parts.length (seenP (qJ rows parts) 0 0) = List.replicate parts.length 0 := gRows_none fun i u _ _ => seenP_zero (qJ rows parts) i u
  repeat' (first | apply pwp_seq | apply pwp_region | (apply px_run; (first | (apply opv_move; first | exact hid_int rfl | exact hid_bool rfl | rfl) | (apply opv_assign; first | exact hid_int rfl) | (apply opv_lss <;> rfl) | (apply opv_neq <;> rfl) | (apply opv_pick_f <;> rfl) | (apply opv_not_dec <;> rfl) | (apply opv_sub_in; rfl; rfl; omega) | (apply opv_shl; rfl; rfl; omega) | (apply opv_field fld_G0; rfl) | (apply opv_load_blk 1; (first | with_reducible exact sc_int); rfl; rfl; rfl) | (apply opv_len_ints el_int; rfl; (first | exact rd_old (by assumption))) | (apply opv_load_str 1 st_G; rfl; rfl; rfl) | (apply opv_build2 bl_G; rfl; rfl; (first | exact rd_row 0 rfl)) | (apply opv_call; rfl; rfl; exact Cl.stable _ _ _; exact fun w hw => s_IsGraph_c _ _ rows _ (by first | exact hw.arr (by assumption)))); rfl; rfl) | apply px_nil | apply qseq_normal | apply qseq_exit | apply pwp_block | (apply qblock_exit_same; rfl) | apply pwp_skip | apply pwp_exit | apply qround_exit | (apply px_guard_ndec; rfl; rfl; rfl; all_goals (intro hc; try (first | contradiction))) | (apply pwp_cond_ndec; rfl; all_goals (intro hc; try (first | contradiction))) | (apply pwp_cond_dec; rfl; all_goals (intro hc; try (first | (exfalso; omega)))) | (apply px_make ez_int; rfl; rfl; rfl; rfl; rfl; omega; (simp only [maxLen]; omega); intro sv) | (apply px_alloc st_G; rfl; rfl; rfl; intro bk) | (apply px_store_str 0 st_G; rfl; rfl; rfl; rfl; rfl; (intro w hw; (first | refine all2 rfl ?_ ?_) <;> (first | rfl | exact stor_row 1 hw rfl)); rfl))
  refine pwp_loop (τ := Nat × Value) [(9,10), (58,91)] (fun x => [(9, .int .i64 (x.1 : Int))]) (fun x => Cl [] w [.row 3 x.2 (ints (gRows parts.length (seenP (qJ rows parts) x.1 0))), .blk bk [.int .i64 parts.length, x.2], .blk bk0 [.int .i64 0, .slice none 0 0], .blk bk2 [.int .i64 size, gv]]) (fun x => x.1 ≤ parts.length) (fun x => parts.length - x.1) (0, sv)
    ⟨rfl, trivial⟩ (Nat.zero_le _) (fun _ h => by dsimp only; rw [h0, show ints (List.replicate parts.length 0) = List.replicate parts.length (Value.int .i64 0) by simp [ints]]; exact h.perm (.swap _ _ _)) (fun J1 x hi => ?_)
  obtain ⟨i, si⟩ := x
  dsimp only at hi ⊢
  by_cases hlt : i < parts.length
  · repeat' (first | apply pwp_seq | apply pwp_region | (apply px_run; (first | (apply opv_move; first | exact hid_int rfl | rfl) | (apply opv_assign; first | exact hid_int rfl) | (apply opv_lss <;> rfl) | (apply opv_len_ints el_int; rfl; (first | exact rd_old (by assumption)))); rfl; rfl) | apply px_nil | apply qseq_normal | apply pwp_block | apply pwp_skip | (apply pwp_cond_dec; rfl; all_goals (intro hc; try (first | (exfalso; omega)))))
    refine pwp_loop (τ := Nat × Value) [(10,10), (64,91)] (fun x => [(10, .int .i64 (x.1 : Int))]) (fun x => Cl [] w [.row 3 x.2 (ints (gRows parts.length (seenP (qJ rows parts) i x.1))), .blk bk [.int .i64 parts.length, x.2], .blk bk0 [.int .i64 0, .slice none 0 0], .blk bk2 [.int .i64 size, gv]]) (fun x => x.1 ≤ i) (fun x => i - x.1) (0, si)
      ⟨rfl, trivial⟩ (Nat.zero_le _) (fun _ h => h) (fun J2 x hj => ?_)
    obtain ⟨j, sj⟩ := x
    dsimp only at hj ⊢
    by_cases hlt2 : j < i
    · obtain ⟨n1, n2⟩ := seenP_new (qJ rows parts) hlt2
      obtain ⟨A, a1, a2, a3, a4, a5, a6, a7, a8⟩ := q_part hg hn hq hlt
      obtain ⟨B, b1, b2, b3, b4, b5, b6, b7, b8⟩ := q_part hg hn hq (i := j) (by omega)
      have he := q_edge hg hn hq hlt hlt2
      repeat' (first | apply pwp_seq | apply pwp_region | (apply px_run; (first | (apply opv_move; first | exact hid_int rfl | rfl) | (apply opv_assign; first | exact hid_int rfl) | (apply opv_lss <;> rfl) | (apply opv_add_in; rfl; rfl; omega) | (apply opv_load_ints sc_int; rfl; (first | exact rd_old (by assumption) | exact rd_row 0 rfl); (first | omega)) | (apply opv_index_nat (k := 0) (vs := ints _) el_int; rfl; rfl; (first | exact rd_row 0 rfl); (first | (simp only [ints_length]; first | omega))) | (apply opv_index_nat (vs := ints _) el_int; rfl; rfl; (first | exact rd_old (by assumption)); (first | (simp only [ints_length]; omega))) | (apply opv_load_str 3 st_G; rfl; rfl; rfl) | (apply opv_extract; rfl; rfl) | (apply opv_call; rfl; rfl; exact Cl.stable _ _ _; exact fun w hw => s_l2Edge_c _ _ rows _ _ _ (by first | exact hw.arr (by assumption)) (by omega) (by omega))); rfl; rfl) | apply px_nil | apply qseq_normal | apply pwp_block | apply qblock_normal | apply pwp_skip | (apply pwp_region_ord [0,1,2,3,4,8,9,10,11,5,6,7,12,13,14,15]; kernel_rfl; decide +kernel; exact Cl.stable _ _ _) | (apply pwp_cond_dec; rfl; all_goals (intro hc; try (first | (exfalso; omega)))) | (apply pwp_cond; rfl; all_goals (intro hc; try (first | fail))) | (apply px_store_str 4 st_G; rfl; rfl; rfl; rfl; rfl; (intro w hw; (first | refine all2 rfl ?_ ?_) <;> (first | rfl | exact stor_row 0 hw rfl)); rfl) | (apply px_gives; rfl; rfl; rfl; rfl; rfl; exact fun w hw => s_ListOf_c _ _; rintro sl _ rfl) | (apply px_gives; rfl; rfl; rfl; rfl; rfl; exact fun w hw => s_AddEdge_c parts.length _ (seenP (qJ rows parts) i j) i j _ (by first | exact hw.rowArr (k := 2) rfl) l1 l7 (seenP_sym _ _ _) (seenP_irr _ _ _) hlt (by omega) (by omega) n2; rintro _ _ ⟨sc, rfl, rfl⟩))
      · refine qround_normal ?_ ⟨(j + 1, sc), ⟨rfl, trivial⟩, by dsimp only; omega, by dsimp only; omega, fun w' h => ?_⟩
        · repeat (first | exact same_refl | refine same_upd rfl ?_ | refine same_junk rfl ?_)
        · dsimp only
          rw [← gRows_congr (P := pairAdd (seenP (qJ rows parts) i j) i j) (fun x u _ _ => by rw [q_sym]; exact seenP_yes (qJ rows parts) hlt2 (by rw [← he]; exact hc) x u)]
          exact Cl.sub (by assumption) (by repeat (first | exact List.Sublist.slnil | exact List.Sublist.refl _ | apply List.Sublist.cons_cons | exact List.sublist_append_left _ _ | exact List.sublist_append_right _ _ | apply List.Sublist.cons))
      · refine qround_normal ?_ ⟨(j + 1, sj), ⟨rfl, trivial⟩, by dsimp only; omega, by dsimp only; omega, fun w' h => ?_⟩
        · repeat (first | exact same_refl | refine same_upd rfl ?_ | refine same_junk rfl ?_)
        · dsimp only
          rw [← gRows_congr (P := seenP (qJ rows parts) i j) (fun x u _ _ => seenP_no (qJ rows parts) hlt2 (by rw [← he]; exact hc) x u)]
          exact Cl.sub (by assumption) (by repeat (first | exact List.Sublist.slnil | exact List.Sublist.refl _ | apply List.Sublist.cons_cons | exact List.sublist_append_left _ _ | exact List.sublist_append_right _ _ | apply List.Sublist.cons))
    · obtain rfl : j = i := by omega
      repeat' (first | apply pwp_seq | apply pwp_region | (apply px_run; (first | (apply opv_move; first | exact hid_int rfl) | (apply opv_assign; first | exact hid_int rfl) | (apply opv_lss <;> rfl) | (apply opv_add_in; rfl; rfl; omega)); rfl; rfl) | apply px_nil | apply qseq_normal | apply qseq_exit | apply qblock_normal | (apply qblock_exit_same; rfl) | apply pwp_exit | apply qround_exit | (apply pwp_cond_dec; rfl; all_goals (intro hc; try (first | (exfalso; omega)))))
      refine qround_normal ?_ ⟨(j + 1, sj), ⟨rfl, trivial⟩, by dsimp only; omega, by dsimp only; omega, fun w' h => ?_⟩
      · repeat (first | exact same_refl | refine same_upd rfl ?_ | refine same_junk rfl ?_)
      · dsimp only
        rw [← gRows_congr (P := seenP (qJ rows parts) j j) (fun x u _ _ => seenP_next (qJ rows parts) j x u)]
        exact h
  · obtain rfl : i = parts.length := by omega
    repeat' (first | apply pwp_seq | apply pwp_region | (apply px_run; (first | (apply opv_move; first | exact hid_int rfl | rfl) | (apply opv_assign; first | exact hid_bool rfl) | (apply opv_lss <;> rfl) | (apply opv_len_ints el_int; rfl; (first | exact rd_old (by assumption))) | (apply opv_load_str 1 st_G; rfl; rfl; rfl)); rfl; rfl) | apply px_nil | apply qseq_normal | apply qseq_exit | (apply qblock_exit_same; rfl) | apply pwp_exit | apply pwp_ret | apply qround_exit | (apply pwp_cond_dec; rfl; all_goals (intro hc; try (first | contradiction))) | (apply px_store_str 2 st_G; rfl; rfl; rfl; rfl; rfl; (intro w hw; (first | refine all2 rfl ?_ ?_) <;> (first | rfl | exact stor_row 0 hw rfl)); rfl))
    refine qbody_cell_tmp 2 rfl st_G rfl rfl rfl rfl ⟨_, ⟨si, by rw [qZ, if_pos hok, decide_eq_true hok]; rfl, rfl⟩, fun w' h => ?_⟩
    rw [qL, if_pos hok]
    exact Cl.sub (by assumption) (by repeat (first | exact List.Sublist.slnil | exact List.Sublist.refl _ | apply List.Sublist.cons_cons | exact List.sublist_append_left _ _ | exact List.sublist_append_right _ _ | apply List.Sublist.cons))
end Go.Proofs.Yteopfbfcnggbbaa
