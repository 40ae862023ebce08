/- Searches through lists of four, and for holes. -/
import Derived.Test.YtpmeehkabaobkaaFl
import Derived.Test.YtpmeehkabaobkaaPwPfo
namespace Go.Proofs.Ytpmeehkabaobkaa
open Go Go.RowKit Go.Pw
theorem cast_arr {w : World} {sv : Value} {l m : List Int} (h : l = m) (ha : Arr w sv (ints l)) : Arr w sv (ints m) := h ▸ ha
theorem en_i_ThresholdObstacle_1 : Entry Try.prog 55 := ⟨_, Try.func55, by kernel_rfl, rfl⟩
theorem i_ThresholdObstacle_1_c (size : Int) (gv lv : Value) (rows l : List Int) (bg : Nat) (w : World) (hr : Arr w gv (ints rows)) (hv : Arr w lv (ints l)) (hb : Bk w bg [.int .i64 size, gv]) :
    Pure Try.prog 55 #[lv, .pointer (some ⟨bg, 0, none⟩)] w (.bool (decide (thrObsP size rows l))) := by
  refine pure_enter (args := [_, _]) en_i_ThresholdObstacle_1 Try.func55 rfl Try.ntmps55 rfl ?_
  repeat' (first
      | apply pwp_seq
      | apply pwp_region
      | (apply px_run; (first
          | (apply opv_move; first | exact hid_int rfl | exact hid_bool rfl | exact hid_ptr rfl | rfl)
          | (apply opv_assign; first | exact hid_int rfl | exact hid_bool rfl | exact hid_ptr rfl | rfl)
          | (apply opv_lss <;> rfl)
          | (apply opv_leq <;> rfl)
          | (apply opv_gtr <;> rfl)
          | (apply opv_geq <;> rfl)
          | (apply opv_eql <;> rfl)
          | (apply opv_neq <;> rfl)
          | (apply opv_and <;> rfl)
          | (apply opv_or <;> rfl)
          | (apply opv_xor <;> rfl)
          | (apply opv_andNot <;> rfl)
          | (apply opv_pick_t <;> rfl)
          | (apply opv_pick_f <;> rfl)
          | (apply opv_not_dec <;> rfl)
          | (apply opv_not <;> rfl)
          | (apply opv_neg <;> rfl)
          | (apply opv_add_in; rfl; rfl; omega)
          | (apply opv_sub_in; rfl; rfl; omega)
          | (apply opv_mul_in; rfl; rfl; omega)
          | (apply opv_shl; rfl; rfl; omega)
          | (apply opv_shr; rfl; rfl; omega)
          | (apply opv_quo; rfl; rfl; omega)
          | (apply opv_rem; rfl; rfl; omega)
          | (apply opv_field fld_G0; rfl)
          | (apply opv_field fld_G1; rfl)
          | (apply opv_load_blk 0; (first | with_reducible exact sc_int | with_reducible exact sc_ints); rfl; rfl; rfl)
          | (apply opv_load_blk 1; (first | with_reducible exact sc_int | with_reducible exact sc_ints); rfl; rfl; rfl)
          | (apply opv_load_blk 2; (first | with_reducible exact sc_int | with_reducible exact sc_ints); rfl; rfl; rfl)
          | (apply opv_load_blk 3; (first | with_reducible exact sc_int | with_reducible exact sc_ints); rfl; rfl; rfl)
          | (apply opv_load_blk 4; (first | with_reducible exact sc_int | with_reducible exact sc_ints); rfl; rfl; rfl)
          | (apply opv_load_ints sc_int; rfl; (first | exact rd_old (by assumption) | exact rd_row 0 rfl | exact rd_row 1 rfl | exact rd_row 2 rfl | exact rd_row 3 rfl | exact rd_row 4 rfl); (first | omega | (simp only [List.length_set]; omega)))
          | (apply opv_index_nat (vs := ints _) el_int; rfl; rfl; (first | exact rd_old (by assumption) | exact rd_row 0 rfl | exact rd_row 1 rfl | exact rd_row 2 rfl | exact rd_row 3 rfl | exact rd_row 4 rfl); (first | (simp only [ints_length]; omega) | (simp [ints]; omega)))
          | (apply opv_index (vs := ints _) el_int; rfl; rfl; (first | exact rd_old (by assumption) | exact rd_row 0 rfl | exact rd_row 1 rfl | exact rd_row 2 rfl | exact rd_row 3 rfl | exact rd_row 4 rfl); omega; (first | (simp only [ints_length]; omega) | (simp [ints]; omega)))
          | (apply opv_len_ints el_int; rfl; (first | exact rd_old (by assumption) | exact rd_row 0 rfl | exact rd_row 1 rfl | exact rd_row 2 rfl | exact rd_row 3 rfl | exact rd_row 4 rfl))
          | (apply opv_load_str 0 st_G; rfl; rfl; rfl)
          | (apply opv_load_str 1 st_G; rfl; rfl; rfl)
          | (apply opv_load_str 2 st_G; rfl; rfl; rfl)
          | (apply opv_load_str 3 st_G; rfl; rfl; rfl)
          | (apply opv_load_str 4 st_G; rfl; rfl; rfl)
          | (apply opv_load_old; (first | with_reducible exact sc_int | with_reducible exact sc_ints); rfl; assumption; rfl)
          | (apply opv_load_old_str st_G; rfl; assumption; rfl)
          | (apply opv_call; rfl; rfl; exact Cl.stable _ _ _; exact fun w hw => i_IsThresholdObstacle_c _ _ _ rows l _ (by first | exact hw.arr (by assumption) | exact hw.rowArr (k := 0) rfl | exact hw.rowArr (k := 1) rfl | exact hw.rowArr (k := 2) rfl | exact hw.rowArr (k := 3) rfl | exact hw.rowArr (k := 4) rfl | exact hw.rowArr (k := 5) rfl | exact hw.rowArr (k := 6) rfl | exact hw.rowArr (k := 7) rfl | exact hw.rowArr (k := 8) rfl | exact hw.rowArr (k := 9) rfl | exact hw.rowArr (k := 10) rfl | exact hw.rowArr (k := 11) rfl | exact hw.rowArr (k := 12) rfl | exact hw.rowArr (k := 13) rfl | exact hw.rowArr (k := 14) rfl | exact hw.rowArr (k := 15) rfl | exact hw.rowArr (k := 16) rfl | exact hw.rowArr (k := 17) rfl | exact hw.rowArr (k := 18) rfl | exact hw.rowArr (k := 19) rfl) (by first | exact hw.arr (by assumption) | exact hw.rowArr (k := 0) rfl | exact hw.rowArr (k := 1) rfl | exact hw.rowArr (k := 2) rfl | exact hw.rowArr (k := 3) rfl | exact hw.rowArr (k := 4) rfl | exact hw.rowArr (k := 5) rfl | exact hw.rowArr (k := 6) rfl | exact hw.rowArr (k := 7) rfl | exact hw.rowArr (k := 8) rfl | exact hw.rowArr (k := 9) rfl | exact hw.rowArr (k := 10) rfl | exact hw.rowArr (k := 11) rfl | exact hw.rowArr (k := 12) rfl | exact hw.rowArr (k := 13) rfl | exact hw.rowArr (k := 14) rfl | exact hw.rowArr (k := 15) rfl | exact hw.rowArr (k := 16) rfl | exact hw.rowArr (k := 17) rfl | exact hw.rowArr (k := 18) rfl | exact hw.rowArr (k := 19) rfl))
          | (apply opv_add <;> rfl)
          | (apply opv_sub <;> rfl)
          | (apply opv_mul <;> rfl)
          | (apply opv_eql_bool ty_bool <;> rfl)
          | (apply opv_neq_bool ty_bool <;> rfl)); rfl; rfl)
      | apply px_nil
      | (apply px_skip; rfl; rfl)
      | apply qseq_normal
      | apply qseq_ret
      | apply qseq_exit
      | apply pwp_block
      | apply qblock_normal
      | apply qblock_ret
      | (apply qblock_exit_same; rfl)
      | (apply qblock_exit_other; rfl)
      | apply pwp_skip
      | apply pwp_exit
      | apply pwp_ret
      | apply qround_ret
      | apply qround_exit
      | apply qonce_ret
      | apply qonce_exit
      | (apply pwp_cond_t; rfl)
      | (apply pwp_cond_f; rfl)
      | (apply pwp_region_mix; kernel_rfl; decide +kernel; exact Cl.stable _ _ _)
      | (apply pwp_region_draw; kernel_rfl; kernel_rfl; exact Cl.stable _ _ _)
      | (apply px_guard_ndec; rfl; rfl; rfl; all_goals (intro hc; try (first | contradiction | (exfalso; omega) | (exfalso; simp at hc; done))))
      | (apply px_guard_dec; rfl; rfl; rfl; all_goals (intro hc; try (first | contradiction | (exfalso; omega) | (exfalso; simp at hc; done))))
      | (apply px_guard_not; rfl; rfl; rfl; all_goals (intro hc; try (first | contradiction | (exfalso; omega) | (exfalso; simp at hc; done))))
      | (apply px_guard; rfl; rfl; rfl; all_goals (intro hc; (first | contradiction | (fail_if_success (cases hc); try (first | (exfalso; omega) | (exfalso; simp at hc; done))))))
      | (apply pwp_cond_ndec; rfl; all_goals (intro hc; try (first | contradiction | (exfalso; omega) | (exfalso; simp at hc; done))))
      | (apply pwp_cond_dec; rfl; all_goals (intro hc; try (first | contradiction | (exfalso; omega) | (exfalso; simp at hc; done))))
      | (apply pwp_cond_not; rfl; all_goals (intro hc; try (first | contradiction | (exfalso; omega) | (exfalso; simp at hc; done))))
      | (apply pwp_cond; rfl; all_goals (intro hc; try (first | contradiction | (exfalso; omega) | (exfalso; simp at hc; done))))
      | (apply px_box; rfl; rfl; rfl; rfl; intro bk))
  refine qbody_ret1 (v := .bool _) rfl rfl ⟨rfl, fun _ h => h.below⟩
theorem en_i_ThresholdObstacle : Entry Try.prog 17 := ⟨_, Try.func17, by kernel_rfl, rfl⟩
set_option maxHeartbeats 1000000 in
theorem i_ThresholdObstacle_c (size : Int) (gv : Value) (rows : List Int) (w : World) (hr : Arr w gv (ints rows)) :
    Gives Try.prog 17 #[.agg #[.int .i64 size, gv]] w (fun v objs => ∃ sv, v = .tuple #[sv, .bool (fourX size rows fun l => decide (thrObsP size rows l)).isSome] ∧ objs = [.row 3 sv (ints ((fourX size rows fun l => decide (thrObsP size rows l)).getD []))]) := by
  refine gives_enter (args := [_]) en_i_ThresholdObstacle Try.func17 rfl Try.ntmps17 rfl ?_
  rw [← four_firstX (size := size) (rows := rows) (fin := fun l => decide (thrObsP size rows l)) thrObs_apart]
  repeat' (first
      | apply pwp_seq
      | apply pwp_region
      | (apply px_run; (first
          | (apply opv_move; first | exact hid_int rfl | exact hid_bool rfl | exact hid_ptr rfl | rfl)
          | (apply opv_assign; first | exact hid_int rfl | exact hid_bool rfl | exact hid_ptr rfl | rfl)
          | (apply opv_lss <;> rfl)
          | (apply opv_leq <;> rfl)
          | (apply opv_gtr <;> rfl)
          | (apply opv_geq <;> rfl)
          | (apply opv_eql <;> rfl)
          | (apply opv_neq <;> rfl)
          | (apply opv_and <;> rfl)
          | (apply opv_or <;> rfl)
          | (apply opv_xor <;> rfl)
          | (apply opv_andNot <;> rfl)
          | (apply opv_pick_t <;> rfl)
          | (apply opv_pick_f <;> rfl)
          | (apply opv_not_dec <;> rfl)
          | (apply opv_not <;> rfl)
          | (apply opv_neg <;> rfl)
          | (apply opv_add_in; rfl; rfl; omega)
          | (apply opv_sub_in; rfl; rfl; omega)
          | (apply opv_mul_in; rfl; rfl; omega)
          | (apply opv_shl; rfl; rfl; omega)
          | (apply opv_shr; rfl; rfl; omega)
          | (apply opv_quo; rfl; rfl; omega)
          | (apply opv_rem; rfl; rfl; omega)
          | (apply opv_field fld_G0; rfl)
          | (apply opv_field fld_G1; rfl)
          | (apply opv_load_blk 0; (first | with_reducible exact sc_int | with_reducible exact sc_ints); rfl; rfl; rfl)
          | (apply opv_load_blk 1; (first | with_reducible exact sc_int | with_reducible exact sc_ints); rfl; rfl; rfl)
          | (apply opv_load_blk 2; (first | with_reducible exact sc_int | with_reducible exact sc_ints); rfl; rfl; rfl)
          | (apply opv_load_blk 3; (first | with_reducible exact sc_int | with_reducible exact sc_ints); rfl; rfl; rfl)
          | (apply opv_load_blk 4; (first | with_reducible exact sc_int | with_reducible exact sc_ints); rfl; rfl; rfl)
          | (apply opv_load_ints sc_int; rfl; (first | exact rd_old (by assumption) | exact rd_row 0 rfl | exact rd_row 1 rfl | exact rd_row 2 rfl | exact rd_row 3 rfl | exact rd_row 4 rfl); (first | omega | (simp only [List.length_set]; omega)))
          | (apply opv_index_nat (vs := ints _) el_int; rfl; rfl; (first | exact rd_old (by assumption) | exact rd_row 0 rfl | exact rd_row 1 rfl | exact rd_row 2 rfl | exact rd_row 3 rfl | exact rd_row 4 rfl); (first | (simp only [ints_length]; omega) | (simp [ints]; omega)))
          | (apply opv_index (vs := ints _) el_int; rfl; rfl; (first | exact rd_old (by assumption) | exact rd_row 0 rfl | exact rd_row 1 rfl | exact rd_row 2 rfl | exact rd_row 3 rfl | exact rd_row 4 rfl); omega; (first | (simp only [ints_length]; omega) | (simp [ints]; omega)))
          | (apply opv_len_ints el_int; rfl; (first | exact rd_old (by assumption) | exact rd_row 0 rfl | exact rd_row 1 rfl | exact rd_row 2 rfl | exact rd_row 3 rfl | exact rd_row 4 rfl))
          | (apply opv_load_str 0 st_G; rfl; rfl; rfl)
          | (apply opv_load_str 1 st_G; rfl; rfl; rfl)
          | (apply opv_load_str 2 st_G; rfl; rfl; rfl)
          | (apply opv_load_str 3 st_G; rfl; rfl; rfl)
          | (apply opv_load_str 4 st_G; rfl; rfl; rfl)
          | (apply opv_extract; rfl; rfl)
          | (apply opv_make_func; rfl)
          | (apply opv_add <;> rfl)
          | (apply opv_sub <;> rfl)
          | (apply opv_mul <;> rfl)
          | (apply opv_eql_bool ty_bool <;> rfl)
          | (apply opv_neq_bool ty_bool <;> rfl)); rfl; rfl)
      | apply px_nil
      | (apply px_skip; rfl; rfl)
      | apply qseq_normal
      | apply qseq_ret
      | apply qseq_exit
      | apply pwp_block
      | apply qblock_normal
      | apply qblock_ret
      | (apply qblock_exit_same; rfl)
      | (apply qblock_exit_other; rfl)
      | apply pwp_skip
      | apply pwp_exit
      | apply pwp_ret
      | apply qround_ret
      | apply qround_exit
      | apply qonce_ret
      | apply qonce_exit
      | (apply pwp_cond_t; rfl)
      | (apply pwp_cond_f; rfl)
      | (apply pwp_region_mix; kernel_rfl; decide +kernel; exact Cl.stable _ _ _)
      | (apply pwp_region_draw; kernel_rfl; kernel_rfl; exact Cl.stable _ _ _)
      | (apply px_guard_ndec; rfl; rfl; rfl; all_goals (intro hc; try (first | contradiction | (exfalso; omega) | (exfalso; simp at hc; done))))
      | (apply px_guard_dec; rfl; rfl; rfl; all_goals (intro hc; try (first | contradiction | (exfalso; omega) | (exfalso; simp at hc; done))))
      | (apply px_guard_not; rfl; rfl; rfl; all_goals (intro hc; try (first | contradiction | (exfalso; omega) | (exfalso; simp at hc; done))))
      | (apply px_guard; rfl; rfl; rfl; all_goals (intro hc; (first | contradiction | (fail_if_success (cases hc); try (first | (exfalso; omega) | (exfalso; simp at hc; done))))))
      | (apply pwp_cond_ndec; rfl; all_goals (intro hc; try (first | contradiction | (exfalso; omega) | (exfalso; simp at hc; done))))
      | (apply pwp_cond_dec; rfl; all_goals (intro hc; try (first | contradiction | (exfalso; omega) | (exfalso; simp at hc; done))))
      | (apply pwp_cond_not; rfl; all_goals (intro hc; try (first | contradiction | (exfalso; omega) | (exfalso; simp at hc; done))))
      | (apply pwp_cond; rfl; all_goals (intro hc; try (first | contradiction | (exfalso; omega) | (exfalso; simp at hc; done))))
      | (apply px_box; rfl; rfl; rfl; rfl; intro bk)
      | (apply px_gives; rfl; rfl; rfl; rfl; rfl; exact fun w hw => i_firstList_c _ 4 _ rows _ _ [] _ (fun _ => true) (fun l => decide (thrObsP size rows l)) _ (by first | exact hw.arr (by assumption) | exact hw.rowArr (k := 0) rfl | exact hw.rowArr (k := 1) rfl | exact hw.rowArr (k := 2) rfl | exact hw.rowArr (k := 3) rfl | exact hw.rowArr (k := 4) rfl | exact hw.rowArr (k := 5) rfl | exact hw.rowArr (k := 6) rfl | exact hw.rowArr (k := 7) rfl | exact hw.rowArr (k := 8) rfl | exact hw.rowArr (k := 9) rfl | exact hw.rowArr (k := 10) rfl | exact hw.rowArr (k := 11) rfl | exact hw.rowArr (k := 12) rfl | exact hw.rowArr (k := 13) rfl | exact hw.rowArr (k := 14) rfl | exact hw.rowArr (k := 15) rfl | exact hw.rowArr (k := 16) rfl | exact hw.rowArr (k := 17) rfl | exact hw.rowArr (k := 18) rfl | exact hw.rowArr (k := 19) rfl) (by omega) (by omega) (fun x xv w' hb hx => i_always_c _ _) (fun x xv w' hb hx => i_ThresholdObstacle_1_c _ _ _ rows x _ _ (Arr.below (by first | exact hw.arr (by assumption) | exact hw.rowArr (k := 0) rfl | exact hw.rowArr (k := 1) rfl | exact hw.rowArr (k := 2) rfl | exact hw.rowArr (k := 3) rfl | exact hw.rowArr (k := 4) rfl | exact hw.rowArr (k := 5) rfl | exact hw.rowArr (k := 6) rfl | exact hw.rowArr (k := 7) rfl | exact hw.rowArr (k := 8) rfl | exact hw.rowArr (k := 9) rfl | exact hw.rowArr (k := 10) rfl | exact hw.rowArr (k := 11) rfl | exact hw.rowArr (k := 12) rfl | exact hw.rowArr (k := 13) rfl | exact hw.rowArr (k := 14) rfl | exact hw.rowArr (k := 15) rfl | exact hw.rowArr (k := 16) rfl | exact hw.rowArr (k := 17) rfl | exact hw.rowArr (k := 18) rfl | exact hw.rowArr (k := 19) rfl) hb) hx (Bk.below (hw.bk (k := 0) rfl) hb)); rintro _ _ ⟨sr, rfl, rfl⟩))
  refine qbody_ret2 rfl rfl rfl ⟨_, ⟨_, rfl, rfl⟩, fun w' h => ?_⟩
  exact Cl.sub (by assumption) (by repeat (first | exact List.Sublist.slnil | exact List.Sublist.refl _ | apply List.Sublist.cons_cons | apply List.Sublist.cons))
theorem en_s_ThresholdObstacle : Entry Try.prog 15 := ⟨_, Try.func15, by kernel_rfl, rfl⟩
set_option maxHeartbeats 1600000 in
theorem s_ThresholdObstacle_c (size : Int) (gv : Value) (rows : List Int) (w : World) (hr : Arr w gv (ints rows)) :
    Gives Try.prog 15 #[.agg #[.int .i64 size, gv]] w (fun v objs => ∃ sv, v = .tuple #[sv, .bool (fourX size rows fun l => decide (thrObsP size rows l)).isSome] ∧ objs = [.row 3 sv (ints ((fourX size rows fun l => decide (thrObsP size rows l)).getD []))]) := by
  refine gives_enter (args := [_]) en_s_ThresholdObstacle Try.func15 rfl Try.ntmps15 rfl ?_
  repeat' (first
      | apply pwp_seq
      | apply pwp_region
      | (apply px_run; (first
          | (apply opv_move; first | exact hid_int rfl | exact hid_bool rfl | exact hid_ptr rfl | rfl)
          | (apply opv_assign; first | exact hid_int rfl | exact hid_bool rfl | exact hid_ptr rfl | rfl)
          | (apply opv_lss <;> rfl)
          | (apply opv_leq <;> rfl)
          | (apply opv_gtr <;> rfl)
          | (apply opv_geq <;> rfl)
          | (apply opv_eql <;> rfl)
          | (apply opv_neq <;> rfl)
          | (apply opv_and <;> rfl)
          | (apply opv_or <;> rfl)
          | (apply opv_xor <;> rfl)
          | (apply opv_andNot <;> rfl)
          | (apply opv_pick_t <;> rfl)
          | (apply opv_pick_f <;> rfl)
          | (apply opv_not_dec <;> rfl)
          | (apply opv_not <;> rfl)
          | (apply opv_neg <;> rfl)
          | (apply opv_add_in; rfl; rfl; omega)
          | (apply opv_sub_in; rfl; rfl; omega)
          | (apply opv_mul_in; rfl; rfl; omega)
          | (apply opv_shl; rfl; rfl; omega)
          | (apply opv_shr; rfl; rfl; omega)
          | (apply opv_quo; rfl; rfl; omega)
          | (apply opv_rem; rfl; rfl; omega)
          | (apply opv_field fld_G0; rfl)
          | (apply opv_field fld_G1; rfl)
          | (apply opv_load_blk 0; (first | with_reducible exact sc_int | with_reducible exact sc_ints); rfl; rfl; rfl)
          | (apply opv_load_blk 1; (first | with_reducible exact sc_int | with_reducible exact sc_ints); rfl; rfl; rfl)
          | (apply opv_load_blk 2; (first | with_reducible exact sc_int | with_reducible exact sc_ints); rfl; rfl; rfl)
          | (apply opv_load_blk 3; (first | with_reducible exact sc_int | with_reducible exact sc_ints); rfl; rfl; rfl)
          | (apply opv_load_blk 4; (first | with_reducible exact sc_int | with_reducible exact sc_ints); rfl; rfl; rfl)
          | (apply opv_load_ints sc_int; rfl; (first | exact rd_old (by assumption) | exact rd_row 0 rfl | exact rd_row 1 rfl | exact rd_row 2 rfl | exact rd_row 3 rfl | exact rd_row 4 rfl); (first | omega | (simp only [List.length_set]; omega)))
          | (apply opv_index_nat (vs := ints _) el_int; rfl; rfl; (first | exact rd_old (by assumption) | exact rd_row 0 rfl | exact rd_row 1 rfl | exact rd_row 2 rfl | exact rd_row 3 rfl | exact rd_row 4 rfl); (first | (simp only [ints_length]; omega) | (simp [ints]; omega)))
          | (apply opv_index (vs := ints _) el_int; rfl; rfl; (first | exact rd_old (by assumption) | exact rd_row 0 rfl | exact rd_row 1 rfl | exact rd_row 2 rfl | exact rd_row 3 rfl | exact rd_row 4 rfl); omega; (first | (simp only [ints_length]; omega) | (simp [ints]; omega)))
          | (apply opv_len_ints el_int; rfl; (first | exact rd_old (by assumption) | exact rd_row 0 rfl | exact rd_row 1 rfl | exact rd_row 2 rfl | exact rd_row 3 rfl | exact rd_row 4 rfl))
          | (apply opv_load_str 0 st_G; rfl; rfl; rfl)
          | (apply opv_load_str 1 st_G; rfl; rfl; rfl)
          | (apply opv_load_str 2 st_G; rfl; rfl; rfl)
          | (apply opv_load_str 3 st_G; rfl; rfl; rfl)
          | (apply opv_load_str 4 st_G; rfl; rfl; rfl)
          | (apply opv_add <;> rfl)
          | (apply opv_sub <;> rfl)
          | (apply opv_mul <;> rfl)
          | (apply opv_eql_bool ty_bool <;> rfl)
          | (apply opv_neq_bool ty_bool <;> rfl)); rfl; rfl)
      | apply px_nil
      | (apply px_skip; rfl; rfl)
      | apply qseq_normal
      | apply qseq_ret
      | apply qseq_exit
      | apply pwp_block
      | apply qblock_normal
      | apply qblock_ret
      | (apply qblock_exit_same; rfl)
      | (apply qblock_exit_other; rfl)
      | apply pwp_skip
      | apply pwp_exit
      | apply pwp_ret
      | apply qround_ret
      | apply qround_exit
      | apply qonce_ret
      | apply qonce_exit
      | (apply pwp_cond_t; rfl)
      | (apply pwp_cond_f; rfl)
      | (apply pwp_region_mix; kernel_rfl; decide +kernel; exact Cl.stable _ _ _)
      | (apply pwp_region_draw; kernel_rfl; kernel_rfl; exact Cl.stable _ _ _)
      | (apply px_guard_ndec; rfl; rfl; rfl; all_goals (intro hc; try (first | contradiction | (exfalso; omega) | (exfalso; simp at hc; done))))
      | (apply px_guard_dec; rfl; rfl; rfl; all_goals (intro hc; try (first | contradiction | (exfalso; omega) | (exfalso; simp at hc; done))))
      | (apply px_guard_not; rfl; rfl; rfl; all_goals (intro hc; try (first | contradiction | (exfalso; omega) | (exfalso; simp at hc; done))))
      | (apply px_guard; rfl; rfl; rfl; all_goals (intro hc; (first | contradiction | (fail_if_success (cases hc); try (first | (exfalso; omega) | (exfalso; simp at hc; done))))))
      | (apply pwp_cond_ndec; rfl; all_goals (intro hc; try (first | contradiction | (exfalso; omega) | (exfalso; simp at hc; done))))
      | (apply pwp_cond_dec; rfl; all_goals (intro hc; try (first | contradiction | (exfalso; omega) | (exfalso; simp at hc; done))))
      | (apply pwp_cond_not; rfl; all_goals (intro hc; try (first | contradiction | (exfalso; omega) | (exfalso; simp at hc; done))))
      | (apply pwp_cond; rfl; all_goals (intro hc; try (first | contradiction | (exfalso; omega) | (exfalso; simp at hc; done))))
      | (apply px_box; rfl; rfl; rfl; rfl; intro bk))
  by_cases hg : IsG size rows
  case neg =>
    have hx : (fourX size rows fun l => decide (thrObsP size rows l)) = none := by unfold fourX; rw [if_neg hg]
    rw [hx]
    refine pwp_loop_once ?_
    repeat' (first
        | apply pwp_seq
        | apply pwp_region
        | (apply px_run; (first
            | (apply opv_move; first | exact hid_int rfl | exact hid_bool rfl | exact hid_ptr rfl | rfl)
            | (apply opv_assign; first | exact hid_int rfl | exact hid_bool rfl | exact hid_ptr rfl | rfl)
            | (apply opv_lss <;> rfl)
            | (apply opv_leq <;> rfl)
            | (apply opv_gtr <;> rfl)
            | (apply opv_geq <;> rfl)
            | (apply opv_eql <;> rfl)
            | (apply opv_neq <;> rfl)
            | (apply opv_and <;> rfl)
            | (apply opv_or <;> rfl)
            | (apply opv_xor <;> rfl)
            | (apply opv_andNot <;> rfl)
            | (apply opv_pick_t <;> rfl)
            | (apply opv_pick_f <;> rfl)
            | (apply opv_not_dec <;> rfl)
            | (apply opv_not <;> rfl)
            | (apply opv_neg <;> rfl)
            | (apply opv_add_in; rfl; rfl; omega)
            | (apply opv_sub_in; rfl; rfl; omega)
            | (apply opv_mul_in; rfl; rfl; omega)
            | (apply opv_shl; rfl; rfl; omega)
            | (apply opv_shr; rfl; rfl; omega)
            | (apply opv_quo; rfl; rfl; omega)
            | (apply opv_rem; rfl; rfl; omega)
            | (apply opv_field fld_G0; rfl)
            | (apply opv_field fld_G1; rfl)
            | (apply opv_load_blk 0; (first | with_reducible exact sc_int | with_reducible exact sc_ints); rfl; rfl; rfl)
            | (apply opv_load_blk 1; (first | with_reducible exact sc_int | with_reducible exact sc_ints); rfl; rfl; rfl)
            | (apply opv_load_blk 2; (first | with_reducible exact sc_int | with_reducible exact sc_ints); rfl; rfl; rfl)
            | (apply opv_load_blk 3; (first | with_reducible exact sc_int | with_reducible exact sc_ints); rfl; rfl; rfl)
            | (apply opv_load_blk 4; (first | with_reducible exact sc_int | with_reducible exact sc_ints); rfl; rfl; rfl)
            | (apply opv_load_ints sc_int; rfl; (first | exact rd_old (by assumption) | exact rd_row 0 rfl | exact rd_row 1 rfl | exact rd_row 2 rfl | exact rd_row 3 rfl | exact rd_row 4 rfl); (first | omega | (simp only [List.length_set]; omega)))
            | (apply opv_index_nat (vs := ints _) el_int; rfl; rfl; (first | exact rd_old (by assumption) | exact rd_row 0 rfl | exact rd_row 1 rfl | exact rd_row 2 rfl | exact rd_row 3 rfl | exact rd_row 4 rfl); (first | (simp only [ints_length]; omega) | (simp [ints]; omega)))
            | (apply opv_index (vs := ints _) el_int; rfl; rfl; (first | exact rd_old (by assumption) | exact rd_row 0 rfl | exact rd_row 1 rfl | exact rd_row 2 rfl | exact rd_row 3 rfl | exact rd_row 4 rfl); omega; (first | (simp only [ints_length]; omega) | (simp [ints]; omega)))
            | (apply opv_len_ints el_int; rfl; (first | exact rd_old (by assumption) | exact rd_row 0 rfl | exact rd_row 1 rfl | exact rd_row 2 rfl | exact rd_row 3 rfl | exact rd_row 4 rfl))
            | (apply opv_load_str 0 st_G; rfl; rfl; rfl)
            | (apply opv_load_str 1 st_G; rfl; rfl; rfl)
            | (apply opv_load_str 2 st_G; rfl; rfl; rfl)
            | (apply opv_load_str 3 st_G; rfl; rfl; rfl)
            | (apply opv_load_str 4 st_G; rfl; rfl; rfl)
            | (apply opv_call; rfl; rfl; exact Cl.stable _ _ _; exact fun w hw => s_IsGraph_c _ _ rows _ (by first | exact hw.arr (by assumption) | exact hw.rowArr (k := 0) rfl | exact hw.rowArr (k := 1) rfl | exact hw.rowArr (k := 2) rfl | exact hw.rowArr (k := 3) rfl | exact hw.rowArr (k := 4) rfl | exact hw.rowArr (k := 5) rfl | exact hw.rowArr (k := 6) rfl | exact hw.rowArr (k := 7) rfl | exact hw.rowArr (k := 8) rfl | exact hw.rowArr (k := 9) rfl | exact hw.rowArr (k := 10) rfl | exact hw.rowArr (k := 11) rfl | exact hw.rowArr (k := 12) rfl | exact hw.rowArr (k := 13) rfl | exact hw.rowArr (k := 14) rfl | exact hw.rowArr (k := 15) rfl | exact hw.rowArr (k := 16) rfl | exact hw.rowArr (k := 17) rfl | exact hw.rowArr (k := 18) rfl | exact hw.rowArr (k := 19) rfl))
            | (apply opv_add <;> rfl)
            | (apply opv_sub <;> rfl)
            | (apply opv_mul <;> rfl)
            | (apply opv_eql_bool ty_bool <;> rfl)
            | (apply opv_neq_bool ty_bool <;> rfl)); rfl; rfl)
        | apply px_nil
        | (apply px_skip; rfl; rfl)
        | apply qseq_normal
        | apply qseq_ret
        | apply qseq_exit
        | apply pwp_block
        | apply qblock_normal
        | apply qblock_ret
        | (apply qblock_exit_same; rfl)
        | (apply qblock_exit_other; rfl)
        | apply pwp_skip
        | apply pwp_exit
        | apply pwp_ret
        | apply qround_ret
        | apply qround_exit
        | apply qonce_ret
        | apply qonce_exit
        | (apply pwp_cond_t; rfl)
        | (apply pwp_cond_f; rfl)
        | (apply pwp_region_mix; kernel_rfl; decide +kernel; exact Cl.stable _ _ _)
        | (apply pwp_region_draw; kernel_rfl; kernel_rfl; exact Cl.stable _ _ _)
        | (apply px_guard_ndec; rfl; rfl; rfl; all_goals (intro hc; try (first | contradiction | (exfalso; omega) | (exfalso; simp at hc; done))))
        | (apply px_guard_dec; rfl; rfl; rfl; all_goals (intro hc; try (first | contradiction | (exfalso; omega) | (exfalso; simp at hc; done))))
        | (apply px_guard_not; rfl; rfl; rfl; all_goals (intro hc; try (first | contradiction | (exfalso; omega) | (exfalso; simp at hc; done))))
        | (apply px_guard; rfl; rfl; rfl; all_goals (intro hc; (first | contradiction | (fail_if_success (cases hc); try (first | (exfalso; omega) | (exfalso; simp at hc; done))))))
        | (apply pwp_cond_ndec; rfl; all_goals (intro hc; try (first | contradiction | (exfalso; omega) | (exfalso; simp at hc; done))))
        | (apply pwp_cond_dec; rfl; all_goals (intro hc; try (first | contradiction | (exfalso; omega) | (exfalso; simp at hc; done))))
        | (apply pwp_cond_not; rfl; all_goals (intro hc; try (first | contradiction | (exfalso; omega) | (exfalso; simp at hc; done))))
        | (apply pwp_cond; rfl; all_goals (intro hc; try (first | contradiction | (exfalso; omega) | (exfalso; simp at hc; done))))
        | (apply px_box; rfl; rfl; rfl; rfl; intro bk)
        | (apply px_lit0i ez_int; rfl; rfl; rfl; intro sv))
    refine qbody_ret2 (v := sv) (v' := .bool false) rfl rfl rfl ⟨[.row 3 sv (ints [])], ⟨sv, rfl, rfl⟩, fun w' h => ?_⟩
    exact Cl.sub (by assumption) (by repeat (first | exact List.Sublist.slnil | exact List.Sublist.refl _ | apply List.Sublist.cons_cons | apply List.Sublist.cons))
  obtain ⟨N, rfl, hrl, hN1, hN7⟩ := isG_size hg
  obtain ⟨⟨q1, q2⟩, ⟨q3, q4⟩, ⟨q5, q6⟩⟩ := pow_bounds hN1 hN7
  have e4 : (N : Int) * N * N * N = ((N * N * N * N : Nat) : Int) := by simp
  have hx : (fourX (N : Int) rows fun l => decide (thrObsP (N : Int) rows l)) = fourK N (fun l => decide (thrObsP (N : Int) rows l)) (N * N * N * N) := by unfold fourX; rw [if_pos hg, Int.toNat_natCast]
  rw [hx]
  refine pwp_loop (τ := Nat) [(2,54)] (fun c => [(4, .int .i64 (c : Int))]) (fun _ => Cl [] w [.blk bk [.int .i64 (N : Int), gv]]) (fun c => c ≤ N * N * N * N ∧ fourK N (fun l => decide (thrObsP (N : Int) rows l)) c = none) (fun c => N * N * N * N - c) 0
    ⟨rfl, trivial⟩ ⟨Nat.zero_le _, rfl⟩ (fun _ h => h) (fun J c hc0 => ?_)
  obtain ⟨hk, hno⟩ := hc0
  by_cases hlt : c < N * N * N * N
  · obtain ⟨g1, g2, g3, g4⟩ := digs_int (N := N) (c := c) (by omega)
    have hd : [w64 ((c : Int).tdiv ((N : Int) * N * N)), (w64 ((c : Int).tdiv ((N : Int) * N))).tmod N, (w64 ((c : Int).tdiv N)).tmod N, (c : Int).tmod N] = digs N c := by rw [g1, g2, g3, g4]; rfl
    have hlt' : (c : Int) < (N : Int) * N * N * N := by omega
    repeat' (first
        | apply pwp_seq
        | apply pwp_region
        | (apply px_run; (first
            | (apply opv_move; first | exact hid_int rfl | exact hid_bool rfl | exact hid_ptr rfl | rfl)
            | (apply opv_assign; first | exact hid_int rfl | exact hid_bool rfl | exact hid_ptr rfl | rfl)
            | (apply opv_lss <;> rfl)
            | (apply opv_leq <;> rfl)
            | (apply opv_gtr <;> rfl)
            | (apply opv_geq <;> rfl)
            | (apply opv_eql <;> rfl)
            | (apply opv_neq <;> rfl)
            | (apply opv_and <;> rfl)
            | (apply opv_or <;> rfl)
            | (apply opv_xor <;> rfl)
            | (apply opv_andNot <;> rfl)
            | (apply opv_pick_t <;> rfl)
            | (apply opv_pick_f <;> rfl)
            | (apply opv_not_dec <;> rfl)
            | (apply opv_not <;> rfl)
            | (apply opv_neg <;> rfl)
            | (apply opv_add_in; rfl; rfl; omega)
            | (apply opv_sub_in; rfl; rfl; omega)
            | (apply opv_mul_in; rfl; rfl; omega)
            | (apply opv_shl; rfl; rfl; omega)
            | (apply opv_shr; rfl; rfl; omega)
            | (apply opv_quo; rfl; rfl; omega)
            | (apply opv_rem; rfl; rfl; omega)
            | (apply opv_field fld_G0; rfl)
            | (apply opv_field fld_G1; rfl)
            | (apply opv_load_blk 0; (first | with_reducible exact sc_int | with_reducible exact sc_ints); rfl; rfl; rfl)
            | (apply opv_load_blk 1; (first | with_reducible exact sc_int | with_reducible exact sc_ints); rfl; rfl; rfl)
            | (apply opv_load_blk 2; (first | with_reducible exact sc_int | with_reducible exact sc_ints); rfl; rfl; rfl)
            | (apply opv_load_blk 3; (first | with_reducible exact sc_int | with_reducible exact sc_ints); rfl; rfl; rfl)
            | (apply opv_load_blk 4; (first | with_reducible exact sc_int | with_reducible exact sc_ints); rfl; rfl; rfl)
            | (apply opv_load_ints sc_int; rfl; (first | exact rd_old (by assumption) | exact rd_row 0 rfl | exact rd_row 1 rfl | exact rd_row 2 rfl | exact rd_row 3 rfl | exact rd_row 4 rfl); (first | omega | (simp only [List.length_set]; omega)))
            | (apply opv_index_nat (vs := ints _) el_int; rfl; rfl; (first | exact rd_old (by assumption) | exact rd_row 0 rfl | exact rd_row 1 rfl | exact rd_row 2 rfl | exact rd_row 3 rfl | exact rd_row 4 rfl); (first | (simp only [ints_length]; omega) | (simp [ints]; omega)))
            | (apply opv_index (vs := ints _) el_int; rfl; rfl; (first | exact rd_old (by assumption) | exact rd_row 0 rfl | exact rd_row 1 rfl | exact rd_row 2 rfl | exact rd_row 3 rfl | exact rd_row 4 rfl); omega; (first | (simp only [ints_length]; omega) | (simp [ints]; omega)))
            | (apply opv_len_ints el_int; rfl; (first | exact rd_old (by assumption) | exact rd_row 0 rfl | exact rd_row 1 rfl | exact rd_row 2 rfl | exact rd_row 3 rfl | exact rd_row 4 rfl))
            | (apply opv_load_str 0 st_G; rfl; rfl; rfl)
            | (apply opv_load_str 1 st_G; rfl; rfl; rfl)
            | (apply opv_load_str 2 st_G; rfl; rfl; rfl)
            | (apply opv_load_str 3 st_G; rfl; rfl; rfl)
            | (apply opv_load_str 4 st_G; rfl; rfl; rfl)
            | (apply opv_call; rfl; rfl; exact Cl.stable _ _ _; exact fun w hw => s_IsGraph_c _ _ rows _ (by first | exact hw.arr (by assumption) | exact hw.rowArr (k := 0) rfl | exact hw.rowArr (k := 1) rfl | exact hw.rowArr (k := 2) rfl | exact hw.rowArr (k := 3) rfl | exact hw.rowArr (k := 4) rfl | exact hw.rowArr (k := 5) rfl | exact hw.rowArr (k := 6) rfl | exact hw.rowArr (k := 7) rfl | exact hw.rowArr (k := 8) rfl | exact hw.rowArr (k := 9) rfl | exact hw.rowArr (k := 10) rfl | exact hw.rowArr (k := 11) rfl | exact hw.rowArr (k := 12) rfl | exact hw.rowArr (k := 13) rfl | exact hw.rowArr (k := 14) rfl | exact hw.rowArr (k := 15) rfl | exact hw.rowArr (k := 16) rfl | exact hw.rowArr (k := 17) rfl | exact hw.rowArr (k := 18) rfl | exact hw.rowArr (k := 19) rfl))
            | (apply opv_call; rfl; rfl; exact Cl.stable _ _ _; exact fun w hw => s_IsThresholdObstacle_c _ _ _ rows (digs N c) _ (by first | exact hw.arr (by assumption) | exact hw.rowArr (k := 0) rfl | exact hw.rowArr (k := 1) rfl | exact hw.rowArr (k := 2) rfl | exact hw.rowArr (k := 3) rfl | exact hw.rowArr (k := 4) rfl | exact hw.rowArr (k := 5) rfl | exact hw.rowArr (k := 6) rfl | exact hw.rowArr (k := 7) rfl | exact hw.rowArr (k := 8) rfl | exact hw.rowArr (k := 9) rfl | exact hw.rowArr (k := 10) rfl | exact hw.rowArr (k := 11) rfl | exact hw.rowArr (k := 12) rfl | exact hw.rowArr (k := 13) rfl | exact hw.rowArr (k := 14) rfl | exact hw.rowArr (k := 15) rfl | exact hw.rowArr (k := 16) rfl | exact hw.rowArr (k := 17) rfl | exact hw.rowArr (k := 18) rfl | exact hw.rowArr (k := 19) rfl) (cast_arr hd (hw.rowArr (k := 0) rfl)))
            | (apply opv_add <;> rfl)
            | (apply opv_sub <;> rfl)
            | (apply opv_mul <;> rfl)
            | (apply opv_eql_bool ty_bool <;> rfl)
            | (apply opv_neq_bool ty_bool <;> rfl)); rfl; rfl)
        | apply px_nil
        | (apply px_skip; rfl; rfl)
        | apply qseq_normal
        | apply qseq_ret
        | apply qseq_exit
        | apply pwp_block
        | apply qblock_normal
        | apply qblock_ret
        | (apply qblock_exit_same; rfl)
        | (apply qblock_exit_other; rfl)
        | apply pwp_skip
        | apply pwp_exit
        | apply pwp_ret
        | apply qround_ret
        | apply qround_exit
        | apply qonce_ret
        | apply qonce_exit
        | (apply pwp_cond_t; rfl)
        | (apply pwp_cond_f; rfl)
        | (apply pwp_region_mix; kernel_rfl; decide +kernel; exact Cl.stable _ _ _)
        | (apply pwp_region_draw; kernel_rfl; kernel_rfl; exact Cl.stable _ _ _)
        | (apply px_guard_ndec; rfl; rfl; rfl; all_goals (intro hc; try (first | contradiction | (exfalso; omega) | (exfalso; simp at hc; done))))
        | (apply px_guard_dec; rfl; rfl; rfl; all_goals (intro hc; try (first | contradiction | (exfalso; omega) | (exfalso; simp at hc; done))))
        | (apply px_guard_not; rfl; rfl; rfl; all_goals (intro hc; try (first | contradiction | (exfalso; omega) | (exfalso; simp at hc; done))))
        | (apply px_guard; rfl; rfl; rfl; all_goals (intro hc; (first | contradiction | (fail_if_success (cases hc); try (first | (exfalso; omega) | (exfalso; simp at hc; done))))))
        | (apply pwp_cond_ndec; rfl; all_goals (intro hc; try (first | contradiction | (exfalso; omega) | (exfalso; simp at hc; done))))
        | (apply pwp_cond_dec; rfl; all_goals (intro hc; try (first | contradiction | (exfalso; omega) | (exfalso; simp at hc; done))))
        | (apply pwp_cond_not; rfl; all_goals (intro hc; try (first | contradiction | (exfalso; omega) | (exfalso; simp at hc; done))))
        | (apply pwp_cond; rfl; all_goals (intro hc; try (first | contradiction | (exfalso; omega) | (exfalso; simp at hc; done))))
        | (apply px_box; rfl; rfl; rfl; rfl; intro bk)
        | (apply px_lit4 ez_int; rfl; (intro w hw; (first | rfl | exact stor_row 0 hw rfl | exact stor_row 1 hw rfl | exact stor_row 2 hw rfl | exact stor_row 3 hw rfl | exact stor_row 4 hw rfl | exact stor_arr (by assumption))); rfl; (intro w hw; (first | rfl | exact stor_row 0 hw rfl | exact stor_row 1 hw rfl | exact stor_row 2 hw rfl | exact stor_row 3 hw rfl | exact stor_row 4 hw rfl | exact stor_arr (by assumption))); rfl; (intro w hw; (first | rfl | exact stor_row 0 hw rfl | exact stor_row 1 hw rfl | exact stor_row 2 hw rfl | exact stor_row 3 hw rfl | exact stor_row 4 hw rfl | exact stor_arr (by assumption))); rfl; (intro w hw; (first | rfl | exact stor_row 0 hw rfl | exact stor_row 1 hw rfl | exact stor_row 2 hw rfl | exact stor_row 3 hw rfl | exact stor_row 4 hw rfl | exact stor_arr (by assumption))); rfl; rfl; rfl; intro sv))
    all_goals first
      | (refine qround_normal ?_ ⟨c + 1, ⟨rfl, trivial⟩, ⟨by omega, by rw [fourK_succ _ _ _ hno, if_neg (by simpa using hc)]⟩, by omega, fun w' h => by exact Cl.sub (by assumption) (by repeat (first | exact List.Sublist.slnil | exact List.Sublist.refl _ | apply List.Sublist.cons_cons | apply List.Sublist.cons))⟩
         repeat (first | exact same_refl | refine same_upd rfl ?_ | refine same_junk rfl ?_))
      | (rw [fourK_hit hno hlt (decide_eq_true hc)]
         refine qbody_ret2 (v := sv) (v' := .bool true) rfl rfl rfl ⟨[.row 3 sv (ints (digs N c))], ⟨sv, rfl, rfl⟩, fun w' h => ?_⟩
         rw [← hd]
         exact Cl.sub (by assumption) (by repeat (first | exact List.Sublist.slnil | exact List.Sublist.refl _ | apply List.Sublist.cons_cons | apply List.Sublist.cons)))
  · obtain rfl : c = N * N * N * N := by omega
    have hlt' : ¬ (((N * N * N * N : Nat) : Int)) < (N : Int) * N * N * N := by omega
    rw [hno]
    repeat' (first
        | apply pwp_seq
        | apply pwp_region
        | (apply px_run; (first
            | (apply opv_move; first | exact hid_int rfl | exact hid_bool rfl | exact hid_ptr rfl | rfl)
            | (apply opv_assign; first | exact hid_int rfl | exact hid_bool rfl | exact hid_ptr rfl | rfl)
            | (apply opv_lss <;> rfl)
            | (apply opv_leq <;> rfl)
            | (apply opv_gtr <;> rfl)
            | (apply opv_geq <;> rfl)
            | (apply opv_eql <;> rfl)
            | (apply opv_neq <;> rfl)
            | (apply opv_and <;> rfl)
            | (apply opv_or <;> rfl)
            | (apply opv_xor <;> rfl)
            | (apply opv_andNot <;> rfl)
            | (apply opv_pick_t <;> rfl)
            | (apply opv_pick_f <;> rfl)
            | (apply opv_not_dec <;> rfl)
            | (apply opv_not <;> rfl)
            | (apply opv_neg <;> rfl)
            | (apply opv_add_in; rfl; rfl; omega)
            | (apply opv_sub_in; rfl; rfl; omega)
            | (apply opv_mul_in; rfl; rfl; omega)
            | (apply opv_shl; rfl; rfl; omega)
            | (apply opv_shr; rfl; rfl; omega)
            | (apply opv_quo; rfl; rfl; omega)
            | (apply opv_rem; rfl; rfl; omega)
            | (apply opv_field fld_G0; rfl)
            | (apply opv_field fld_G1; rfl)
            | (apply opv_load_blk 0; (first | with_reducible exact sc_int | with_reducible exact sc_ints); rfl; rfl; rfl)
            | (apply opv_load_blk 1; (first | with_reducible exact sc_int | with_reducible exact sc_ints); rfl; rfl; rfl)
            | (apply opv_load_blk 2; (first | with_reducible exact sc_int | with_reducible exact sc_ints); rfl; rfl; rfl)
            | (apply opv_load_blk 3; (first | with_reducible exact sc_int | with_reducible exact sc_ints); rfl; rfl; rfl)
            | (apply opv_load_blk 4; (first | with_reducible exact sc_int | with_reducible exact sc_ints); rfl; rfl; rfl)
            | (apply opv_load_ints sc_int; rfl; (first | exact rd_old (by assumption) | exact rd_row 0 rfl | exact rd_row 1 rfl | exact rd_row 2 rfl | exact rd_row 3 rfl | exact rd_row 4 rfl); (first | omega | (simp only [List.length_set]; omega)))
            | (apply opv_index_nat (vs := ints _) el_int; rfl; rfl; (first | exact rd_old (by assumption) | exact rd_row 0 rfl | exact rd_row 1 rfl | exact rd_row 2 rfl | exact rd_row 3 rfl | exact rd_row 4 rfl); (first | (simp only [ints_length]; omega) | (simp [ints]; omega)))
            | (apply opv_index (vs := ints _) el_int; rfl; rfl; (first | exact rd_old (by assumption) | exact rd_row 0 rfl | exact rd_row 1 rfl | exact rd_row 2 rfl | exact rd_row 3 rfl | exact rd_row 4 rfl); omega; (first | (simp only [ints_length]; omega) | (simp [ints]; omega)))
            | (apply opv_len_ints el_int; rfl; (first | exact rd_old (by assumption) | exact rd_row 0 rfl | exact rd_row 1 rfl | exact rd_row 2 rfl | exact rd_row 3 rfl | exact rd_row 4 rfl))
            | (apply opv_load_str 0 st_G; rfl; rfl; rfl)
            | (apply opv_load_str 1 st_G; rfl; rfl; rfl)
            | (apply opv_load_str 2 st_G; rfl; rfl; rfl)
            | (apply opv_load_str 3 st_G; rfl; rfl; rfl)
            | (apply opv_load_str 4 st_G; rfl; rfl; rfl)
            | (apply opv_call; rfl; rfl; exact Cl.stable _ _ _; exact fun w hw => s_IsGraph_c _ _ rows _ (by first | exact hw.arr (by assumption) | exact hw.rowArr (k := 0) rfl | exact hw.rowArr (k := 1) rfl | exact hw.rowArr (k := 2) rfl | exact hw.rowArr (k := 3) rfl | exact hw.rowArr (k := 4) rfl | exact hw.rowArr (k := 5) rfl | exact hw.rowArr (k := 6) rfl | exact hw.rowArr (k := 7) rfl | exact hw.rowArr (k := 8) rfl | exact hw.rowArr (k := 9) rfl | exact hw.rowArr (k := 10) rfl | exact hw.rowArr (k := 11) rfl | exact hw.rowArr (k := 12) rfl | exact hw.rowArr (k := 13) rfl | exact hw.rowArr (k := 14) rfl | exact hw.rowArr (k := 15) rfl | exact hw.rowArr (k := 16) rfl | exact hw.rowArr (k := 17) rfl | exact hw.rowArr (k := 18) rfl | exact hw.rowArr (k := 19) rfl))
            | (apply opv_add <;> rfl)
            | (apply opv_sub <;> rfl)
            | (apply opv_mul <;> rfl)
            | (apply opv_eql_bool ty_bool <;> rfl)
            | (apply opv_neq_bool ty_bool <;> rfl)); rfl; rfl)
        | apply px_nil
        | (apply px_skip; rfl; rfl)
        | apply qseq_normal
        | apply qseq_ret
        | apply qseq_exit
        | apply pwp_block
        | apply qblock_normal
        | apply qblock_ret
        | (apply qblock_exit_same; rfl)
        | (apply qblock_exit_other; rfl)
        | apply pwp_skip
        | apply pwp_exit
        | apply pwp_ret
        | apply qround_ret
        | apply qround_exit
        | apply qonce_ret
        | apply qonce_exit
        | (apply pwp_cond_t; rfl)
        | (apply pwp_cond_f; rfl)
        | (apply pwp_region_mix; kernel_rfl; decide +kernel; exact Cl.stable _ _ _)
        | (apply pwp_region_draw; kernel_rfl; kernel_rfl; exact Cl.stable _ _ _)
        | (apply px_guard_ndec; rfl; rfl; rfl; all_goals (intro hc; try (first | contradiction | (exfalso; omega) | (exfalso; simp at hc; done))))
        | (apply px_guard_dec; rfl; rfl; rfl; all_goals (intro hc; try (first | contradiction | (exfalso; omega) | (exfalso; simp at hc; done))))
        | (apply px_guard_not; rfl; rfl; rfl; all_goals (intro hc; try (first | contradiction | (exfalso; omega) | (exfalso; simp at hc; done))))
        | (apply px_guard; rfl; rfl; rfl; all_goals (intro hc; (first | contradiction | (fail_if_success (cases hc); try (first | (exfalso; omega) | (exfalso; simp at hc; done))))))
        | (apply pwp_cond_ndec; rfl; all_goals (intro hc; try (first | contradiction | (exfalso; omega) | (exfalso; simp at hc; done))))
        | (apply pwp_cond_dec; rfl; all_goals (intro hc; try (first | contradiction | (exfalso; omega) | (exfalso; simp at hc; done))))
        | (apply pwp_cond_not; rfl; all_goals (intro hc; try (first | contradiction | (exfalso; omega) | (exfalso; simp at hc; done))))
        | (apply pwp_cond; rfl; all_goals (intro hc; try (first | contradiction | (exfalso; omega) | (exfalso; simp at hc; done))))
        | (apply px_box; rfl; rfl; rfl; rfl; intro bk)
        | (apply px_lit0i ez_int; rfl; rfl; rfl; intro sv))
    refine qbody_ret2 (v := sv) (v' := .bool false) rfl rfl rfl ⟨[.row 3 sv (ints [])], ⟨sv, rfl, rfl⟩, fun w' h => ?_⟩
    exact Cl.sub (by assumption) (by repeat (first | exact List.Sublist.slnil | exact List.Sublist.refl _ | apply List.Sublist.cons_cons | apply List.Sublist.cons))
theorem en_i_FindTwoEdges_1 : Entry Try.prog 115 := ⟨_, Try.func115, by kernel_rfl, rfl⟩
theorem i_FindTwoEdges_1_c (size : Int) (gv lv : Value) (rows l : List Int) (bg : Nat) (w : World) (hr : Arr w gv (ints rows)) (hv : Arr w lv (ints l)) (hb : Bk w bg [.int .i64 size, gv]) :
    Pure Try.prog 115 #[lv, .pointer (some ⟨bg, 0, none⟩)] w (.bool (decide (twoP size rows l))) := by
  refine pure_enter (args := [_, _]) en_i_FindTwoEdges_1 Try.func115 rfl Try.ntmps115 rfl ?_
  repeat' (first
      | apply pwp_seq
      | apply pwp_region
      | (apply px_run; (first
          | (apply opv_move; first | exact hid_int rfl | exact hid_bool rfl | exact hid_ptr rfl | rfl)
          | (apply opv_assign; first | exact hid_int rfl | exact hid_bool rfl | exact hid_ptr rfl | rfl)
          | (apply opv_lss <;> rfl)
          | (apply opv_leq <;> rfl)
          | (apply opv_gtr <;> rfl)
          | (apply opv_geq <;> rfl)
          | (apply opv_eql <;> rfl)
          | (apply opv_neq <;> rfl)
          | (apply opv_and <;> rfl)
          | (apply opv_or <;> rfl)
          | (apply opv_xor <;> rfl)
          | (apply opv_andNot <;> rfl)
          | (apply opv_pick_t <;> rfl)
          | (apply opv_pick_f <;> rfl)
          | (apply opv_not_dec <;> rfl)
          | (apply opv_not <;> rfl)
          | (apply opv_neg <;> rfl)
          | (apply opv_add_in; rfl; rfl; omega)
          | (apply opv_sub_in; rfl; rfl; omega)
          | (apply opv_mul_in; rfl; rfl; omega)
          | (apply opv_shl; rfl; rfl; omega)
          | (apply opv_shr; rfl; rfl; omega)
          | (apply opv_quo; rfl; rfl; omega)
          | (apply opv_rem; rfl; rfl; omega)
          | (apply opv_field fld_G0; rfl)
          | (apply opv_field fld_G1; rfl)
          | (apply opv_load_blk 0; (first | with_reducible exact sc_int | with_reducible exact sc_ints); rfl; rfl; rfl)
          | (apply opv_load_blk 1; (first | with_reducible exact sc_int | with_reducible exact sc_ints); rfl; rfl; rfl)
          | (apply opv_load_blk 2; (first | with_reducible exact sc_int | with_reducible exact sc_ints); rfl; rfl; rfl)
          | (apply opv_load_blk 3; (first | with_reducible exact sc_int | with_reducible exact sc_ints); rfl; rfl; rfl)
          | (apply opv_load_blk 4; (first | with_reducible exact sc_int | with_reducible exact sc_ints); rfl; rfl; rfl)
          | (apply opv_load_ints sc_int; rfl; (first | exact rd_old (by assumption) | exact rd_row 0 rfl | exact rd_row 1 rfl | exact rd_row 2 rfl | exact rd_row 3 rfl | exact rd_row 4 rfl); (first | omega | (simp only [List.length_set]; omega)))
          | (apply opv_index_nat (vs := ints _) el_int; rfl; rfl; (first | exact rd_old (by assumption) | exact rd_row 0 rfl | exact rd_row 1 rfl | exact rd_row 2 rfl | exact rd_row 3 rfl | exact rd_row 4 rfl); (first | (simp only [ints_length]; omega) | (simp [ints]; omega)))
          | (apply opv_index (vs := ints _) el_int; rfl; rfl; (first | exact rd_old (by assumption) | exact rd_row 0 rfl | exact rd_row 1 rfl | exact rd_row 2 rfl | exact rd_row 3 rfl | exact rd_row 4 rfl); omega; (first | (simp only [ints_length]; omega) | (simp [ints]; omega)))
          | (apply opv_len_ints el_int; rfl; (first | exact rd_old (by assumption) | exact rd_row 0 rfl | exact rd_row 1 rfl | exact rd_row 2 rfl | exact rd_row 3 rfl | exact rd_row 4 rfl))
          | (apply opv_load_str 0 st_G; rfl; rfl; rfl)
          | (apply opv_load_str 1 st_G; rfl; rfl; rfl)
          | (apply opv_load_str 2 st_G; rfl; rfl; rfl)
          | (apply opv_load_str 3 st_G; rfl; rfl; rfl)
          | (apply opv_load_str 4 st_G; rfl; rfl; rfl)
          | (apply opv_load_old; (first | with_reducible exact sc_int | with_reducible exact sc_ints); rfl; assumption; rfl)
          | (apply opv_load_old_str st_G; rfl; assumption; rfl)
          | (apply opv_call; rfl; rfl; exact Cl.stable _ _ _; exact fun w hw => i_IsTwoEdges_c _ _ _ rows l _ (by first | exact hw.arr (by assumption) | exact hw.rowArr (k := 0) rfl | exact hw.rowArr (k := 1) rfl | exact hw.rowArr (k := 2) rfl | exact hw.rowArr (k := 3) rfl | exact hw.rowArr (k := 4) rfl | exact hw.rowArr (k := 5) rfl | exact hw.rowArr (k := 6) rfl | exact hw.rowArr (k := 7) rfl | exact hw.rowArr (k := 8) rfl | exact hw.rowArr (k := 9) rfl | exact hw.rowArr (k := 10) rfl | exact hw.rowArr (k := 11) rfl | exact hw.rowArr (k := 12) rfl | exact hw.rowArr (k := 13) rfl | exact hw.rowArr (k := 14) rfl | exact hw.rowArr (k := 15) rfl | exact hw.rowArr (k := 16) rfl | exact hw.rowArr (k := 17) rfl | exact hw.rowArr (k := 18) rfl | exact hw.rowArr (k := 19) rfl) (by first | exact hw.arr (by assumption) | exact hw.rowArr (k := 0) rfl | exact hw.rowArr (k := 1) rfl | exact hw.rowArr (k := 2) rfl | exact hw.rowArr (k := 3) rfl | exact hw.rowArr (k := 4) rfl | exact hw.rowArr (k := 5) rfl | exact hw.rowArr (k := 6) rfl | exact hw.rowArr (k := 7) rfl | exact hw.rowArr (k := 8) rfl | exact hw.rowArr (k := 9) rfl | exact hw.rowArr (k := 10) rfl | exact hw.rowArr (k := 11) rfl | exact hw.rowArr (k := 12) rfl | exact hw.rowArr (k := 13) rfl | exact hw.rowArr (k := 14) rfl | exact hw.rowArr (k := 15) rfl | exact hw.rowArr (k := 16) rfl | exact hw.rowArr (k := 17) rfl | exact hw.rowArr (k := 18) rfl | exact hw.rowArr (k := 19) rfl))
          | (apply opv_add <;> rfl)
          | (apply opv_sub <;> rfl)
          | (apply opv_mul <;> rfl)
          | (apply opv_eql_bool ty_bool <;> rfl)
          | (apply opv_neq_bool ty_bool <;> rfl)); rfl; rfl)
      | apply px_nil
      | (apply px_skip; rfl; rfl)
      | apply qseq_normal
      | apply qseq_ret
      | apply qseq_exit
      | apply pwp_block
      | apply qblock_normal
      | apply qblock_ret
      | (apply qblock_exit_same; rfl)
      | (apply qblock_exit_other; rfl)
      | apply pwp_skip
      | apply pwp_exit
      | apply pwp_ret
      | apply qround_ret
      | apply qround_exit
      | apply qonce_ret
      | apply qonce_exit
      | (apply pwp_cond_t; rfl)
      | (apply pwp_cond_f; rfl)
      | (apply pwp_region_mix; kernel_rfl; decide +kernel; exact Cl.stable _ _ _)
      | (apply pwp_region_draw; kernel_rfl; kernel_rfl; exact Cl.stable _ _ _)
      | (apply px_guard_ndec; rfl; rfl; rfl; all_goals (intro hc; try (first | contradiction | (exfalso; omega) | (exfalso; simp at hc; done))))
      | (apply px_guard_dec; rfl; rfl; rfl; all_goals (intro hc; try (first | contradiction | (exfalso; omega) | (exfalso; simp at hc; done))))
      | (apply px_guard_not; rfl; rfl; rfl; all_goals (intro hc; try (first | contradiction | (exfalso; omega) | (exfalso; simp at hc; done))))
      | (apply px_guard; rfl; rfl; rfl; all_goals (intro hc; (first | contradiction | (fail_if_success (cases hc); try (first | (exfalso; omega) | (exfalso; simp at hc; done))))))
      | (apply pwp_cond_ndec; rfl; all_goals (intro hc; try (first | contradiction | (exfalso; omega) | (exfalso; simp at hc; done))))
      | (apply pwp_cond_dec; rfl; all_goals (intro hc; try (first | contradiction | (exfalso; omega) | (exfalso; simp at hc; done))))
      | (apply pwp_cond_not; rfl; all_goals (intro hc; try (first | contradiction | (exfalso; omega) | (exfalso; simp at hc; done))))
      | (apply pwp_cond; rfl; all_goals (intro hc; try (first | contradiction | (exfalso; omega) | (exfalso; simp at hc; done))))
      | (apply px_box; rfl; rfl; rfl; rfl; intro bk))
  refine qbody_ret1 (v := .bool _) rfl rfl ⟨rfl, fun _ h => h.below⟩
theorem en_i_FindTwoEdges : Entry Try.prog 67 := ⟨_, Try.func67, by kernel_rfl, rfl⟩
set_option maxHeartbeats 1000000 in
theorem i_FindTwoEdges_c (size : Int) (gv : Value) (rows : List Int) (w : World) (hr : Arr w gv (ints rows)) :
    Gives Try.prog 67 #[.agg #[.int .i64 size, gv]] w (fun v objs => ∃ sv, v = .tuple #[sv, .bool (fourX size rows fun l => decide (twoP size rows l)).isSome] ∧ objs = [.row 3 sv (ints ((fourX size rows fun l => decide (twoP size rows l)).getD []))]) := by
  refine gives_enter (args := [_]) en_i_FindTwoEdges Try.func67 rfl Try.ntmps67 rfl ?_
  rw [← four_firstX (size := size) (rows := rows) (fin := fun l => decide (twoP size rows l)) two_apart]
  repeat' (first
      | apply pwp_seq
      | apply pwp_region
      | (apply px_run; (first
          | (apply opv_move; first | exact hid_int rfl | exact hid_bool rfl | exact hid_ptr rfl | rfl)
          | (apply opv_assign; first | exact hid_int rfl | exact hid_bool rfl | exact hid_ptr rfl | rfl)
          | (apply opv_lss <;> rfl)
          | (apply opv_leq <;> rfl)
          | (apply opv_gtr <;> rfl)
          | (apply opv_geq <;> rfl)
          | (apply opv_eql <;> rfl)
          | (apply opv_neq <;> rfl)
          | (apply opv_and <;> rfl)
          | (apply opv_or <;> rfl)
          | (apply opv_xor <;> rfl)
          | (apply opv_andNot <;> rfl)
          | (apply opv_pick_t <;> rfl)
          | (apply opv_pick_f <;> rfl)
          | (apply opv_not_dec <;> rfl)
          | (apply opv_not <;> rfl)
          | (apply opv_neg <;> rfl)
          | (apply opv_add_in; rfl; rfl; omega)
          | (apply opv_sub_in; rfl; rfl; omega)
          | (apply opv_mul_in; rfl; rfl; omega)
          | (apply opv_shl; rfl; rfl; omega)
          | (apply opv_shr; rfl; rfl; omega)
          | (apply opv_quo; rfl; rfl; omega)
          | (apply opv_rem; rfl; rfl; omega)
          | (apply opv_field fld_G0; rfl)
          | (apply opv_field fld_G1; rfl)
          | (apply opv_load_blk 0; (first | with_reducible exact sc_int | with_reducible exact sc_ints); rfl; rfl; rfl)
          | (apply opv_load_blk 1; (first | with_reducible exact sc_int | with_reducible exact sc_ints); rfl; rfl; rfl)
          | (apply opv_load_blk 2; (first | with_reducible exact sc_int | with_reducible exact sc_ints); rfl; rfl; rfl)
          | (apply opv_load_blk 3; (first | with_reducible exact sc_int | with_reducible exact sc_ints); rfl; rfl; rfl)
          | (apply opv_load_blk 4; (first | with_reducible exact sc_int | with_reducible exact sc_ints); rfl; rfl; rfl)
          | (apply opv_load_ints sc_int; rfl; (first | exact rd_old (by assumption) | exact rd_row 0 rfl | exact rd_row 1 rfl | exact rd_row 2 rfl | exact rd_row 3 rfl | exact rd_row 4 rfl); (first | omega | (simp only [List.length_set]; omega)))
          | (apply opv_index_nat (vs := ints _) el_int; rfl; rfl; (first | exact rd_old (by assumption) | exact rd_row 0 rfl | exact rd_row 1 rfl | exact rd_row 2 rfl | exact rd_row 3 rfl | exact rd_row 4 rfl); (first | (simp only [ints_length]; omega) | (simp [ints]; omega)))
          | (apply opv_index (vs := ints _) el_int; rfl; rfl; (first | exact rd_old (by assumption) | exact rd_row 0 rfl | exact rd_row 1 rfl | exact rd_row 2 rfl | exact rd_row 3 rfl | exact rd_row 4 rfl); omega; (first | (simp only [ints_length]; omega) | (simp [ints]; omega)))
          | (apply opv_len_ints el_int; rfl; (first | exact rd_old (by assumption) | exact rd_row 0 rfl | exact rd_row 1 rfl | exact rd_row 2 rfl | exact rd_row 3 rfl | exact rd_row 4 rfl))
          | (apply opv_load_str 0 st_G; rfl; rfl; rfl)
          | (apply opv_load_str 1 st_G; rfl; rfl; rfl)
          | (apply opv_load_str 2 st_G; rfl; rfl; rfl)
          | (apply opv_load_str 3 st_G; rfl; rfl; rfl)
          | (apply opv_load_str 4 st_G; rfl; rfl; rfl)
          | (apply opv_extract; rfl; rfl)
          | (apply opv_make_func; rfl)
          | (apply opv_add <;> rfl)
          | (apply opv_sub <;> rfl)
          | (apply opv_mul <;> rfl)
          | (apply opv_eql_bool ty_bool <;> rfl)
          | (apply opv_neq_bool ty_bool <;> rfl)); rfl; rfl)
      | apply px_nil
      | (apply px_skip; rfl; rfl)
      | apply qseq_normal
      | apply qseq_ret
      | apply qseq_exit
      | apply pwp_block
      | apply qblock_normal
      | apply qblock_ret
      | (apply qblock_exit_same; rfl)
      | (apply qblock_exit_other; rfl)
      | apply pwp_skip
      | apply pwp_exit
      | apply pwp_ret
      | apply qround_ret
      | apply qround_exit
      | apply qonce_ret
      | apply qonce_exit
      | (apply pwp_cond_t; rfl)
      | (apply pwp_cond_f; rfl)
      | (apply pwp_region_mix; kernel_rfl; decide +kernel; exact Cl.stable _ _ _)
      | (apply pwp_region_draw; kernel_rfl; kernel_rfl; exact Cl.stable _ _ _)
      | (apply px_guard_ndec; rfl; rfl; rfl; all_goals (intro hc; try (first | contradiction | (exfalso; omega) | (exfalso; simp at hc; done))))
      | (apply px_guard_dec; rfl; rfl; rfl; all_goals (intro hc; try (first | contradiction | (exfalso; omega) | (exfalso; simp at hc; done))))
      | (apply px_guard_not; rfl; rfl; rfl; all_goals (intro hc; try (first | contradiction | (exfalso; omega) | (exfalso; simp at hc; done))))
      | (apply px_guard; rfl; rfl; rfl; all_goals (intro hc; (first | contradiction | (fail_if_success (cases hc); try (first | (exfalso; omega) | (exfalso; simp at hc; done))))))
      | (apply pwp_cond_ndec; rfl; all_goals (intro hc; try (first | contradiction | (exfalso; omega) | (exfalso; simp at hc; done))))
      | (apply pwp_cond_dec; rfl; all_goals (intro hc; try (first | contradiction | (exfalso; omega) | (exfalso; simp at hc; done))))
      | (apply pwp_cond_not; rfl; all_goals (intro hc; try (first | contradiction | (exfalso; omega) | (exfalso; simp at hc; done))))
      | (apply pwp_cond; rfl; all_goals (intro hc; try (first | contradiction | (exfalso; omega) | (exfalso; simp at hc; done))))
      | (apply px_box; rfl; rfl; rfl; rfl; intro bk)
      | (apply px_gives; rfl; rfl; rfl; rfl; rfl; exact fun w hw => i_firstList_c _ 4 _ rows _ _ [] _ (fun _ => true) (fun l => decide (twoP size rows l)) _ (by first | exact hw.arr (by assumption) | exact hw.rowArr (k := 0) rfl | exact hw.rowArr (k := 1) rfl | exact hw.rowArr (k := 2) rfl | exact hw.rowArr (k := 3) rfl | exact hw.rowArr (k := 4) rfl | exact hw.rowArr (k := 5) rfl | exact hw.rowArr (k := 6) rfl | exact hw.rowArr (k := 7) rfl | exact hw.rowArr (k := 8) rfl | exact hw.rowArr (k := 9) rfl | exact hw.rowArr (k := 10) rfl | exact hw.rowArr (k := 11) rfl | exact hw.rowArr (k := 12) rfl | exact hw.rowArr (k := 13) rfl | exact hw.rowArr (k := 14) rfl | exact hw.rowArr (k := 15) rfl | exact hw.rowArr (k := 16) rfl | exact hw.rowArr (k := 17) rfl | exact hw.rowArr (k := 18) rfl | exact hw.rowArr (k := 19) rfl) (by omega) (by omega) (fun x xv w' hb hx => i_always_c _ _) (fun x xv w' hb hx => i_FindTwoEdges_1_c _ _ _ rows x _ _ (Arr.below (by first | exact hw.arr (by assumption) | exact hw.rowArr (k := 0) rfl | exact hw.rowArr (k := 1) rfl | exact hw.rowArr (k := 2) rfl | exact hw.rowArr (k := 3) rfl | exact hw.rowArr (k := 4) rfl | exact hw.rowArr (k := 5) rfl | exact hw.rowArr (k := 6) rfl | exact hw.rowArr (k := 7) rfl | exact hw.rowArr (k := 8) rfl | exact hw.rowArr (k := 9) rfl | exact hw.rowArr (k := 10) rfl | exact hw.rowArr (k := 11) rfl | exact hw.rowArr (k := 12) rfl | exact hw.rowArr (k := 13) rfl | exact hw.rowArr (k := 14) rfl | exact hw.rowArr (k := 15) rfl | exact hw.rowArr (k := 16) rfl | exact hw.rowArr (k := 17) rfl | exact hw.rowArr (k := 18) rfl | exact hw.rowArr (k := 19) rfl) hb) hx (Bk.below (hw.bk (k := 0) rfl) hb)); rintro _ _ ⟨sr, rfl, rfl⟩))
  refine qbody_ret2 rfl rfl rfl ⟨_, ⟨_, rfl, rfl⟩, fun w' h => ?_⟩
  exact Cl.sub (by assumption) (by repeat (first | exact List.Sublist.slnil | exact List.Sublist.refl _ | apply List.Sublist.cons_cons | apply List.Sublist.cons))
theorem en_s_l4Four : Entry Try.prog 114 := ⟨_, Try.func114, by kernel_rfl, rfl⟩
set_option maxHeartbeats 1600000 in
theorem s_l4Four_c (size : Int) (gv : Value) (rows : List Int) (w : World) (hr : Arr w gv (ints rows)) :
    Gives Try.prog 114 #[.agg #[.int .i64 size, gv], .int .i64 0] w (fun v objs => ∃ sv, v = .tuple #[sv, .bool (fourX size rows fun l => decide (twoP size rows l)).isSome] ∧ objs = [.row 3 sv (ints ((fourX size rows fun l => decide (twoP size rows l)).getD []))]) := by
  refine gives_enter (args := [_, _]) en_s_l4Four Try.func114 rfl Try.ntmps114 rfl ?_
  repeat' (first
      | apply pwp_seq
      | apply pwp_region
      | (apply px_run; (first
          | (apply opv_move; first | exact hid_int rfl | exact hid_bool rfl | exact hid_ptr rfl | rfl)
          | (apply opv_assign; first | exact hid_int rfl | exact hid_bool rfl | exact hid_ptr rfl | rfl)
          | (apply opv_lss <;> rfl)
          | (apply opv_leq <;> rfl)
          | (apply opv_gtr <;> rfl)
          | (apply opv_geq <;> rfl)
          | (apply opv_eql <;> rfl)
          | (apply opv_neq <;> rfl)
          | (apply opv_and <;> rfl)
          | (apply opv_or <;> rfl)
          | (apply opv_xor <;> rfl)
          | (apply opv_andNot <;> rfl)
          | (apply opv_pick_t <;> rfl)
          | (apply opv_pick_f <;> rfl)
          | (apply opv_not_dec <;> rfl)
          | (apply opv_not <;> rfl)
          | (apply opv_neg <;> rfl)
          | (apply opv_add_in; rfl; rfl; omega)
          | (apply opv_sub_in; rfl; rfl; omega)
          | (apply opv_mul_in; rfl; rfl; omega)
          | (apply opv_shl; rfl; rfl; omega)
          | (apply opv_shr; rfl; rfl; omega)
          | (apply opv_quo; rfl; rfl; omega)
          | (apply opv_rem; rfl; rfl; omega)
          | (apply opv_field fld_G0; rfl)
          | (apply opv_field fld_G1; rfl)
          | (apply opv_load_blk 0; (first | with_reducible exact sc_int | with_reducible exact sc_ints); rfl; rfl; rfl)
          | (apply opv_load_blk 1; (first | with_reducible exact sc_int | with_reducible exact sc_ints); rfl; rfl; rfl)
          | (apply opv_load_blk 2; (first | with_reducible exact sc_int | with_reducible exact sc_ints); rfl; rfl; rfl)
          | (apply opv_load_blk 3; (first | with_reducible exact sc_int | with_reducible exact sc_ints); rfl; rfl; rfl)
          | (apply opv_load_blk 4; (first | with_reducible exact sc_int | with_reducible exact sc_ints); rfl; rfl; rfl)
          | (apply opv_load_ints sc_int; rfl; (first | exact rd_old (by assumption) | exact rd_row 0 rfl | exact rd_row 1 rfl | exact rd_row 2 rfl | exact rd_row 3 rfl | exact rd_row 4 rfl); (first | omega | (simp only [List.length_set]; omega)))
          | (apply opv_index_nat (vs := ints _) el_int; rfl; rfl; (first | exact rd_old (by assumption) | exact rd_row 0 rfl | exact rd_row 1 rfl | exact rd_row 2 rfl | exact rd_row 3 rfl | exact rd_row 4 rfl); (first | (simp only [ints_length]; omega) | (simp [ints]; omega)))
          | (apply opv_index (vs := ints _) el_int; rfl; rfl; (first | exact rd_old (by assumption) | exact rd_row 0 rfl | exact rd_row 1 rfl | exact rd_row 2 rfl | exact rd_row 3 rfl | exact rd_row 4 rfl); omega; (first | (simp only [ints_length]; omega) | (simp [ints]; omega)))
          | (apply opv_len_ints el_int; rfl; (first | exact rd_old (by assumption) | exact rd_row 0 rfl | exact rd_row 1 rfl | exact rd_row 2 rfl | exact rd_row 3 rfl | exact rd_row 4 rfl))
          | (apply opv_load_str 0 st_G; rfl; rfl; rfl)
          | (apply opv_load_str 1 st_G; rfl; rfl; rfl)
          | (apply opv_load_str 2 st_G; rfl; rfl; rfl)
          | (apply opv_load_str 3 st_G; rfl; rfl; rfl)
          | (apply opv_load_str 4 st_G; rfl; rfl; rfl)
          | (apply opv_add <;> rfl)
          | (apply opv_sub <;> rfl)
          | (apply opv_mul <;> rfl)
          | (apply opv_eql_bool ty_bool <;> rfl)
          | (apply opv_neq_bool ty_bool <;> rfl)); rfl; rfl)
      | apply px_nil
      | (apply px_skip; rfl; rfl)
      | apply qseq_normal
      | apply qseq_ret
      | apply qseq_exit
      | apply pwp_block
      | apply qblock_normal
      | apply qblock_ret
      | (apply qblock_exit_same; rfl)
      | (apply qblock_exit_other; rfl)
      | apply pwp_skip
      | apply pwp_exit
      | apply pwp_ret
      | apply qround_ret
      | apply qround_exit
      | apply qonce_ret
      | apply qonce_exit
      | (apply pwp_cond_t; rfl)
      | (apply pwp_cond_f; rfl)
      | (apply pwp_region_mix; kernel_rfl; decide +kernel; exact Cl.stable _ _ _)
      | (apply pwp_region_draw; kernel_rfl; kernel_rfl; exact Cl.stable _ _ _)
      | (apply px_guard_ndec; rfl; rfl; rfl; all_goals (intro hc; try (first | contradiction | (exfalso; omega) | (exfalso; simp at hc; done))))
      | (apply px_guard_dec; rfl; rfl; rfl; all_goals (intro hc; try (first | contradiction | (exfalso; omega) | (exfalso; simp at hc; done))))
      | (apply px_guard_not; rfl; rfl; rfl; all_goals (intro hc; try (first | contradiction | (exfalso; omega) | (exfalso; simp at hc; done))))
      | (apply px_guard; rfl; rfl; rfl; all_goals (intro hc; (first | contradiction | (fail_if_success (cases hc); try (first | (exfalso; omega) | (exfalso; simp at hc; done))))))
      | (apply pwp_cond_ndec; rfl; all_goals (intro hc; try (first | contradiction | (exfalso; omega) | (exfalso; simp at hc; done))))
      | (apply pwp_cond_dec; rfl; all_goals (intro hc; try (first | contradiction | (exfalso; omega) | (exfalso; simp at hc; done))))
      | (apply pwp_cond_not; rfl; all_goals (intro hc; try (first | contradiction | (exfalso; omega) | (exfalso; simp at hc; done))))
      | (apply pwp_cond; rfl; all_goals (intro hc; try (first | contradiction | (exfalso; omega) | (exfalso; simp at hc; done))))
      | (apply px_box; rfl; rfl; rfl; rfl; intro bk))
  by_cases hg : IsG size rows
  case neg =>
    have hx : (fourX size rows fun l => decide (twoP size rows l)) = none := by unfold fourX; rw [if_neg hg]
    rw [hx]
    refine pwp_loop_once ?_
    repeat' (first
        | apply pwp_seq
        | apply pwp_region
        | (apply px_run; (first
            | (apply opv_move; first | exact hid_int rfl | exact hid_bool rfl | exact hid_ptr rfl | rfl)
            | (apply opv_assign; first | exact hid_int rfl | exact hid_bool rfl | exact hid_ptr rfl | rfl)
            | (apply opv_lss <;> rfl)
            | (apply opv_leq <;> rfl)
            | (apply opv_gtr <;> rfl)
            | (apply opv_geq <;> rfl)
            | (apply opv_eql <;> rfl)
            | (apply opv_neq <;> rfl)
            | (apply opv_and <;> rfl)
            | (apply opv_or <;> rfl)
            | (apply opv_xor <;> rfl)
            | (apply opv_andNot <;> rfl)
            | (apply opv_pick_t <;> rfl)
            | (apply opv_pick_f <;> rfl)
            | (apply opv_not_dec <;> rfl)
            | (apply opv_not <;> rfl)
            | (apply opv_neg <;> rfl)
            | (apply opv_add_in; rfl; rfl; omega)
            | (apply opv_sub_in; rfl; rfl; omega)
            | (apply opv_mul_in; rfl; rfl; omega)
            | (apply opv_shl; rfl; rfl; omega)
            | (apply opv_shr; rfl; rfl; omega)
            | (apply opv_quo; rfl; rfl; omega)
            | (apply opv_rem; rfl; rfl; omega)
            | (apply opv_field fld_G0; rfl)
            | (apply opv_field fld_G1; rfl)
            | (apply opv_load_blk 0; (first | with_reducible exact sc_int | with_reducible exact sc_ints); rfl; rfl; rfl)
            | (apply opv_load_blk 1; (first | with_reducible exact sc_int | with_reducible exact sc_ints); rfl; rfl; rfl)
            | (apply opv_load_blk 2; (first | with_reducible exact sc_int | with_reducible exact sc_ints); rfl; rfl; rfl)
            | (apply opv_load_blk 3; (first | with_reducible exact sc_int | with_reducible exact sc_ints); rfl; rfl; rfl)
            | (apply opv_load_blk 4; (first | with_reducible exact sc_int | with_reducible exact sc_ints); rfl; rfl; rfl)
            | (apply opv_load_ints sc_int; rfl; (first | exact rd_old (by assumption) | exact rd_row 0 rfl | exact rd_row 1 rfl | exact rd_row 2 rfl | exact rd_row 3 rfl | exact rd_row 4 rfl); (first | omega | (simp only [List.length_set]; omega)))
            | (apply opv_index_nat (vs := ints _) el_int; rfl; rfl; (first | exact rd_old (by assumption) | exact rd_row 0 rfl | exact rd_row 1 rfl | exact rd_row 2 rfl | exact rd_row 3 rfl | exact rd_row 4 rfl); (first | (simp only [ints_length]; omega) | (simp [ints]; omega)))
            | (apply opv_index (vs := ints _) el_int; rfl; rfl; (first | exact rd_old (by assumption) | exact rd_row 0 rfl | exact rd_row 1 rfl | exact rd_row 2 rfl | exact rd_row 3 rfl | exact rd_row 4 rfl); omega; (first | (simp only [ints_length]; omega) | (simp [ints]; omega)))
            | (apply opv_len_ints el_int; rfl; (first | exact rd_old (by assumption) | exact rd_row 0 rfl | exact rd_row 1 rfl | exact rd_row 2 rfl | exact rd_row 3 rfl | exact rd_row 4 rfl))
            | (apply opv_load_str 0 st_G; rfl; rfl; rfl)
            | (apply opv_load_str 1 st_G; rfl; rfl; rfl)
            | (apply opv_load_str 2 st_G; rfl; rfl; rfl)
            | (apply opv_load_str 3 st_G; rfl; rfl; rfl)
            | (apply opv_load_str 4 st_G; rfl; rfl; rfl)
            | (apply opv_call; rfl; rfl; exact Cl.stable _ _ _; exact fun w hw => s_IsGraph_c _ _ rows _ (by first | exact hw.arr (by assumption) | exact hw.rowArr (k := 0) rfl | exact hw.rowArr (k := 1) rfl | exact hw.rowArr (k := 2) rfl | exact hw.rowArr (k := 3) rfl | exact hw.rowArr (k := 4) rfl | exact hw.rowArr (k := 5) rfl | exact hw.rowArr (k := 6) rfl | exact hw.rowArr (k := 7) rfl | exact hw.rowArr (k := 8) rfl | exact hw.rowArr (k := 9) rfl | exact hw.rowArr (k := 10) rfl | exact hw.rowArr (k := 11) rfl | exact hw.rowArr (k := 12) rfl | exact hw.rowArr (k := 13) rfl | exact hw.rowArr (k := 14) rfl | exact hw.rowArr (k := 15) rfl | exact hw.rowArr (k := 16) rfl | exact hw.rowArr (k := 17) rfl | exact hw.rowArr (k := 18) rfl | exact hw.rowArr (k := 19) rfl))
            | (apply opv_add <;> rfl)
            | (apply opv_sub <;> rfl)
            | (apply opv_mul <;> rfl)
            | (apply opv_eql_bool ty_bool <;> rfl)
            | (apply opv_neq_bool ty_bool <;> rfl)); rfl; rfl)
        | apply px_nil
        | (apply px_skip; rfl; rfl)
        | apply qseq_normal
        | apply qseq_ret
        | apply qseq_exit
        | apply pwp_block
        | apply qblock_normal
        | apply qblock_ret
        | (apply qblock_exit_same; rfl)
        | (apply qblock_exit_other; rfl)
        | apply pwp_skip
        | apply pwp_exit
        | apply pwp_ret
        | apply qround_ret
        | apply qround_exit
        | apply qonce_ret
        | apply qonce_exit
        | (apply pwp_cond_t; rfl)
        | (apply pwp_cond_f; rfl)
        | (apply pwp_region_mix; kernel_rfl; decide +kernel; exact Cl.stable _ _ _)
        | (apply pwp_region_draw; kernel_rfl; kernel_rfl; exact Cl.stable _ _ _)
        | (apply px_guard_ndec; rfl; rfl; rfl; all_goals (intro hc; try (first | contradiction | (exfalso; omega) | (exfalso; simp at hc; done))))
        | (apply px_guard_dec; rfl; rfl; rfl; all_goals (intro hc; try (first | contradiction | (exfalso; omega) | (exfalso; simp at hc; done))))
        | (apply px_guard_not; rfl; rfl; rfl; all_goals (intro hc; try (first | contradiction | (exfalso; omega) | (exfalso; simp at hc; done))))
        | (apply px_guard; rfl; rfl; rfl; all_goals (intro hc; (first | contradiction | (fail_if_success (cases hc); try (first | (exfalso; omega) | (exfalso; simp at hc; done))))))
        | (apply pwp_cond_ndec; rfl; all_goals (intro hc; try (first | contradiction | (exfalso; omega) | (exfalso; simp at hc; done))))
        | (apply pwp_cond_dec; rfl; all_goals (intro hc; try (first | contradiction | (exfalso; omega) | (exfalso; simp at hc; done))))
        | (apply pwp_cond_not; rfl; all_goals (intro hc; try (first | contradiction | (exfalso; omega) | (exfalso; simp at hc; done))))
        | (apply pwp_cond; rfl; all_goals (intro hc; try (first | contradiction | (exfalso; omega) | (exfalso; simp at hc; done))))
        | (apply px_box; rfl; rfl; rfl; rfl; intro bk)
        | (apply px_lit0i ez_int; rfl; rfl; rfl; intro sv))
    refine qbody_ret2 (v := sv) (v' := .bool false) rfl rfl rfl ⟨[.row 3 sv (ints [])], ⟨sv, rfl, rfl⟩, fun w' h => ?_⟩
    exact Cl.sub (by assumption) (by repeat (first | exact List.Sublist.slnil | exact List.Sublist.refl _ | apply List.Sublist.cons_cons | apply List.Sublist.cons))
  obtain ⟨N, rfl, hrl, hN1, hN7⟩ := isG_size hg
  obtain ⟨⟨q1, q2⟩, ⟨q3, q4⟩, ⟨q5, q6⟩⟩ := pow_bounds hN1 hN7
  have e4 : (N : Int) * N * N * N = ((N * N * N * N : Nat) : Int) := by simp
  have hx : (fourX (N : Int) rows fun l => decide (twoP (N : Int) rows l)) = fourK N (fun l => decide (twoP (N : Int) rows l)) (N * N * N * N) := by unfold fourX; rw [if_pos hg, Int.toNat_natCast]
  rw [hx]
  refine pwp_loop (τ := Nat) [(4,69)] (fun c => [(6, .int .i64 (c : Int))]) (fun _ => Cl [] w [.blk bk [.int .i64 (N : Int), gv]]) (fun c => c ≤ N * N * N * N ∧ fourK N (fun l => decide (twoP (N : Int) rows l)) c = none) (fun c => N * N * N * N - c) 0
    ⟨rfl, trivial⟩ ⟨Nat.zero_le _, rfl⟩ (fun _ h => h) (fun J c hc0 => ?_)
  obtain ⟨hk, hno⟩ := hc0
  by_cases hlt : c < N * N * N * N
  · obtain ⟨g1, g2, g3, g4⟩ := digs_int (N := N) (c := c) (by omega)
    have hd : [w64 ((c : Int).tdiv ((N : Int) * N * N)), (w64 ((c : Int).tdiv ((N : Int) * N))).tmod N, (w64 ((c : Int).tdiv N)).tmod N, (c : Int).tmod N] = digs N c := by rw [g1, g2, g3, g4]; rfl
    have hlt' : (c : Int) < (N : Int) * N * N * N := by omega
    repeat' (first
        | apply pwp_seq
        | apply pwp_region
        | (apply px_run; (first
            | (apply opv_move; first | exact hid_int rfl | exact hid_bool rfl | exact hid_ptr rfl | rfl)
            | (apply opv_assign; first | exact hid_int rfl | exact hid_bool rfl | exact hid_ptr rfl | rfl)
            | (apply opv_lss <;> rfl)
            | (apply opv_leq <;> rfl)
            | (apply opv_gtr <;> rfl)
            | (apply opv_geq <;> rfl)
            | (apply opv_eql <;> rfl)
            | (apply opv_neq <;> rfl)
            | (apply opv_and <;> rfl)
            | (apply opv_or <;> rfl)
            | (apply opv_xor <;> rfl)
            | (apply opv_andNot <;> rfl)
            | (apply opv_pick_t <;> rfl)
            | (apply opv_pick_f <;> rfl)
            | (apply opv_not_dec <;> rfl)
            | (apply opv_not <;> rfl)
            | (apply opv_neg <;> rfl)
            | (apply opv_add_in; rfl; rfl; omega)
            | (apply opv_sub_in; rfl; rfl; omega)
            | (apply opv_mul_in; rfl; rfl; omega)
            | (apply opv_shl; rfl; rfl; omega)
            | (apply opv_shr; rfl; rfl; omega)
            | (apply opv_quo; rfl; rfl; omega)
            | (apply opv_rem; rfl; rfl; omega)
            | (apply opv_field fld_G0; rfl)
            | (apply opv_field fld_G1; rfl)
            | (apply opv_load_blk 0; (first | with_reducible exact sc_int | with_reducible exact sc_ints); rfl; rfl; rfl)
            | (apply opv_load_blk 1; (first | with_reducible exact sc_int | with_reducible exact sc_ints); rfl; rfl; rfl)
            | (apply opv_load_blk 2; (first | with_reducible exact sc_int | with_reducible exact sc_ints); rfl; rfl; rfl)
            | (apply opv_load_blk 3; (first | with_reducible exact sc_int | with_reducible exact sc_ints); rfl; rfl; rfl)
            | (apply opv_load_blk 4; (first | with_reducible exact sc_int | with_reducible exact sc_ints); rfl; rfl; rfl)
            | (apply opv_load_ints sc_int; rfl; (first | exact rd_old (by assumption) | exact rd_row 0 rfl | exact rd_row 1 rfl | exact rd_row 2 rfl | exact rd_row 3 rfl | exact rd_row 4 rfl); (first | omega | (simp only [List.length_set]; omega)))
            | (apply opv_index_nat (vs := ints _) el_int; rfl; rfl; (first | exact rd_old (by assumption) | exact rd_row 0 rfl | exact rd_row 1 rfl | exact rd_row 2 rfl | exact rd_row 3 rfl | exact rd_row 4 rfl); (first | (simp only [ints_length]; omega) | (simp [ints]; omega)))
            | (apply opv_index (vs := ints _) el_int; rfl; rfl; (first | exact rd_old (by assumption) | exact rd_row 0 rfl | exact rd_row 1 rfl | exact rd_row 2 rfl | exact rd_row 3 rfl | exact rd_row 4 rfl); omega; (first | (simp only [ints_length]; omega) | (simp [ints]; omega)))
            | (apply opv_len_ints el_int; rfl; (first | exact rd_old (by assumption) | exact rd_row 0 rfl | exact rd_row 1 rfl | exact rd_row 2 rfl | exact rd_row 3 rfl | exact rd_row 4 rfl))
            | (apply opv_load_str 0 st_G; rfl; rfl; rfl)
            | (apply opv_load_str 1 st_G; rfl; rfl; rfl)
            | (apply opv_load_str 2 st_G; rfl; rfl; rfl)
            | (apply opv_load_str 3 st_G; rfl; rfl; rfl)
            | (apply opv_load_str 4 st_G; rfl; rfl; rfl)
            | (apply opv_call; rfl; rfl; exact Cl.stable _ _ _; exact fun w hw => s_IsGraph_c _ _ rows _ (by first | exact hw.arr (by assumption) | exact hw.rowArr (k := 0) rfl | exact hw.rowArr (k := 1) rfl | exact hw.rowArr (k := 2) rfl | exact hw.rowArr (k := 3) rfl | exact hw.rowArr (k := 4) rfl | exact hw.rowArr (k := 5) rfl | exact hw.rowArr (k := 6) rfl | exact hw.rowArr (k := 7) rfl | exact hw.rowArr (k := 8) rfl | exact hw.rowArr (k := 9) rfl | exact hw.rowArr (k := 10) rfl | exact hw.rowArr (k := 11) rfl | exact hw.rowArr (k := 12) rfl | exact hw.rowArr (k := 13) rfl | exact hw.rowArr (k := 14) rfl | exact hw.rowArr (k := 15) rfl | exact hw.rowArr (k := 16) rfl | exact hw.rowArr (k := 17) rfl | exact hw.rowArr (k := 18) rfl | exact hw.rowArr (k := 19) rfl))
            | (apply opv_call; rfl; rfl; exact Cl.stable _ _ _; exact fun w hw => s_IsTwoEdges_c _ _ _ rows (digs N c) _ (by first | exact hw.arr (by assumption) | exact hw.rowArr (k := 0) rfl | exact hw.rowArr (k := 1) rfl | exact hw.rowArr (k := 2) rfl | exact hw.rowArr (k := 3) rfl | exact hw.rowArr (k := 4) rfl | exact hw.rowArr (k := 5) rfl | exact hw.rowArr (k := 6) rfl | exact hw.rowArr (k := 7) rfl | exact hw.rowArr (k := 8) rfl | exact hw.rowArr (k := 9) rfl | exact hw.rowArr (k := 10) rfl | exact hw.rowArr (k := 11) rfl | exact hw.rowArr (k := 12) rfl | exact hw.rowArr (k := 13) rfl | exact hw.rowArr (k := 14) rfl | exact hw.rowArr (k := 15) rfl | exact hw.rowArr (k := 16) rfl | exact hw.rowArr (k := 17) rfl | exact hw.rowArr (k := 18) rfl | exact hw.rowArr (k := 19) rfl) (cast_arr hd (hw.rowArr (k := 0) rfl)))
            | (apply opv_add <;> rfl)
            | (apply opv_sub <;> rfl)
            | (apply opv_mul <;> rfl)
            | (apply opv_eql_bool ty_bool <;> rfl)
            | (apply opv_neq_bool ty_bool <;> rfl)); rfl; rfl)
        | apply px_nil
        | (apply px_skip; rfl; rfl)
        | apply qseq_normal
        | apply qseq_ret
        | apply qseq_exit
        | apply pwp_block
        | apply qblock_normal
        | apply qblock_ret
        | (apply qblock_exit_same; rfl)
        | (apply qblock_exit_other; rfl)
        | apply pwp_skip
        | apply pwp_exit
        | apply pwp_ret
        | apply qround_ret
        | apply qround_exit
        | apply qonce_ret
        | apply qonce_exit
        | (apply pwp_cond_t; rfl)
        | (apply pwp_cond_f; rfl)
        | (apply pwp_region_mix; kernel_rfl; decide +kernel; exact Cl.stable _ _ _)
        | (apply pwp_region_draw; kernel_rfl; kernel_rfl; exact Cl.stable _ _ _)
        | (apply px_guard_ndec; rfl; rfl; rfl; all_goals (intro hc; try (first | contradiction | (exfalso; omega) | (exfalso; simp at hc; done))))
        | (apply px_guard_dec; rfl; rfl; rfl; all_goals (intro hc; try (first | contradiction | (exfalso; omega) | (exfalso; simp at hc; done))))
        | (apply px_guard_not; rfl; rfl; rfl; all_goals (intro hc; try (first | contradiction | (exfalso; omega) | (exfalso; simp at hc; done))))
        | (apply px_guard; rfl; rfl; rfl; all_goals (intro hc; (first | contradiction | (fail_if_success (cases hc); try (first | (exfalso; omega) | (exfalso; simp at hc; done))))))
        | (apply pwp_cond_ndec; rfl; all_goals (intro hc; try (first | contradiction | (exfalso; omega) | (exfalso; simp at hc; done))))
        | (apply pwp_cond_dec; rfl; all_goals (intro hc; try (first | contradiction | (exfalso; omega) | (exfalso; simp at hc; done))))
        | (apply pwp_cond_not; rfl; all_goals (intro hc; try (first | contradiction | (exfalso; omega) | (exfalso; simp at hc; done))))
        | (apply pwp_cond; rfl; all_goals (intro hc; try (first | contradiction | (exfalso; omega) | (exfalso; simp at hc; done))))
        | (apply px_box; rfl; rfl; rfl; rfl; intro bk)
        | (apply px_lit4 ez_int; rfl; (intro w hw; (first | rfl | exact stor_row 0 hw rfl | exact stor_row 1 hw rfl | exact stor_row 2 hw rfl | exact stor_row 3 hw rfl | exact stor_row 4 hw rfl | exact stor_arr (by assumption))); rfl; (intro w hw; (first | rfl | exact stor_row 0 hw rfl | exact stor_row 1 hw rfl | exact stor_row 2 hw rfl | exact stor_row 3 hw rfl | exact stor_row 4 hw rfl | exact stor_arr (by assumption))); rfl; (intro w hw; (first | rfl | exact stor_row 0 hw rfl | exact stor_row 1 hw rfl | exact stor_row 2 hw rfl | exact stor_row 3 hw rfl | exact stor_row 4 hw rfl | exact stor_arr (by assumption))); rfl; (intro w hw; (first | rfl | exact stor_row 0 hw rfl | exact stor_row 1 hw rfl | exact stor_row 2 hw rfl | exact stor_row 3 hw rfl | exact stor_row 4 hw rfl | exact stor_arr (by assumption))); rfl; rfl; rfl; intro sv))
    all_goals first
      | (refine qround_normal ?_ ⟨c + 1, ⟨rfl, trivial⟩, ⟨by omega, by rw [fourK_succ _ _ _ hno, if_neg (by first | (simpa using hc) | assumption | (intro hcc; simp_all))]⟩, by omega, fun w' h => by exact Cl.sub (by assumption) (by repeat (first | exact List.Sublist.slnil | exact List.Sublist.refl _ | apply List.Sublist.cons_cons | apply List.Sublist.cons))⟩
         repeat (first | exact same_refl | refine same_upd rfl ?_ | refine same_junk rfl ?_))
      | (rw [fourK_hit hno hlt (decide_eq_true hc)]
         refine qbody_ret2 (v := sv) (v' := .bool true) rfl rfl rfl ⟨[.row 3 sv (ints (digs N c))], ⟨sv, rfl, rfl⟩, fun w' h => ?_⟩
         rw [← hd]
         exact Cl.sub (by assumption) (by repeat (first | exact List.Sublist.slnil | exact List.Sublist.refl _ | apply List.Sublist.cons_cons | apply List.Sublist.cons)))
  · obtain rfl : c = N * N * N * N := by omega
    have hlt' : ¬ (((N * N * N * N : Nat) : Int)) < (N : Int) * N * N * N := by omega
    rw [hno]
    repeat' (first
        | apply pwp_seq
        | apply pwp_region
        | (apply px_run; (first
            | (apply opv_move; first | exact hid_int rfl | exact hid_bool rfl | exact hid_ptr rfl | rfl)
            | (apply opv_assign; first | exact hid_int rfl | exact hid_bool rfl | exact hid_ptr rfl | rfl)
            | (apply opv_lss <;> rfl)
            | (apply opv_leq <;> rfl)
            | (apply opv_gtr <;> rfl)
            | (apply opv_geq <;> rfl)
            | (apply opv_eql <;> rfl)
            | (apply opv_neq <;> rfl)
            | (apply opv_and <;> rfl)
            | (apply opv_or <;> rfl)
            | (apply opv_xor <;> rfl)
            | (apply opv_andNot <;> rfl)
            | (apply opv_pick_t <;> rfl)
            | (apply opv_pick_f <;> rfl)
            | (apply opv_not_dec <;> rfl)
            | (apply opv_not <;> rfl)
            | (apply opv_neg <;> rfl)
            | (apply opv_add_in; rfl; rfl; omega)
            | (apply opv_sub_in; rfl; rfl; omega)
            | (apply opv_mul_in; rfl; rfl; omega)
            | (apply opv_shl; rfl; rfl; omega)
            | (apply opv_shr; rfl; rfl; omega)
            | (apply opv_quo; rfl; rfl; omega)
            | (apply opv_rem; rfl; rfl; omega)
            | (apply opv_field fld_G0; rfl)
            | (apply opv_field fld_G1; rfl)
            | (apply opv_load_blk 0; (first | with_reducible exact sc_int | with_reducible exact sc_ints); rfl; rfl; rfl)
            | (apply opv_load_blk 1; (first | with_reducible exact sc_int | with_reducible exact sc_ints); rfl; rfl; rfl)
            | (apply opv_load_blk 2; (first | with_reducible exact sc_int | with_reducible exact sc_ints); rfl; rfl; rfl)
            | (apply opv_load_blk 3; (first | with_reducible exact sc_int | with_reducible exact sc_ints); rfl; rfl; rfl)
            | (apply opv_load_blk 4; (first | with_reducible exact sc_int | with_reducible exact sc_ints); rfl; rfl; rfl)
            | (apply opv_load_ints sc_int; rfl; (first | exact rd_old (by assumption) | exact rd_row 0 rfl | exact rd_row 1 rfl | exact rd_row 2 rfl | exact rd_row 3 rfl | exact rd_row 4 rfl); (first | omega | (simp only [List.length_set]; omega)))
            | (apply opv_index_nat (vs := ints _) el_int; rfl; rfl; (first | exact rd_old (by assumption) | exact rd_row 0 rfl | exact rd_row 1 rfl | exact rd_row 2 rfl | exact rd_row 3 rfl | exact rd_row 4 rfl); (first | (simp only [ints_length]; omega) | (simp [ints]; omega)))
            | (apply opv_index (vs := ints _) el_int; rfl; rfl; (first | exact rd_old (by assumption) | exact rd_row 0 rfl | exact rd_row 1 rfl | exact rd_row 2 rfl | exact rd_row 3 rfl | exact rd_row 4 rfl); omega; (first | (simp only [ints_length]; omega) | (simp [ints]; omega)))
            | (apply opv_len_ints el_int; rfl; (first | exact rd_old (by assumption) | exact rd_row 0 rfl | exact rd_row 1 rfl | exact rd_row 2 rfl | exact rd_row 3 rfl | exact rd_row 4 rfl))
            | (apply opv_load_str 0 st_G; rfl; rfl; rfl)
            | (apply opv_load_str 1 st_G; rfl; rfl; rfl)
            | (apply opv_load_str 2 st_G; rfl; rfl; rfl)
            | (apply opv_load_str 3 st_G; rfl; rfl; rfl)
            | (apply opv_load_str 4 st_G; rfl; rfl; rfl)
            | (apply opv_call; rfl; rfl; exact Cl.stable _ _ _; exact fun w hw => s_IsGraph_c _ _ rows _ (by first | exact hw.arr (by assumption) | exact hw.rowArr (k := 0) rfl | exact hw.rowArr (k := 1) rfl | exact hw.rowArr (k := 2) rfl | exact hw.rowArr (k := 3) rfl | exact hw.rowArr (k := 4) rfl | exact hw.rowArr (k := 5) rfl | exact hw.rowArr (k := 6) rfl | exact hw.rowArr (k := 7) rfl | exact hw.rowArr (k := 8) rfl | exact hw.rowArr (k := 9) rfl | exact hw.rowArr (k := 10) rfl | exact hw.rowArr (k := 11) rfl | exact hw.rowArr (k := 12) rfl | exact hw.rowArr (k := 13) rfl | exact hw.rowArr (k := 14) rfl | exact hw.rowArr (k := 15) rfl | exact hw.rowArr (k := 16) rfl | exact hw.rowArr (k := 17) rfl | exact hw.rowArr (k := 18) rfl | exact hw.rowArr (k := 19) rfl))
            | (apply opv_add <;> rfl)
            | (apply opv_sub <;> rfl)
            | (apply opv_mul <;> rfl)
            | (apply opv_eql_bool ty_bool <;> rfl)
            | (apply opv_neq_bool ty_bool <;> rfl)); rfl; rfl)
        | apply px_nil
        | (apply px_skip; rfl; rfl)
        | apply qseq_normal
        | apply qseq_ret
        | apply qseq_exit
        | apply pwp_block
        | apply qblock_normal
        | apply qblock_ret
        | (apply qblock_exit_same; rfl)
        | (apply qblock_exit_other; rfl)
        | apply pwp_skip
        | apply pwp_exit
        | apply pwp_ret
        | apply qround_ret
        | apply qround_exit
        | apply qonce_ret
        | apply qonce_exit
        | (apply pwp_cond_t; rfl)
        | (apply pwp_cond_f; rfl)
        | (apply pwp_region_mix; kernel_rfl; decide +kernel; exact Cl.stable _ _ _)
        | (apply pwp_region_draw; kernel_rfl; kernel_rfl; exact Cl.stable _ _ _)
        | (apply px_guard_ndec; rfl; rfl; rfl; all_goals (intro hc; try (first | contradiction | (exfalso; omega) | (exfalso; simp at hc; done))))
        | (apply px_guard_dec; rfl; rfl; rfl; all_goals (intro hc; try (first | contradiction | (exfalso; omega) | (exfalso; simp at hc; done))))
        | (apply px_guard_not; rfl; rfl; rfl; all_goals (intro hc; try (first | contradiction | (exfalso; omega) | (exfalso; simp at hc; done))))
        | (apply px_guard; rfl; rfl; rfl; all_goals (intro hc; (first | contradiction | (fail_if_success (cases hc); try (first | (exfalso; omega) | (exfalso; simp at hc; done))))))
        | (apply pwp_cond_ndec; rfl; all_goals (intro hc; try (first | contradiction | (exfalso; omega) | (exfalso; simp at hc; done))))
        | (apply pwp_cond_dec; rfl; all_goals (intro hc; try (first | contradiction | (exfalso; omega) | (exfalso; simp at hc; done))))
        | (apply pwp_cond_not; rfl; all_goals (intro hc; try (first | contradiction | (exfalso; omega) | (exfalso; simp at hc; done))))
        | (apply pwp_cond; rfl; all_goals (intro hc; try (first | contradiction | (exfalso; omega) | (exfalso; simp at hc; done))))
        | (apply px_box; rfl; rfl; rfl; rfl; intro bk)
        | (apply px_lit0i ez_int; rfl; rfl; rfl; intro sv))
    refine qbody_ret2 (v := sv) (v' := .bool false) rfl rfl rfl ⟨[.row 3 sv (ints [])], ⟨sv, rfl, rfl⟩, fun w' h => ?_⟩
    exact Cl.sub (by assumption) (by repeat (first | exact List.Sublist.slnil | exact List.Sublist.refl _ | apply List.Sublist.cons_cons | apply List.Sublist.cons))
theorem en_s_FindTwoEdges : Entry Try.prog 65 := ⟨_, Try.func65, by kernel_rfl, rfl⟩
theorem s_FindTwoEdges_c (size : Int) (gv : Value) (rows : List Int) (w : World) (hr : Arr w gv (ints rows)) :
    Gives Try.prog 65 #[.agg #[.int .i64 size, gv]] w (fun v objs => ∃ sv, v = .tuple #[sv, .bool (fourX size rows fun l => decide (twoP size rows l)).isSome] ∧ objs = [.row 3 sv (ints ((fourX size rows fun l => decide (twoP size rows l)).getD []))]) := by
  refine gives_enter (args := [_]) en_s_FindTwoEdges Try.func65 rfl Try.ntmps65 rfl ?_
  repeat' (first
      | apply pwp_seq
      | apply pwp_region
      | (apply px_run; (first
          | (apply opv_move; first | exact hid_int rfl | exact hid_bool rfl | exact hid_ptr rfl | rfl)
          | (apply opv_assign; first | exact hid_int rfl | exact hid_bool rfl | exact hid_ptr rfl | rfl)
          | (apply opv_lss <;> rfl)
          | (apply opv_leq <;> rfl)
          | (apply opv_gtr <;> rfl)
          | (apply opv_geq <;> rfl)
          | (apply opv_eql <;> rfl)
          | (apply opv_neq <;> rfl)
          | (apply opv_and <;> rfl)
          | (apply opv_or <;> rfl)
          | (apply opv_xor <;> rfl)
          | (apply opv_andNot <;> rfl)
          | (apply opv_pick_t <;> rfl)
          | (apply opv_pick_f <;> rfl)
          | (apply opv_not_dec <;> rfl)
          | (apply opv_not <;> rfl)
          | (apply opv_neg <;> rfl)
          | (apply opv_add_in; rfl; rfl; omega)
          | (apply opv_sub_in; rfl; rfl; omega)
          | (apply opv_mul_in; rfl; rfl; omega)
          | (apply opv_shl; rfl; rfl; omega)
          | (apply opv_shr; rfl; rfl; omega)
          | (apply opv_quo; rfl; rfl; omega)
          | (apply opv_rem; rfl; rfl; omega)
          | (apply opv_field fld_G0; rfl)
          | (apply opv_field fld_G1; rfl)
          | (apply opv_load_blk 0; (first | with_reducible exact sc_int | with_reducible exact sc_ints); rfl; rfl; rfl)
          | (apply opv_load_blk 1; (first | with_reducible exact sc_int | with_reducible exact sc_ints); rfl; rfl; rfl)
          | (apply opv_load_blk 2; (first | with_reducible exact sc_int | with_reducible exact sc_ints); rfl; rfl; rfl)
          | (apply opv_load_blk 3; (first | with_reducible exact sc_int | with_reducible exact sc_ints); rfl; rfl; rfl)
          | (apply opv_load_blk 4; (first | with_reducible exact sc_int | with_reducible exact sc_ints); rfl; rfl; rfl)
          | (apply opv_load_ints sc_int; rfl; (first | exact rd_old (by assumption) | exact rd_row 0 rfl | exact rd_row 1 rfl | exact rd_row 2 rfl | exact rd_row 3 rfl | exact rd_row 4 rfl); (first | omega | (simp only [List.length_set]; omega)))
          | (apply opv_index_nat (vs := ints _) el_int; rfl; rfl; (first | exact rd_old (by assumption) | exact rd_row 0 rfl | exact rd_row 1 rfl | exact rd_row 2 rfl | exact rd_row 3 rfl | exact rd_row 4 rfl); (first | (simp only [ints_length]; omega) | (simp [ints]; omega)))
          | (apply opv_index (vs := ints _) el_int; rfl; rfl; (first | exact rd_old (by assumption) | exact rd_row 0 rfl | exact rd_row 1 rfl | exact rd_row 2 rfl | exact rd_row 3 rfl | exact rd_row 4 rfl); omega; (first | (simp only [ints_length]; omega) | (simp [ints]; omega)))
          | (apply opv_len_ints el_int; rfl; (first | exact rd_old (by assumption) | exact rd_row 0 rfl | exact rd_row 1 rfl | exact rd_row 2 rfl | exact rd_row 3 rfl | exact rd_row 4 rfl))
          | (apply opv_load_str 0 st_G; rfl; rfl; rfl)
          | (apply opv_load_str 1 st_G; rfl; rfl; rfl)
          | (apply opv_load_str 2 st_G; rfl; rfl; rfl)
          | (apply opv_load_str 3 st_G; rfl; rfl; rfl)
          | (apply opv_load_str 4 st_G; rfl; rfl; rfl)
          | (apply opv_extract; rfl; rfl)
          | (apply opv_add <;> rfl)
          | (apply opv_sub <;> rfl)
          | (apply opv_mul <;> rfl)
          | (apply opv_eql_bool ty_bool <;> rfl)
          | (apply opv_neq_bool ty_bool <;> rfl)); rfl; rfl)
      | apply px_nil
      | (apply px_skip; rfl; rfl)
      | apply qseq_normal
      | apply qseq_ret
      | apply qseq_exit
      | apply pwp_block
      | apply qblock_normal
      | apply qblock_ret
      | (apply qblock_exit_same; rfl)
      | (apply qblock_exit_other; rfl)
      | apply pwp_skip
      | apply pwp_exit
      | apply pwp_ret
      | apply qround_ret
      | apply qround_exit
      | apply qonce_ret
      | apply qonce_exit
      | (apply pwp_cond_t; rfl)
      | (apply pwp_cond_f; rfl)
      | (apply pwp_region_mix; kernel_rfl; decide +kernel; exact Cl.stable _ _ _)
      | (apply pwp_region_draw; kernel_rfl; kernel_rfl; exact Cl.stable _ _ _)
      | (apply px_guard_ndec; rfl; rfl; rfl; all_goals (intro hc; try (first | contradiction | (exfalso; omega) | (exfalso; simp at hc; done))))
      | (apply px_guard_dec; rfl; rfl; rfl; all_goals (intro hc; try (first | contradiction | (exfalso; omega) | (exfalso; simp at hc; done))))
      | (apply px_guard_not; rfl; rfl; rfl; all_goals (intro hc; try (first | contradiction | (exfalso; omega) | (exfalso; simp at hc; done))))
      | (apply px_guard; rfl; rfl; rfl; all_goals (intro hc; (first | contradiction | (fail_if_success (cases hc); try (first | (exfalso; omega) | (exfalso; simp at hc; done))))))
      | (apply pwp_cond_ndec; rfl; all_goals (intro hc; try (first | contradiction | (exfalso; omega) | (exfalso; simp at hc; done))))
      | (apply pwp_cond_dec; rfl; all_goals (intro hc; try (first | contradiction | (exfalso; omega) | (exfalso; simp at hc; done))))
      | (apply pwp_cond_not; rfl; all_goals (intro hc; try (first | contradiction | (exfalso; omega) | (exfalso; simp at hc; done))))
      | (apply pwp_cond; rfl; all_goals (intro hc; try (first | contradiction | (exfalso; omega) | (exfalso; simp at hc; done))))
      | (apply px_box; rfl; rfl; rfl; rfl; intro bk)
      | (apply px_gives; rfl; rfl; rfl; rfl; rfl; exact fun w hw => s_l4Four_c _ _ rows _ (by first | exact hw.arr (by assumption) | exact hw.rowArr (k := 0) rfl | exact hw.rowArr (k := 1) rfl | exact hw.rowArr (k := 2) rfl | exact hw.rowArr (k := 3) rfl | exact hw.rowArr (k := 4) rfl | exact hw.rowArr (k := 5) rfl | exact hw.rowArr (k := 6) rfl | exact hw.rowArr (k := 7) rfl | exact hw.rowArr (k := 8) rfl | exact hw.rowArr (k := 9) rfl | exact hw.rowArr (k := 10) rfl | exact hw.rowArr (k := 11) rfl | exact hw.rowArr (k := 12) rfl | exact hw.rowArr (k := 13) rfl | exact hw.rowArr (k := 14) rfl | exact hw.rowArr (k := 15) rfl | exact hw.rowArr (k := 16) rfl | exact hw.rowArr (k := 17) rfl | exact hw.rowArr (k := 18) rfl | exact hw.rowArr (k := 19) rfl); rintro _ _ ⟨sr, rfl, rfl⟩))
  refine qbody_ret2 rfl rfl rfl ⟨_, ⟨_, rfl, rfl⟩, fun w' h => ?_⟩
  exact Cl.sub (by assumption) (by repeat (first | exact List.Sublist.slnil | exact List.Sublist.refl _ | apply List.Sublist.cons_cons | apply List.Sublist.cons))
theorem en_i_FindHole_1 : Entry Try.prog 116 := ⟨_, Try.func116, by kernel_rfl, rfl⟩
theorem i_FindHole_1_c (size : Int) (gv lv : Value) (rows l : List Int) (n bn bg : Nat) (w : World) (hr : Arr w gv (ints rows)) (hv : Arr w lv (ints l)) (hn : Bk w bn [.int .i64 (n : Int)]) (hb : Bk w bg [.int .i64 size, gv]) :
    Pure Try.prog 116 #[lv, .pointer (some ⟨bn, 0, none⟩), .pointer (some ⟨bg, 0, none⟩)] w (.bool (decide (l.length = n) || decide (pathP size rows l))) := by
  refine pure_enter (args := [_, _, _]) en_i_FindHole_1 Try.func116 rfl Try.ntmps116 rfl ?_
  repeat' (first
      | apply pwp_seq
      | apply pwp_region
      | (apply px_run; (first
          | (apply opv_move; first | exact hid_int rfl | exact hid_bool rfl | exact hid_ptr rfl | rfl)
          | (apply opv_assign; first | exact hid_int rfl | exact hid_bool rfl | exact hid_ptr rfl | rfl)
          | (apply opv_lss <;> rfl)
          | (apply opv_leq <;> rfl)
          | (apply opv_gtr <;> rfl)
          | (apply opv_geq <;> rfl)
          | (apply opv_eql <;> rfl)
          | (apply opv_neq <;> rfl)
          | (apply opv_and <;> rfl)
          | (apply opv_or <;> rfl)
          | (apply opv_xor <;> rfl)
          | (apply opv_andNot <;> rfl)
          | (apply opv_pick_t <;> rfl)
          | (apply opv_pick_f <;> rfl)
          | (apply opv_not_dec <;> rfl)
          | (apply opv_not <;> rfl)
          | (apply opv_neg <;> rfl)
          | (apply opv_add_in; rfl; rfl; omega)
          | (apply opv_sub_in; rfl; rfl; omega)
          | (apply opv_mul_in; rfl; rfl; omega)
          | (apply opv_shl; rfl; rfl; omega)
          | (apply opv_shr; rfl; rfl; omega)
          | (apply opv_quo; rfl; rfl; omega)
          | (apply opv_rem; rfl; rfl; omega)
          | (apply opv_field fld_G0; rfl)
          | (apply opv_field fld_G1; rfl)
          | (apply opv_load_blk 0; (first | with_reducible exact sc_int | with_reducible exact sc_ints); rfl; rfl; rfl)
          | (apply opv_load_blk 1; (first | with_reducible exact sc_int | with_reducible exact sc_ints); rfl; rfl; rfl)
          | (apply opv_load_blk 2; (first | with_reducible exact sc_int | with_reducible exact sc_ints); rfl; rfl; rfl)
          | (apply opv_load_blk 3; (first | with_reducible exact sc_int | with_reducible exact sc_ints); rfl; rfl; rfl)
          | (apply opv_load_blk 4; (first | with_reducible exact sc_int | with_reducible exact sc_ints); rfl; rfl; rfl)
          | (apply opv_load_ints sc_int; rfl; (first | exact rd_old (by assumption) | exact rd_row 0 rfl | exact rd_row 1 rfl | exact rd_row 2 rfl | exact rd_row 3 rfl | exact rd_row 4 rfl); (first | omega | (simp only [List.length_set]; omega)))
          | (apply opv_index_nat (vs := ints _) el_int; rfl; rfl; (first | exact rd_old (by assumption) | exact rd_row 0 rfl | exact rd_row 1 rfl | exact rd_row 2 rfl | exact rd_row 3 rfl | exact rd_row 4 rfl); (first | (simp only [ints_length]; omega) | (simp [ints]; omega)))
          | (apply opv_index (vs := ints _) el_int; rfl; rfl; (first | exact rd_old (by assumption) | exact rd_row 0 rfl | exact rd_row 1 rfl | exact rd_row 2 rfl | exact rd_row 3 rfl | exact rd_row 4 rfl); omega; (first | (simp only [ints_length]; omega) | (simp [ints]; omega)))
          | (apply opv_len_ints el_int; rfl; (first | exact rd_old (by assumption) | exact rd_row 0 rfl | exact rd_row 1 rfl | exact rd_row 2 rfl | exact rd_row 3 rfl | exact rd_row 4 rfl))
          | (apply opv_load_str 0 st_G; rfl; rfl; rfl)
          | (apply opv_load_str 1 st_G; rfl; rfl; rfl)
          | (apply opv_load_str 2 st_G; rfl; rfl; rfl)
          | (apply opv_load_str 3 st_G; rfl; rfl; rfl)
          | (apply opv_load_str 4 st_G; rfl; rfl; rfl)
          | (apply opv_load_old; (first | with_reducible exact sc_int | with_reducible exact sc_ints); rfl; assumption; rfl)
          | (apply opv_load_old_str st_G; rfl; assumption; rfl)
          | (apply opv_call; rfl; rfl; exact Cl.stable _ _ _; exact fun w hw => i_IsInducedPath_c _ _ _ rows l _ (by first | exact hw.arr (by assumption) | exact hw.rowArr (k := 0) rfl | exact hw.rowArr (k := 1) rfl | exact hw.rowArr (k := 2) rfl | exact hw.rowArr (k := 3) rfl | exact hw.rowArr (k := 4) rfl | exact hw.rowArr (k := 5) rfl | exact hw.rowArr (k := 6) rfl | exact hw.rowArr (k := 7) rfl | exact hw.rowArr (k := 8) rfl | exact hw.rowArr (k := 9) rfl | exact hw.rowArr (k := 10) rfl | exact hw.rowArr (k := 11) rfl | exact hw.rowArr (k := 12) rfl | exact hw.rowArr (k := 13) rfl | exact hw.rowArr (k := 14) rfl | exact hw.rowArr (k := 15) rfl | exact hw.rowArr (k := 16) rfl | exact hw.rowArr (k := 17) rfl | exact hw.rowArr (k := 18) rfl | exact hw.rowArr (k := 19) rfl) (by first | exact hw.arr (by assumption) | exact hw.rowArr (k := 0) rfl | exact hw.rowArr (k := 1) rfl | exact hw.rowArr (k := 2) rfl | exact hw.rowArr (k := 3) rfl | exact hw.rowArr (k := 4) rfl | exact hw.rowArr (k := 5) rfl | exact hw.rowArr (k := 6) rfl | exact hw.rowArr (k := 7) rfl | exact hw.rowArr (k := 8) rfl | exact hw.rowArr (k := 9) rfl | exact hw.rowArr (k := 10) rfl | exact hw.rowArr (k := 11) rfl | exact hw.rowArr (k := 12) rfl | exact hw.rowArr (k := 13) rfl | exact hw.rowArr (k := 14) rfl | exact hw.rowArr (k := 15) rfl | exact hw.rowArr (k := 16) rfl | exact hw.rowArr (k := 17) rfl | exact hw.rowArr (k := 18) rfl | exact hw.rowArr (k := 19) rfl))
          | (apply opv_add <;> rfl)
          | (apply opv_sub <;> rfl)
          | (apply opv_mul <;> rfl)
          | (apply opv_eql_bool ty_bool <;> rfl)
          | (apply opv_neq_bool ty_bool <;> rfl)); rfl; rfl)
      | apply px_nil
      | (apply px_skip; rfl; rfl)
      | apply qseq_normal
      | apply qseq_ret
      | apply qseq_exit
      | apply pwp_block
      | apply qblock_normal
      | apply qblock_ret
      | (apply qblock_exit_same; rfl)
      | (apply qblock_exit_other; rfl)
      | apply pwp_skip
      | apply pwp_exit
      | apply pwp_ret
      | apply qround_ret
      | apply qround_exit
      | apply qonce_ret
      | apply qonce_exit
      | (apply pwp_cond_t; rfl)
      | (apply pwp_cond_f; rfl)
      | (apply pwp_region_mix; kernel_rfl; decide +kernel; exact Cl.stable _ _ _)
      | (apply pwp_region_draw; kernel_rfl; kernel_rfl; exact Cl.stable _ _ _)
      | (apply px_guard_ndec; rfl; rfl; rfl; all_goals (intro hc; try (first | contradiction | (exfalso; omega) | (exfalso; simp at hc; done))))
      | (apply px_guard_dec; rfl; rfl; rfl; all_goals (intro hc; try (first | contradiction | (exfalso; omega) | (exfalso; simp at hc; done))))
      | (apply px_guard_not; rfl; rfl; rfl; all_goals (intro hc; try (first | contradiction | (exfalso; omega) | (exfalso; simp at hc; done))))
      | (apply px_guard; rfl; rfl; rfl; all_goals (intro hc; (first | contradiction | (fail_if_success (cases hc); try (first | (exfalso; omega) | (exfalso; simp at hc; done))))))
      | (apply pwp_cond_ndec; rfl; all_goals (intro hc; try (first | contradiction | (exfalso; omega) | (exfalso; simp at hc; done))))
      | (apply pwp_cond_dec; rfl; all_goals (intro hc; try (first | contradiction | (exfalso; omega) | (exfalso; simp at hc; done))))
      | (apply pwp_cond_not; rfl; all_goals (intro hc; try (first | contradiction | (exfalso; omega) | (exfalso; simp at hc; done))))
      | (apply pwp_cond; rfl; all_goals (intro hc; try (first | contradiction | (exfalso; omega) | (exfalso; simp at hc; done))))
      | (apply px_box; rfl; rfl; rfl; rfl; intro bk))
  · refine qbody_ret1 (v := .bool true) rfl rfl ⟨by rw [decide_eq_true (show l.length = n by omega)]; rfl, fun _ h => h.below⟩
  · refine qbody_ret1 (v := .bool _) rfl rfl ⟨by rw [decide_eq_false (show ¬ l.length = n by omega), Bool.false_or], fun _ h => h.below⟩
theorem en_i_FindHole_2 : Entry Try.prog 117 := ⟨_, Try.func117, by kernel_rfl, rfl⟩
theorem i_FindHole_2_c (size : Int) (gv lv : Value) (rows l : List Int) (bg : Nat) (w : World) (hr : Arr w gv (ints rows)) (hv : Arr w lv (ints l)) (hb : Bk w bg [.int .i64 size, gv]) :
    Pure Try.prog 117 #[lv, .pointer (some ⟨bg, 0, none⟩)] w (.bool (decide (holeP size rows l))) := by
  refine pure_enter (args := [_, _]) en_i_FindHole_2 Try.func117 rfl Try.ntmps117 rfl ?_
  repeat' (first
      | apply pwp_seq
      | apply pwp_region
      | (apply px_run; (first
          | (apply opv_move; first | exact hid_int rfl | exact hid_bool rfl | exact hid_ptr rfl | rfl)
          | (apply opv_assign; first | exact hid_int rfl | exact hid_bool rfl | exact hid_ptr rfl | rfl)
          | (apply opv_lss <;> rfl)
          | (apply opv_leq <;> rfl)
          | (apply opv_gtr <;> rfl)
          | (apply opv_geq <;> rfl)
          | (apply opv_eql <;> rfl)
          | (apply opv_neq <;> rfl)
          | (apply opv_and <;> rfl)
          | (apply opv_or <;> rfl)
          | (apply opv_xor <;> rfl)
          | (apply opv_andNot <;> rfl)
          | (apply opv_pick_t <;> rfl)
          | (apply opv_pick_f <;> rfl)
          | (apply opv_not_dec <;> rfl)
          | (apply opv_not <;> rfl)
          | (apply opv_neg <;> rfl)
          | (apply opv_add_in; rfl; rfl; omega)
          | (apply opv_sub_in; rfl; rfl; omega)
          | (apply opv_mul_in; rfl; rfl; omega)
          | (apply opv_shl; rfl; rfl; omega)
          | (apply opv_shr; rfl; rfl; omega)
          | (apply opv_quo; rfl; rfl; omega)
          | (apply opv_rem; rfl; rfl; omega)
          | (apply opv_field fld_G0; rfl)
          | (apply opv_field fld_G1; rfl)
          | (apply opv_load_blk 0; (first | with_reducible exact sc_int | with_reducible exact sc_ints); rfl; rfl; rfl)
          | (apply opv_load_blk 1; (first | with_reducible exact sc_int | with_reducible exact sc_ints); rfl; rfl; rfl)
          | (apply opv_load_blk 2; (first | with_reducible exact sc_int | with_reducible exact sc_ints); rfl; rfl; rfl)
          | (apply opv_load_blk 3; (first | with_reducible exact sc_int | with_reducible exact sc_ints); rfl; rfl; rfl)
          | (apply opv_load_blk 4; (first | with_reducible exact sc_int | with_reducible exact sc_ints); rfl; rfl; rfl)
          | (apply opv_load_ints sc_int; rfl; (first | exact rd_old (by assumption) | exact rd_row 0 rfl | exact rd_row 1 rfl | exact rd_row 2 rfl | exact rd_row 3 rfl | exact rd_row 4 rfl); (first | omega | (simp only [List.length_set]; omega)))
          | (apply opv_index_nat (vs := ints _) el_int; rfl; rfl; (first | exact rd_old (by assumption) | exact rd_row 0 rfl | exact rd_row 1 rfl | exact rd_row 2 rfl | exact rd_row 3 rfl | exact rd_row 4 rfl); (first | (simp only [ints_length]; omega) | (simp [ints]; omega)))
          | (apply opv_index (vs := ints _) el_int; rfl; rfl; (first | exact rd_old (by assumption) | exact rd_row 0 rfl | exact rd_row 1 rfl | exact rd_row 2 rfl | exact rd_row 3 rfl | exact rd_row 4 rfl); omega; (first | (simp only [ints_length]; omega) | (simp [ints]; omega)))
          | (apply opv_len_ints el_int; rfl; (first | exact rd_old (by assumption) | exact rd_row 0 rfl | exact rd_row 1 rfl | exact rd_row 2 rfl | exact rd_row 3 rfl | exact rd_row 4 rfl))
          | (apply opv_load_str 0 st_G; rfl; rfl; rfl)
          | (apply opv_load_str 1 st_G; rfl; rfl; rfl)
          | (apply opv_load_str 2 st_G; rfl; rfl; rfl)
          | (apply opv_load_str 3 st_G; rfl; rfl; rfl)
          | (apply opv_load_str 4 st_G; rfl; rfl; rfl)
          | (apply opv_load_old; (first | with_reducible exact sc_int | with_reducible exact sc_ints); rfl; assumption; rfl)
          | (apply opv_load_old_str st_G; rfl; assumption; rfl)
          | (apply opv_call; rfl; rfl; exact Cl.stable _ _ _; exact fun w hw => i_IsHole_c _ _ _ rows l _ (by first | exact hw.arr (by assumption) | exact hw.rowArr (k := 0) rfl | exact hw.rowArr (k := 1) rfl | exact hw.rowArr (k := 2) rfl | exact hw.rowArr (k := 3) rfl | exact hw.rowArr (k := 4) rfl | exact hw.rowArr (k := 5) rfl | exact hw.rowArr (k := 6) rfl | exact hw.rowArr (k := 7) rfl | exact hw.rowArr (k := 8) rfl | exact hw.rowArr (k := 9) rfl | exact hw.rowArr (k := 10) rfl | exact hw.rowArr (k := 11) rfl | exact hw.rowArr (k := 12) rfl | exact hw.rowArr (k := 13) rfl | exact hw.rowArr (k := 14) rfl | exact hw.rowArr (k := 15) rfl | exact hw.rowArr (k := 16) rfl | exact hw.rowArr (k := 17) rfl | exact hw.rowArr (k := 18) rfl | exact hw.rowArr (k := 19) rfl) (by first | exact hw.arr (by assumption) | exact hw.rowArr (k := 0) rfl | exact hw.rowArr (k := 1) rfl | exact hw.rowArr (k := 2) rfl | exact hw.rowArr (k := 3) rfl | exact hw.rowArr (k := 4) rfl | exact hw.rowArr (k := 5) rfl | exact hw.rowArr (k := 6) rfl | exact hw.rowArr (k := 7) rfl | exact hw.rowArr (k := 8) rfl | exact hw.rowArr (k := 9) rfl | exact hw.rowArr (k := 10) rfl | exact hw.rowArr (k := 11) rfl | exact hw.rowArr (k := 12) rfl | exact hw.rowArr (k := 13) rfl | exact hw.rowArr (k := 14) rfl | exact hw.rowArr (k := 15) rfl | exact hw.rowArr (k := 16) rfl | exact hw.rowArr (k := 17) rfl | exact hw.rowArr (k := 18) rfl | exact hw.rowArr (k := 19) rfl))
          | (apply opv_add <;> rfl)
          | (apply opv_sub <;> rfl)
          | (apply opv_mul <;> rfl)
          | (apply opv_eql_bool ty_bool <;> rfl)
          | (apply opv_neq_bool ty_bool <;> rfl)); rfl; rfl)
      | apply px_nil
      | (apply px_skip; rfl; rfl)
      | apply qseq_normal
      | apply qseq_ret
      | apply qseq_exit
      | apply pwp_block
      | apply qblock_normal
      | apply qblock_ret
      | (apply qblock_exit_same; rfl)
      | (apply qblock_exit_other; rfl)
      | apply pwp_skip
      | apply pwp_exit
      | apply pwp_ret
      | apply qround_ret
      | apply qround_exit
      | apply qonce_ret
      | apply qonce_exit
      | (apply pwp_cond_t; rfl)
      | (apply pwp_cond_f; rfl)
      | (apply pwp_region_mix; kernel_rfl; decide +kernel; exact Cl.stable _ _ _)
      | (apply pwp_region_draw; kernel_rfl; kernel_rfl; exact Cl.stable _ _ _)
      | (apply px_guard_ndec; rfl; rfl; rfl; all_goals (intro hc; try (first | contradiction | (exfalso; omega) | (exfalso; simp at hc; done))))
      | (apply px_guard_dec; rfl; rfl; rfl; all_goals (intro hc; try (first | contradiction | (exfalso; omega) | (exfalso; simp at hc; done))))
      | (apply px_guard_not; rfl; rfl; rfl; all_goals (intro hc; try (first | contradiction | (exfalso; omega) | (exfalso; simp at hc; done))))
      | (apply px_guard; rfl; rfl; rfl; all_goals (intro hc; (first | contradiction | (fail_if_success (cases hc); try (first | (exfalso; omega) | (exfalso; simp at hc; done))))))
      | (apply pwp_cond_ndec; rfl; all_goals (intro hc; try (first | contradiction | (exfalso; omega) | (exfalso; simp at hc; done))))
      | (apply pwp_cond_dec; rfl; all_goals (intro hc; try (first | contradiction | (exfalso; omega) | (exfalso; simp at hc; done))))
      | (apply pwp_cond_not; rfl; all_goals (intro hc; try (first | contradiction | (exfalso; omega) | (exfalso; simp at hc; done))))
      | (apply pwp_cond; rfl; all_goals (intro hc; try (first | contradiction | (exfalso; omega) | (exfalso; simp at hc; done))))
      | (apply px_box; rfl; rfl; rfl; rfl; intro bk))
  refine qbody_ret1 (v := .bool _) rfl rfl ⟨rfl, fun _ h => h.below⟩
theorem en_i_FindHole : Entry Try.prog 68 := ⟨_, Try.func68, by kernel_rfl, rfl⟩
theorem holeK_mono {size : Int} {rows : List Int} {k m : Nat} (h : holeK size rows k = none) (hm : m ≤ k) : holeK size rows m = none := by
  unfold holeK at h ⊢
  rw [List.findSome?_eq_none_iff] at h ⊢
  exact fun i hi => h i (List.mem_range.2 (Nat.lt_of_lt_of_le (List.mem_range.1 hi) hm))
theorem holeX_end {size : Int} {rows : List Int} {k : Nat} (h : holeK size rows k = none) (hk : IsG size rows → size < 4 + k) : holeX size rows = none := by
  by_cases hg : IsG size rows
  · have := hk hg
    have := hg.1
    exact holeK_mono h (by omega)
  · exact holeX_none hg
theorem holeX_hit {size : Int} {rows : List Int} {k : Nat} {L : List Int} (h : holeK size rows k = none) (hk : (4 : Int) + k ≤ size) (hL : holeT size rows (4 + k) = some L) : holeX size rows = some L :=
  holeK_hit h (by omega) hL
set_option maxHeartbeats 1600000 in
theorem i_FindHole_c (size : Int) (gv : Value) (rows : List Int) (w : World) (hr : Arr w gv (ints rows)) :
    Gives Try.prog 68 #[.agg #[.int .i64 size, gv]] w (fun v objs => ∃ sv, v = .tuple #[sv, .bool (holeX size rows).isSome] ∧ objs = [.row 3 sv (ints ((holeX size rows).getD []))]) := by
  refine gives_enter (args := [_]) en_i_FindHole Try.func68 rfl Try.ntmps68 rfl ?_
  repeat' (first
      | apply pwp_seq
      | apply pwp_region
      | (apply px_run; (first
          | (apply opv_move; first | exact hid_int rfl | exact hid_bool rfl | exact hid_ptr rfl | rfl)
          | (apply opv_assign; first | exact hid_int rfl | exact hid_bool rfl | exact hid_ptr rfl | rfl)
          | (apply opv_lss <;> rfl)
          | (apply opv_leq <;> rfl)
          | (apply opv_gtr <;> rfl)
          | (apply opv_geq <;> rfl)
          | (apply opv_eql <;> rfl)
          | (apply opv_neq <;> rfl)
          | (apply opv_and <;> rfl)
          | (apply opv_or <;> rfl)
          | (apply opv_xor <;> rfl)
          | (apply opv_andNot <;> rfl)
          | (apply opv_pick_t <;> rfl)
          | (apply opv_pick_f <;> rfl)
          | (apply opv_not_dec <;> rfl)
          | (apply opv_not <;> rfl)
          | (apply opv_neg <;> rfl)
          | (apply opv_add_in; rfl; rfl; omega)
          | (apply opv_sub_in; rfl; rfl; omega)
          | (apply opv_mul_in; rfl; rfl; omega)
          | (apply opv_shl; rfl; rfl; omega)
          | (apply opv_shr; rfl; rfl; omega)
          | (apply opv_quo; rfl; rfl; omega)
          | (apply opv_rem; rfl; rfl; omega)
          | (apply opv_field fld_G0; rfl)
          | (apply opv_field fld_G1; rfl)
          | (apply opv_load_blk 0; (first | with_reducible exact sc_int | with_reducible exact sc_ints); rfl; rfl; rfl)
          | (apply opv_load_blk 1; (first | with_reducible exact sc_int | with_reducible exact sc_ints); rfl; rfl; rfl)
          | (apply opv_load_blk 2; (first | with_reducible exact sc_int | with_reducible exact sc_ints); rfl; rfl; rfl)
          | (apply opv_load_blk 3; (first | with_reducible exact sc_int | with_reducible exact sc_ints); rfl; rfl; rfl)
          | (apply opv_load_blk 4; (first | with_reducible exact sc_int | with_reducible exact sc_ints); rfl; rfl; rfl)
          | (apply opv_load_ints sc_int; rfl; (first | exact rd_old (by assumption) | exact rd_row 0 rfl | exact rd_row 1 rfl | exact rd_row 2 rfl | exact rd_row 3 rfl | exact rd_row 4 rfl); (first | omega | (simp only [List.length_set]; omega)))
          | (apply opv_index_nat (vs := ints _) el_int; rfl; rfl; (first | exact rd_old (by assumption) | exact rd_row 0 rfl | exact rd_row 1 rfl | exact rd_row 2 rfl | exact rd_row 3 rfl | exact rd_row 4 rfl); (first | (simp only [ints_length]; omega) | (simp [ints]; omega)))
          | (apply opv_index (vs := ints _) el_int; rfl; rfl; (first | exact rd_old (by assumption) | exact rd_row 0 rfl | exact rd_row 1 rfl | exact rd_row 2 rfl | exact rd_row 3 rfl | exact rd_row 4 rfl); omega; (first | (simp only [ints_length]; omega) | (simp [ints]; omega)))
          | (apply opv_len_ints el_int; rfl; (first | exact rd_old (by assumption) | exact rd_row 0 rfl | exact rd_row 1 rfl | exact rd_row 2 rfl | exact rd_row 3 rfl | exact rd_row 4 rfl))
          | (apply opv_load_str 0 st_G; rfl; rfl; rfl)
          | (apply opv_load_str 1 st_G; rfl; rfl; rfl)
          | (apply opv_load_str 2 st_G; rfl; rfl; rfl)
          | (apply opv_load_str 3 st_G; rfl; rfl; rfl)
          | (apply opv_load_str 4 st_G; rfl; rfl; rfl)
          | (apply opv_add <;> rfl)
          | (apply opv_sub <;> rfl)
          | (apply opv_mul <;> rfl)
          | (apply opv_eql_bool ty_bool <;> rfl)
          | (apply opv_neq_bool ty_bool <;> rfl)); rfl; rfl)
      | apply px_nil
      | (apply px_skip; rfl; rfl)
      | apply qseq_normal
      | apply qseq_ret
      | apply qseq_exit
      | apply pwp_block
      | apply qblock_normal
      | apply qblock_ret
      | (apply qblock_exit_same; rfl)
      | (apply qblock_exit_other; rfl)
      | apply pwp_skip
      | apply pwp_exit
      | apply pwp_ret
      | apply qround_ret
      | apply qround_exit
      | apply qonce_ret
      | apply qonce_exit
      | (apply pwp_cond_t; rfl)
      | (apply pwp_cond_f; rfl)
      | (apply pwp_region_mix; kernel_rfl; decide +kernel; exact Cl.stable _ _ _)
      | (apply pwp_region_draw; kernel_rfl; kernel_rfl; exact Cl.stable _ _ _)
      | (apply px_guard_ndec; rfl; rfl; rfl; all_goals (intro hc; try (first | contradiction | (exfalso; omega) | (exfalso; simp at hc; done))))
      | (apply px_guard_dec; rfl; rfl; rfl; all_goals (intro hc; try (first | contradiction | (exfalso; omega) | (exfalso; simp at hc; done))))
      | (apply px_guard_not; rfl; rfl; rfl; all_goals (intro hc; try (first | contradiction | (exfalso; omega) | (exfalso; simp at hc; done))))
      | (apply px_guard; rfl; rfl; rfl; all_goals (intro hc; (first | contradiction | (fail_if_success (cases hc); try (first | (exfalso; omega) | (exfalso; simp at hc; done))))))
      | (apply pwp_cond_ndec; rfl; all_goals (intro hc; try (first | contradiction | (exfalso; omega) | (exfalso; simp at hc; done))))
      | (apply pwp_cond_dec; rfl; all_goals (intro hc; try (first | contradiction | (exfalso; omega) | (exfalso; simp at hc; done))))
      | (apply pwp_cond_not; rfl; all_goals (intro hc; try (first | contradiction | (exfalso; omega) | (exfalso; simp at hc; done))))
      | (apply pwp_cond; rfl; all_goals (intro hc; try (first | contradiction | (exfalso; omega) | (exfalso; simp at hc; done))))
      | (apply px_box; rfl; rfl; rfl; rfl; intro bk)
      | (apply px_alloc1 ez_int rfl; rfl; rfl; rfl; intro bk)
      | (apply px_store_blk 0; (first | with_reducible exact co_int | with_reducible exact co_ints); rfl; rfl; rfl; (intro w hw; (first | rfl | exact stor_row 0 hw rfl | exact stor_row 1 hw rfl | exact stor_row 2 hw rfl | exact stor_row 3 hw rfl | exact stor_row 4 hw rfl | exact stor_arr (by assumption))); rfl; rfl)
      | (apply px_store_blk 1; (first | with_reducible exact co_int | with_reducible exact co_ints); rfl; rfl; rfl; (intro w hw; (first | rfl | exact stor_row 0 hw rfl | exact stor_row 1 hw rfl | exact stor_row 2 hw rfl | exact stor_row 3 hw rfl | exact stor_row 4 hw rfl | exact stor_arr (by assumption))); rfl; rfl)
      | (apply px_store_blk 2; (first | with_reducible exact co_int | with_reducible exact co_ints); rfl; rfl; rfl; (intro w hw; (first | rfl | exact stor_row 0 hw rfl | exact stor_row 1 hw rfl | exact stor_row 2 hw rfl | exact stor_row 3 hw rfl | exact stor_row 4 hw rfl | exact stor_arr (by assumption))); rfl; rfl)
      | (apply px_store_blk 3; (first | with_reducible exact co_int | with_reducible exact co_ints); rfl; rfl; rfl; (intro w hw; (first | rfl | exact stor_row 0 hw rfl | exact stor_row 1 hw rfl | exact stor_row 2 hw rfl | exact stor_row 3 hw rfl | exact stor_row 4 hw rfl | exact stor_arr (by assumption))); rfl; rfl)
      | (apply px_store_blk 4; (first | with_reducible exact co_int | with_reducible exact co_ints); rfl; rfl; rfl; (intro w hw; (first | rfl | exact stor_row 0 hw rfl | exact stor_row 1 hw rfl | exact stor_row 2 hw rfl | exact stor_row 3 hw rfl | exact stor_row 4 hw rfl | exact stor_arr (by assumption))); rfl; rfl))
  rename_i bg
  refine pwp_loop (τ := Nat × Nat) [(2,26)] (fun x => [(4, .pointer (some ⟨x.2, 0, none⟩))]) (fun x => Cl [] w [.blk x.2 [.int .i64 ((4 + x.1 : Nat) : Int)], .blk bg [.int .i64 size, gv]]) (fun x => x.1 ≤ 4 ∧ holeK size rows x.1 = none) (fun x => 8 - x.1) (0, bk)
    ⟨rfl, trivial⟩ ⟨Nat.zero_le _, rfl⟩ (fun _ h => h) (fun J x hx => ?_)
  obtain ⟨k, bn⟩ := x
  dsimp only at hx ⊢
  obtain ⟨hk, hno⟩ := hx
  by_cases hlt : ((4 + k : Nat) : Int) ≤ min size 7
  · have hle : ((4 + k : Nat) : Int) ≤ size ∧ ((4 + k : Nat) : Int) ≤ 7 := ⟨Int.le_trans hlt (Int.min_le_left ..), Int.le_trans hlt (Int.min_le_right ..)⟩
    have key : ∀ w', Cl [] w [.blk bn [.int .i64 ((4 + k : Nat) : Int)], .blk bg [.int .i64 size, gv]] w' → Gives Try.prog 53 #[.agg #[.int .i64 size, gv], .int .i64 ((4 + k : Nat) : Int), .func (.func 116) #[] #[.pointer (some ⟨bn, 0, none⟩), .pointer (some ⟨bg, 0, none⟩)], .func (.func 117) #[] #[.pointer (some ⟨bg, 0, none⟩)]] w'
        (fun v objs => ∃ sv, v = .tuple #[sv, .bool (holeT size rows (4 + k)).isSome] ∧ objs = [.row 3 sv (ints ((holeT size rows (4 + k)).getD []))]) := fun w' hw =>
      i_firstList_c size (4 + k) gv rows 116 117 [.pointer (some ⟨bn, 0, none⟩), .pointer (some ⟨bg, 0, none⟩)] [.pointer (some ⟨bg, 0, none⟩)] _ _ w' (by first | exact hw.arr (by assumption) | exact hw.rowArr (k := 0) rfl | exact hw.rowArr (k := 1) rfl | exact hw.rowArr (k := 2) rfl | exact hw.rowArr (k := 3) rfl | exact hw.rowArr (k := 4) rfl | exact hw.rowArr (k := 5) rfl | exact hw.rowArr (k := 6) rfl | exact hw.rowArr (k := 7) rfl | exact hw.rowArr (k := 8) rfl | exact hw.rowArr (k := 9) rfl | exact hw.rowArr (k := 10) rfl | exact hw.rowArr (k := 11) rfl | exact hw.rowArr (k := 12) rfl | exact hw.rowArr (k := 13) rfl | exact hw.rowArr (k := 14) rfl | exact hw.rowArr (k := 15) rfl | exact hw.rowArr (k := 16) rfl | exact hw.rowArr (k := 17) rfl | exact hw.rowArr (k := 18) rfl | exact hw.rowArr (k := 19) rfl) (by omega) (by omega)
        (fun x xv w2 hb hx => i_FindHole_1_c _ _ _ rows x _ _ _ _ (Arr.below (by first | exact hw.arr (by assumption) | exact hw.rowArr (k := 0) rfl | exact hw.rowArr (k := 1) rfl | exact hw.rowArr (k := 2) rfl | exact hw.rowArr (k := 3) rfl | exact hw.rowArr (k := 4) rfl | exact hw.rowArr (k := 5) rfl | exact hw.rowArr (k := 6) rfl | exact hw.rowArr (k := 7) rfl | exact hw.rowArr (k := 8) rfl | exact hw.rowArr (k := 9) rfl | exact hw.rowArr (k := 10) rfl | exact hw.rowArr (k := 11) rfl | exact hw.rowArr (k := 12) rfl | exact hw.rowArr (k := 13) rfl | exact hw.rowArr (k := 14) rfl | exact hw.rowArr (k := 15) rfl | exact hw.rowArr (k := 16) rfl | exact hw.rowArr (k := 17) rfl | exact hw.rowArr (k := 18) rfl | exact hw.rowArr (k := 19) rfl) hb) hx (Bk.below (hw.bk (k := 0) rfl) hb) (Bk.below (hw.bk (k := 1) rfl) hb)) (fun x xv w2 hb hx => i_FindHole_2_c _ _ _ rows x _ _ (Arr.below (by first | exact hw.arr (by assumption) | exact hw.rowArr (k := 0) rfl | exact hw.rowArr (k := 1) rfl | exact hw.rowArr (k := 2) rfl | exact hw.rowArr (k := 3) rfl | exact hw.rowArr (k := 4) rfl | exact hw.rowArr (k := 5) rfl | exact hw.rowArr (k := 6) rfl | exact hw.rowArr (k := 7) rfl | exact hw.rowArr (k := 8) rfl | exact hw.rowArr (k := 9) rfl | exact hw.rowArr (k := 10) rfl | exact hw.rowArr (k := 11) rfl | exact hw.rowArr (k := 12) rfl | exact hw.rowArr (k := 13) rfl | exact hw.rowArr (k := 14) rfl | exact hw.rowArr (k := 15) rfl | exact hw.rowArr (k := 16) rfl | exact hw.rowArr (k := 17) rfl | exact hw.rowArr (k := 18) rfl | exact hw.rowArr (k := 19) rfl) hb) hx (Bk.below (hw.bk (k := 1) rfl) hb))
    cases hf : holeT size rows (4 + k) with
    | none =>
      rw [hf] at key
      repeat' (first
          | apply pwp_seq
          | apply pwp_region
          | (apply px_run; (first
              | (apply opv_move; first | exact hid_int rfl | exact hid_bool rfl | exact hid_ptr rfl | rfl)
              | (apply opv_assign; first | exact hid_int rfl | exact hid_bool rfl | exact hid_ptr rfl | rfl)
              | (apply opv_lss <;> rfl)
              | (apply opv_leq <;> rfl)
              | (apply opv_gtr <;> rfl)
              | (apply opv_geq <;> rfl)
              | (apply opv_eql <;> rfl)
              | (apply opv_neq <;> rfl)
              | (apply opv_and <;> rfl)
              | (apply opv_or <;> rfl)
              | (apply opv_xor <;> rfl)
              | (apply opv_andNot <;> rfl)
              | (apply opv_pick_t <;> rfl)
              | (apply opv_pick_f <;> rfl)
              | (apply opv_not_dec <;> rfl)
              | (apply opv_not <;> rfl)
              | (apply opv_neg <;> rfl)
              | (apply opv_add_in; rfl; rfl; omega)
              | (apply opv_sub_in; rfl; rfl; omega)
              | (apply opv_mul_in; rfl; rfl; omega)
              | (apply opv_shl; rfl; rfl; omega)
              | (apply opv_shr; rfl; rfl; omega)
              | (apply opv_quo; rfl; rfl; omega)
              | (apply opv_rem; rfl; rfl; omega)
              | (apply opv_field fld_G0; rfl)
              | (apply opv_field fld_G1; rfl)
              | (apply opv_load_blk 0; (first | with_reducible exact sc_int | with_reducible exact sc_ints); rfl; rfl; rfl)
              | (apply opv_load_blk 1; (first | with_reducible exact sc_int | with_reducible exact sc_ints); rfl; rfl; rfl)
              | (apply opv_load_blk 2; (first | with_reducible exact sc_int | with_reducible exact sc_ints); rfl; rfl; rfl)
              | (apply opv_load_blk 3; (first | with_reducible exact sc_int | with_reducible exact sc_ints); rfl; rfl; rfl)
              | (apply opv_load_blk 4; (first | with_reducible exact sc_int | with_reducible exact sc_ints); rfl; rfl; rfl)
              | (apply opv_load_ints sc_int; rfl; (first | exact rd_old (by assumption) | exact rd_row 0 rfl | exact rd_row 1 rfl | exact rd_row 2 rfl | exact rd_row 3 rfl | exact rd_row 4 rfl); (first | omega | (simp only [List.length_set]; omega)))
              | (apply opv_index_nat (vs := ints _) el_int; rfl; rfl; (first | exact rd_old (by assumption) | exact rd_row 0 rfl | exact rd_row 1 rfl | exact rd_row 2 rfl | exact rd_row 3 rfl | exact rd_row 4 rfl); (first | (simp only [ints_length]; omega) | (simp [ints]; omega)))
              | (apply opv_index (vs := ints _) el_int; rfl; rfl; (first | exact rd_old (by assumption) | exact rd_row 0 rfl | exact rd_row 1 rfl | exact rd_row 2 rfl | exact rd_row 3 rfl | exact rd_row 4 rfl); omega; (first | (simp only [ints_length]; omega) | (simp [ints]; omega)))
              | (apply opv_len_ints el_int; rfl; (first | exact rd_old (by assumption) | exact rd_row 0 rfl | exact rd_row 1 rfl | exact rd_row 2 rfl | exact rd_row 3 rfl | exact rd_row 4 rfl))
              | (apply opv_load_str 0 st_G; rfl; rfl; rfl)
              | (apply opv_load_str 1 st_G; rfl; rfl; rfl)
              | (apply opv_load_str 2 st_G; rfl; rfl; rfl)
              | (apply opv_load_str 3 st_G; rfl; rfl; rfl)
              | (apply opv_load_str 4 st_G; rfl; rfl; rfl)
              | (apply opv_extract; rfl; rfl)
              | (apply opv_make_func; rfl)
              | (apply opv_add <;> rfl)
              | (apply opv_sub <;> rfl)
              | (apply opv_mul <;> rfl)
              | (apply opv_eql_bool ty_bool <;> rfl)
              | (apply opv_neq_bool ty_bool <;> rfl)); rfl; rfl)
          | apply px_nil
          | (apply px_skip; rfl; rfl)
          | apply qseq_normal
          | apply qseq_ret
          | apply qseq_exit
          | apply pwp_block
          | apply qblock_normal
          | apply qblock_ret
          | (apply qblock_exit_same; rfl)
          | (apply qblock_exit_other; rfl)
          | apply pwp_skip
          | apply pwp_exit
          | apply pwp_ret
          | apply qround_ret
          | apply qround_exit
          | apply qonce_ret
          | apply qonce_exit
          | (apply pwp_cond_t; rfl)
          | (apply pwp_cond_f; rfl)
          | (apply pwp_region_mix; kernel_rfl; decide +kernel; exact Cl.stable _ _ _)
          | (apply pwp_region_draw; kernel_rfl; kernel_rfl; exact Cl.stable _ _ _)
          | (apply px_guard_ndec; rfl; rfl; rfl; all_goals (intro hc; try (first | contradiction | (exfalso; omega) | (exfalso; simp at hc; done))))
          | (apply px_guard_dec; rfl; rfl; rfl; all_goals (intro hc; try (first | contradiction | (exfalso; omega) | (exfalso; simp at hc; done))))
          | (apply px_guard_not; rfl; rfl; rfl; all_goals (intro hc; try (first | contradiction | (exfalso; omega) | (exfalso; simp at hc; done))))
          | (apply px_guard; rfl; rfl; rfl; all_goals (intro hc; (first | contradiction | (fail_if_success (cases hc); try (first | (exfalso; omega) | (exfalso; simp at hc; done))))))
          | (apply pwp_cond_ndec; rfl; all_goals (intro hc; try (first | contradiction | (exfalso; omega) | (exfalso; simp at hc; done))))
          | (apply pwp_cond_dec; rfl; all_goals (intro hc; try (first | contradiction | (exfalso; omega) | (exfalso; simp at hc; done))))
          | (apply pwp_cond_not; rfl; all_goals (intro hc; try (first | contradiction | (exfalso; omega) | (exfalso; simp at hc; done))))
          | (apply pwp_cond; rfl; all_goals (intro hc; try (first | contradiction | (exfalso; omega) | (exfalso; simp at hc; done))))
          | (apply px_box; rfl; rfl; rfl; rfl; intro bk)
          | (apply px_alloc1 ez_int rfl; rfl; rfl; rfl; intro bk)
          | (apply px_store_blk 0; (first | with_reducible exact co_int | with_reducible exact co_ints); rfl; rfl; rfl; (intro w hw; (first | rfl | exact stor_row 0 hw rfl | exact stor_row 1 hw rfl | exact stor_row 2 hw rfl | exact stor_row 3 hw rfl | exact stor_row 4 hw rfl | exact stor_arr (by assumption))); rfl; rfl)
          | (apply px_store_blk 1; (first | with_reducible exact co_int | with_reducible exact co_ints); rfl; rfl; rfl; (intro w hw; (first | rfl | exact stor_row 0 hw rfl | exact stor_row 1 hw rfl | exact stor_row 2 hw rfl | exact stor_row 3 hw rfl | exact stor_row 4 hw rfl | exact stor_arr (by assumption))); rfl; rfl)
          | (apply px_store_blk 2; (first | with_reducible exact co_int | with_reducible exact co_ints); rfl; rfl; rfl; (intro w hw; (first | rfl | exact stor_row 0 hw rfl | exact stor_row 1 hw rfl | exact stor_row 2 hw rfl | exact stor_row 3 hw rfl | exact stor_row 4 hw rfl | exact stor_arr (by assumption))); rfl; rfl)
          | (apply px_store_blk 3; (first | with_reducible exact co_int | with_reducible exact co_ints); rfl; rfl; rfl; (intro w hw; (first | rfl | exact stor_row 0 hw rfl | exact stor_row 1 hw rfl | exact stor_row 2 hw rfl | exact stor_row 3 hw rfl | exact stor_row 4 hw rfl | exact stor_arr (by assumption))); rfl; rfl)
          | (apply px_store_blk 4; (first | with_reducible exact co_int | with_reducible exact co_ints); rfl; rfl; rfl; (intro w hw; (first | rfl | exact stor_row 0 hw rfl | exact stor_row 1 hw rfl | exact stor_row 2 hw rfl | exact stor_row 3 hw rfl | exact stor_row 4 hw rfl | exact stor_arr (by assumption))); rfl; rfl)
          | (apply px_run; (apply opv_min <;> rfl); rfl; rfl)
          | (apply px_gives; rfl; rfl; rfl; rfl; rfl; exact fun w hw => key _ hw; rintro _ _ ⟨sr, rfl, rfl⟩))
      refine qround_normal ?_ ⟨(k + 1, bk), ⟨rfl, trivial⟩, ⟨by dsimp only; omega, by dsimp only; rw [holeK_succ _ _ _ hno]; exact hf⟩, by dsimp only; omega, fun w' h => ?_⟩
      · repeat (first | exact same_refl | refine same_upd rfl ?_ | refine same_junk rfl ?_)
      · dsimp only
        exact Cl.sub (by assumption) (by repeat (first | exact List.Sublist.slnil | exact List.Sublist.refl _ | apply List.Sublist.cons_cons | apply List.Sublist.cons))
    | some L =>
      rw [hf] at key
      rw [holeX_hit hno (by omega) hf]
      repeat' (first
          | apply pwp_seq
          | apply pwp_region
          | (apply px_run; (first
              | (apply opv_move; first | exact hid_int rfl | exact hid_bool rfl | exact hid_ptr rfl | rfl)
              | (apply opv_assign; first | exact hid_int rfl | exact hid_bool rfl | exact hid_ptr rfl | rfl)
              | (apply opv_lss <;> rfl)
              | (apply opv_leq <;> rfl)
              | (apply opv_gtr <;> rfl)
              | (apply opv_geq <;> rfl)
              | (apply opv_eql <;> rfl)
              | (apply opv_neq <;> rfl)
              | (apply opv_and <;> rfl)
              | (apply opv_or <;> rfl)
              | (apply opv_xor <;> rfl)
              | (apply opv_andNot <;> rfl)
              | (apply opv_pick_t <;> rfl)
              | (apply opv_pick_f <;> rfl)
              | (apply opv_not_dec <;> rfl)
              | (apply opv_not <;> rfl)
              | (apply opv_neg <;> rfl)
              | (apply opv_add_in; rfl; rfl; omega)
              | (apply opv_sub_in; rfl; rfl; omega)
              | (apply opv_mul_in; rfl; rfl; omega)
              | (apply opv_shl; rfl; rfl; omega)
              | (apply opv_shr; rfl; rfl; omega)
              | (apply opv_quo; rfl; rfl; omega)
              | (apply opv_rem; rfl; rfl; omega)
              | (apply opv_field fld_G0; rfl)
              | (apply opv_field fld_G1; rfl)
              | (apply opv_load_blk 0; (first | with_reducible exact sc_int | with_reducible exact sc_ints); rfl; rfl; rfl)
              | (apply opv_load_blk 1; (first | with_reducible exact sc_int | with_reducible exact sc_ints); rfl; rfl; rfl)
              | (apply opv_load_blk 2; (first | with_reducible exact sc_int | with_reducible exact sc_ints); rfl; rfl; rfl)
              | (apply opv_load_blk 3; (first | with_reducible exact sc_int | with_reducible exact sc_ints); rfl; rfl; rfl)
              | (apply opv_load_blk 4; (first | with_reducible exact sc_int | with_reducible exact sc_ints); rfl; rfl; rfl)
              | (apply opv_load_ints sc_int; rfl; (first | exact rd_old (by assumption) | exact rd_row 0 rfl | exact rd_row 1 rfl | exact rd_row 2 rfl | exact rd_row 3 rfl | exact rd_row 4 rfl); (first | omega | (simp only [List.length_set]; omega)))
              | (apply opv_index_nat (vs := ints _) el_int; rfl; rfl; (first | exact rd_old (by assumption) | exact rd_row 0 rfl | exact rd_row 1 rfl | exact rd_row 2 rfl | exact rd_row 3 rfl | exact rd_row 4 rfl); (first | (simp only [ints_length]; omega) | (simp [ints]; omega)))
              | (apply opv_index (vs := ints _) el_int; rfl; rfl; (first | exact rd_old (by assumption) | exact rd_row 0 rfl | exact rd_row 1 rfl | exact rd_row 2 rfl | exact rd_row 3 rfl | exact rd_row 4 rfl); omega; (first | (simp only [ints_length]; omega) | (simp [ints]; omega)))
              | (apply opv_len_ints el_int; rfl; (first | exact rd_old (by assumption) | exact rd_row 0 rfl | exact rd_row 1 rfl | exact rd_row 2 rfl | exact rd_row 3 rfl | exact rd_row 4 rfl))
              | (apply opv_load_str 0 st_G; rfl; rfl; rfl)
              | (apply opv_load_str 1 st_G; rfl; rfl; rfl)
              | (apply opv_load_str 2 st_G; rfl; rfl; rfl)
              | (apply opv_load_str 3 st_G; rfl; rfl; rfl)
              | (apply opv_load_str 4 st_G; rfl; rfl; rfl)
              | (apply opv_extract; rfl; rfl)
              | (apply opv_make_func; rfl)
              | (apply opv_add <;> rfl)
              | (apply opv_sub <;> rfl)
              | (apply opv_mul <;> rfl)
              | (apply opv_eql_bool ty_bool <;> rfl)
              | (apply opv_neq_bool ty_bool <;> rfl)); rfl; rfl)
          | apply px_nil
          | (apply px_skip; rfl; rfl)
          | apply qseq_normal
          | apply qseq_ret
          | apply qseq_exit
          | apply pwp_block
          | apply qblock_normal
          | apply qblock_ret
          | (apply qblock_exit_same; rfl)
          | (apply qblock_exit_other; rfl)
          | apply pwp_skip
          | apply pwp_exit
          | apply pwp_ret
          | apply qround_ret
          | apply qround_exit
          | apply qonce_ret
          | apply qonce_exit
          | (apply pwp_cond_t; rfl)
          | (apply pwp_cond_f; rfl)
          | (apply pwp_region_mix; kernel_rfl; decide +kernel; exact Cl.stable _ _ _)
          | (apply pwp_region_draw; kernel_rfl; kernel_rfl; exact Cl.stable _ _ _)
          | (apply px_guard_ndec; rfl; rfl; rfl; all_goals (intro hc; try (first | contradiction | (exfalso; omega) | (exfalso; simp at hc; done))))
          | (apply px_guard_dec; rfl; rfl; rfl; all_goals (intro hc; try (first | contradiction | (exfalso; omega) | (exfalso; simp at hc; done))))
          | (apply px_guard_not; rfl; rfl; rfl; all_goals (intro hc; try (first | contradiction | (exfalso; omega) | (exfalso; simp at hc; done))))
          | (apply px_guard; rfl; rfl; rfl; all_goals (intro hc; (first | contradiction | (fail_if_success (cases hc); try (first | (exfalso; omega) | (exfalso; simp at hc; done))))))
          | (apply pwp_cond_ndec; rfl; all_goals (intro hc; try (first | contradiction | (exfalso; omega) | (exfalso; simp at hc; done))))
          | (apply pwp_cond_dec; rfl; all_goals (intro hc; try (first | contradiction | (exfalso; omega) | (exfalso; simp at hc; done))))
          | (apply pwp_cond_not; rfl; all_goals (intro hc; try (first | contradiction | (exfalso; omega) | (exfalso; simp at hc; done))))
          | (apply pwp_cond; rfl; all_goals (intro hc; try (first | contradiction | (exfalso; omega) | (exfalso; simp at hc; done))))
          | (apply px_box; rfl; rfl; rfl; rfl; intro bk)
          | (apply px_alloc1 ez_int rfl; rfl; rfl; rfl; intro bk)
          | (apply px_store_blk 0; (first | with_reducible exact co_int | with_reducible exact co_ints); rfl; rfl; rfl; (intro w hw; (first | rfl | exact stor_row 0 hw rfl | exact stor_row 1 hw rfl | exact stor_row 2 hw rfl | exact stor_row 3 hw rfl | exact stor_row 4 hw rfl | exact stor_arr (by assumption))); rfl; rfl)
          | (apply px_store_blk 1; (first | with_reducible exact co_int | with_reducible exact co_ints); rfl; rfl; rfl; (intro w hw; (first | rfl | exact stor_row 0 hw rfl | exact stor_row 1 hw rfl | exact stor_row 2 hw rfl | exact stor_row 3 hw rfl | exact stor_row 4 hw rfl | exact stor_arr (by assumption))); rfl; rfl)
          | (apply px_store_blk 2; (first | with_reducible exact co_int | with_reducible exact co_ints); rfl; rfl; rfl; (intro w hw; (first | rfl | exact stor_row 0 hw rfl | exact stor_row 1 hw rfl | exact stor_row 2 hw rfl | exact stor_row 3 hw rfl | exact stor_row 4 hw rfl | exact stor_arr (by assumption))); rfl; rfl)
          | (apply px_store_blk 3; (first | with_reducible exact co_int | with_reducible exact co_ints); rfl; rfl; rfl; (intro w hw; (first | rfl | exact stor_row 0 hw rfl | exact stor_row 1 hw rfl | exact stor_row 2 hw rfl | exact stor_row 3 hw rfl | exact stor_row 4 hw rfl | exact stor_arr (by assumption))); rfl; rfl)
          | (apply px_store_blk 4; (first | with_reducible exact co_int | with_reducible exact co_ints); rfl; rfl; rfl; (intro w hw; (first | rfl | exact stor_row 0 hw rfl | exact stor_row 1 hw rfl | exact stor_row 2 hw rfl | exact stor_row 3 hw rfl | exact stor_row 4 hw rfl | exact stor_arr (by assumption))); rfl; rfl)
          | (apply px_run; (apply opv_min <;> rfl); rfl; rfl)
          | (apply px_gives; rfl; rfl; rfl; rfl; rfl; exact fun w hw => key _ hw; rintro _ _ ⟨sr, rfl, rfl⟩))
      refine qbody_ret2 rfl rfl rfl ⟨_, ⟨_, rfl, rfl⟩, fun w' h => ?_⟩
      exact Cl.sub (by assumption) (by repeat (first | exact List.Sublist.slnil | exact List.Sublist.refl _ | apply List.Sublist.cons_cons | apply List.Sublist.cons))
  · rw [holeX_end hno fun hg => by have := hg.1; rw [Int.min_def] at hlt; split at hlt <;> omega]
    repeat' (first
        | apply pwp_seq
        | apply pwp_region
        | (apply px_run; (first
            | (apply opv_move; first | exact hid_int rfl | exact hid_bool rfl | exact hid_ptr rfl | rfl)
            | (apply opv_assign; first | exact hid_int rfl | exact hid_bool rfl | exact hid_ptr rfl | rfl)
            | (apply opv_lss <;> rfl)
            | (apply opv_leq <;> rfl)
            | (apply opv_gtr <;> rfl)
            | (apply opv_geq <;> rfl)
            | (apply opv_eql <;> rfl)
            | (apply opv_neq <;> rfl)
            | (apply opv_and <;> rfl)
            | (apply opv_or <;> rfl)
            | (apply opv_xor <;> rfl)
            | (apply opv_andNot <;> rfl)
            | (apply opv_pick_t <;> rfl)
            | (apply opv_pick_f <;> rfl)
            | (apply opv_not_dec <;> rfl)
            | (apply opv_not <;> rfl)
            | (apply opv_neg <;> rfl)
            | (apply opv_add_in; rfl; rfl; omega)
            | (apply opv_sub_in; rfl; rfl; omega)
            | (apply opv_mul_in; rfl; rfl; omega)
            | (apply opv_shl; rfl; rfl; omega)
            | (apply opv_shr; rfl; rfl; omega)
            | (apply opv_quo; rfl; rfl; omega)
            | (apply opv_rem; rfl; rfl; omega)
            | (apply opv_field fld_G0; rfl)
            | (apply opv_field fld_G1; rfl)
            | (apply opv_load_blk 0; (first | with_reducible exact sc_int | with_reducible exact sc_ints); rfl; rfl; rfl)
            | (apply opv_load_blk 1; (first | with_reducible exact sc_int | with_reducible exact sc_ints); rfl; rfl; rfl)
            | (apply opv_load_blk 2; (first | with_reducible exact sc_int | with_reducible exact sc_ints); rfl; rfl; rfl)
            | (apply opv_load_blk 3; (first | with_reducible exact sc_int | with_reducible exact sc_ints); rfl; rfl; rfl)
            | (apply opv_load_blk 4; (first | with_reducible exact sc_int | with_reducible exact sc_ints); rfl; rfl; rfl)
            | (apply opv_load_ints sc_int; rfl; (first | exact rd_old (by assumption) | exact rd_row 0 rfl | exact rd_row 1 rfl | exact rd_row 2 rfl | exact rd_row 3 rfl | exact rd_row 4 rfl); (first | omega | (simp only [List.length_set]; omega)))
            | (apply opv_index_nat (vs := ints _) el_int; rfl; rfl; (first | exact rd_old (by assumption) | exact rd_row 0 rfl | exact rd_row 1 rfl | exact rd_row 2 rfl | exact rd_row 3 rfl | exact rd_row 4 rfl); (first | (simp only [ints_length]; omega) | (simp [ints]; omega)))
            | (apply opv_index (vs := ints _) el_int; rfl; rfl; (first | exact rd_old (by assumption) | exact rd_row 0 rfl | exact rd_row 1 rfl | exact rd_row 2 rfl | exact rd_row 3 rfl | exact rd_row 4 rfl); omega; (first | (simp only [ints_length]; omega) | (simp [ints]; omega)))
            | (apply opv_len_ints el_int; rfl; (first | exact rd_old (by assumption) | exact rd_row 0 rfl | exact rd_row 1 rfl | exact rd_row 2 rfl | exact rd_row 3 rfl | exact rd_row 4 rfl))
            | (apply opv_load_str 0 st_G; rfl; rfl; rfl)
            | (apply opv_load_str 1 st_G; rfl; rfl; rfl)
            | (apply opv_load_str 2 st_G; rfl; rfl; rfl)
            | (apply opv_load_str 3 st_G; rfl; rfl; rfl)
            | (apply opv_load_str 4 st_G; rfl; rfl; rfl)
            | (apply opv_add <;> rfl)
            | (apply opv_sub <;> rfl)
            | (apply opv_mul <;> rfl)
            | (apply opv_eql_bool ty_bool <;> rfl)
            | (apply opv_neq_bool ty_bool <;> rfl)); rfl; rfl)
        | apply px_nil
        | (apply px_skip; rfl; rfl)
        | apply qseq_normal
        | apply qseq_ret
        | apply qseq_exit
        | apply pwp_block
        | apply qblock_normal
        | apply qblock_ret
        | (apply qblock_exit_same; rfl)
        | (apply qblock_exit_other; rfl)
        | apply pwp_skip
        | apply pwp_exit
        | apply pwp_ret
        | apply qround_ret
        | apply qround_exit
        | apply qonce_ret
        | apply qonce_exit
        | (apply pwp_cond_t; rfl)
        | (apply pwp_cond_f; rfl)
        | (apply pwp_region_mix; kernel_rfl; decide +kernel; exact Cl.stable _ _ _)
        | (apply pwp_region_draw; kernel_rfl; kernel_rfl; exact Cl.stable _ _ _)
        | (apply px_guard_ndec; rfl; rfl; rfl; all_goals (intro hc; try (first | contradiction | (exfalso; omega) | (exfalso; simp at hc; done))))
        | (apply px_guard_dec; rfl; rfl; rfl; all_goals (intro hc; try (first | contradiction | (exfalso; omega) | (exfalso; simp at hc; done))))
        | (apply px_guard_not; rfl; rfl; rfl; all_goals (intro hc; try (first | contradiction | (exfalso; omega) | (exfalso; simp at hc; done))))
        | (apply px_guard; rfl; rfl; rfl; all_goals (intro hc; (first | contradiction | (fail_if_success (cases hc); try (first | (exfalso; omega) | (exfalso; simp at hc; done))))))
        | (apply pwp_cond_ndec; rfl; all_goals (intro hc; try (first | contradiction | (exfalso; omega) | (exfalso; simp at hc; done))))
        | (apply pwp_cond_dec; rfl; all_goals (intro hc; try (first | contradiction | (exfalso; omega) | (exfalso; simp at hc; done))))
        | (apply pwp_cond_not; rfl; all_goals (intro hc; try (first | contradiction | (exfalso; omega) | (exfalso; simp at hc; done))))
        | (apply pwp_cond; rfl; all_goals (intro hc; try (first | contradiction | (exfalso; omega) | (exfalso; simp at hc; done))))
        | (apply px_box; rfl; rfl; rfl; rfl; intro bk)
        | (apply px_run; (apply opv_min <;> rfl); rfl; rfl))
    refine qbody_ret2 rfl rfl rfl ⟨_, ⟨_, rfl, rfl⟩, fun w' h => ?_⟩
    exact (h.sub (List.nil_sublist _)).nilRow _
theorem en_s_FindHole : Entry Try.prog 66 := ⟨_, Try.func66, by kernel_rfl, rfl⟩
set_option maxHeartbeats 1600000 in
theorem s_FindHole_c (size : Int) (gv : Value) (rows : List Int) (w : World) (hr : Arr w gv (ints rows)) :
    Gives Try.prog 66 #[.agg #[.int .i64 size, gv]] w (fun v objs => ∃ sv, v = .tuple #[sv, .bool (holeX size rows).isSome] ∧ objs = [.row 3 sv (ints ((holeX size rows).getD []))]) := by
  refine gives_enter (args := [_]) en_s_FindHole Try.func66 rfl Try.ntmps66 rfl ?_
  repeat' (first
      | apply pwp_seq
      | apply pwp_region
      | (apply px_run; (first
          | (apply opv_move; first | exact hid_int rfl | exact hid_bool rfl | exact hid_ptr rfl | rfl)
          | (apply opv_assign; first | exact hid_int rfl | exact hid_bool rfl | exact hid_ptr rfl | rfl)
          | (apply opv_lss <;> rfl)
          | (apply opv_leq <;> rfl)
          | (apply opv_gtr <;> rfl)
          | (apply opv_geq <;> rfl)
          | (apply opv_eql <;> rfl)
          | (apply opv_neq <;> rfl)
          | (apply opv_and <;> rfl)
          | (apply opv_or <;> rfl)
          | (apply opv_xor <;> rfl)
          | (apply opv_andNot <;> rfl)
          | (apply opv_pick_t <;> rfl)
          | (apply opv_pick_f <;> rfl)
          | (apply opv_not_dec <;> rfl)
          | (apply opv_not <;> rfl)
          | (apply opv_neg <;> rfl)
          | (apply opv_add_in; rfl; rfl; omega)
          | (apply opv_sub_in; rfl; rfl; omega)
          | (apply opv_mul_in; rfl; rfl; omega)
          | (apply opv_shl; rfl; rfl; omega)
          | (apply opv_shr; rfl; rfl; omega)
          | (apply opv_quo; rfl; rfl; omega)
          | (apply opv_rem; rfl; rfl; omega)
          | (apply opv_field fld_G0; rfl)
          | (apply opv_field fld_G1; rfl)
          | (apply opv_load_blk 0; (first | with_reducible exact sc_int | with_reducible exact sc_ints); rfl; rfl; rfl)
          | (apply opv_load_blk 1; (first | with_reducible exact sc_int | with_reducible exact sc_ints); rfl; rfl; rfl)
          | (apply opv_load_blk 2; (first | with_reducible exact sc_int | with_reducible exact sc_ints); rfl; rfl; rfl)
          | (apply opv_load_blk 3; (first | with_reducible exact sc_int | with_reducible exact sc_ints); rfl; rfl; rfl)
          | (apply opv_load_blk 4; (first | with_reducible exact sc_int | with_reducible exact sc_ints); rfl; rfl; rfl)
          | (apply opv_load_ints sc_int; rfl; (first | exact rd_old (by assumption) | exact rd_row 0 rfl | exact rd_row 1 rfl | exact rd_row 2 rfl | exact rd_row 3 rfl | exact rd_row 4 rfl); (first | omega | (simp only [List.length_set]; omega)))
          | (apply opv_index_nat (vs := ints _) el_int; rfl; rfl; (first | exact rd_old (by assumption) | exact rd_row 0 rfl | exact rd_row 1 rfl | exact rd_row 2 rfl | exact rd_row 3 rfl | exact rd_row 4 rfl); (first | (simp only [ints_length]; omega) | (simp [ints]; omega)))
          | (apply opv_index (vs := ints _) el_int; rfl; rfl; (first | exact rd_old (by assumption) | exact rd_row 0 rfl | exact rd_row 1 rfl | exact rd_row 2 rfl | exact rd_row 3 rfl | exact rd_row 4 rfl); omega; (first | (simp only [ints_length]; omega) | (simp [ints]; omega)))
          | (apply opv_len_ints el_int; rfl; (first | exact rd_old (by assumption) | exact rd_row 0 rfl | exact rd_row 1 rfl | exact rd_row 2 rfl | exact rd_row 3 rfl | exact rd_row 4 rfl))
          | (apply opv_load_str 0 st_G; rfl; rfl; rfl)
          | (apply opv_load_str 1 st_G; rfl; rfl; rfl)
          | (apply opv_load_str 2 st_G; rfl; rfl; rfl)
          | (apply opv_load_str 3 st_G; rfl; rfl; rfl)
          | (apply opv_load_str 4 st_G; rfl; rfl; rfl)
          | (apply opv_add <;> rfl)
          | (apply opv_sub <;> rfl)
          | (apply opv_mul <;> rfl)
          | (apply opv_eql_bool ty_bool <;> rfl)
          | (apply opv_neq_bool ty_bool <;> rfl)); rfl; rfl)
      | apply px_nil
      | (apply px_skip; rfl; rfl)
      | apply qseq_normal
      | apply qseq_ret
      | apply qseq_exit
      | apply pwp_block
      | apply qblock_normal
      | apply qblock_ret
      | (apply qblock_exit_same; rfl)
      | (apply qblock_exit_other; rfl)
      | apply pwp_skip
      | apply pwp_exit
      | apply pwp_ret
      | apply qround_ret
      | apply qround_exit
      | apply qonce_ret
      | apply qonce_exit
      | (apply pwp_cond_t; rfl)
      | (apply pwp_cond_f; rfl)
      | (apply pwp_region_mix; kernel_rfl; decide +kernel; exact Cl.stable _ _ _)
      | (apply pwp_region_draw; kernel_rfl; kernel_rfl; exact Cl.stable _ _ _)
      | (apply px_guard_ndec; rfl; rfl; rfl; all_goals (intro hc; try (first | contradiction | (exfalso; omega) | (exfalso; simp at hc; done))))
      | (apply px_guard_dec; rfl; rfl; rfl; all_goals (intro hc; try (first | contradiction | (exfalso; omega) | (exfalso; simp at hc; done))))
      | (apply px_guard_not; rfl; rfl; rfl; all_goals (intro hc; try (first | contradiction | (exfalso; omega) | (exfalso; simp at hc; done))))
      | (apply px_guard; rfl; rfl; rfl; all_goals (intro hc; (first | contradiction | (fail_if_success (cases hc); try (first | (exfalso; omega) | (exfalso; simp at hc; done))))))
      | (apply pwp_cond_ndec; rfl; all_goals (intro hc; try (first | contradiction | (exfalso; omega) | (exfalso; simp at hc; done))))
      | (apply pwp_cond_dec; rfl; all_goals (intro hc; try (first | contradiction | (exfalso; omega) | (exfalso; simp at hc; done))))
      | (apply pwp_cond_not; rfl; all_goals (intro hc; try (first | contradiction | (exfalso; omega) | (exfalso; simp at hc; done))))
      | (apply pwp_cond; rfl; all_goals (intro hc; try (first | contradiction | (exfalso; omega) | (exfalso; simp at hc; done))))
      | (apply px_box; rfl; rfl; rfl; rfl; intro bk))
  by_cases hg : IsG size rows
  case neg =>
    rw [holeX_none hg]
    refine pwp_loop_once ?_
    repeat' (first
        | apply pwp_seq
        | apply pwp_region
        | (apply px_run; (first
            | (apply opv_move; first | exact hid_int rfl | exact hid_bool rfl | exact hid_ptr rfl | rfl)
            | (apply opv_assign; first | exact hid_int rfl | exact hid_bool rfl | exact hid_ptr rfl | rfl)
            | (apply opv_lss <;> rfl)
            | (apply opv_leq <;> rfl)
            | (apply opv_gtr <;> rfl)
            | (apply opv_geq <;> rfl)
            | (apply opv_eql <;> rfl)
            | (apply opv_neq <;> rfl)
            | (apply opv_and <;> rfl)
            | (apply opv_or <;> rfl)
            | (apply opv_xor <;> rfl)
            | (apply opv_andNot <;> rfl)
            | (apply opv_pick_t <;> rfl)
            | (apply opv_pick_f <;> rfl)
            | (apply opv_not_dec <;> rfl)
            | (apply opv_not <;> rfl)
            | (apply opv_neg <;> rfl)
            | (apply opv_add_in; rfl; rfl; omega)
            | (apply opv_sub_in; rfl; rfl; omega)
            | (apply opv_mul_in; rfl; rfl; omega)
            | (apply opv_shl; rfl; rfl; omega)
            | (apply opv_shr; rfl; rfl; omega)
            | (apply opv_quo; rfl; rfl; omega)
            | (apply opv_rem; rfl; rfl; omega)
            | (apply opv_field fld_G0; rfl)
            | (apply opv_field fld_G1; rfl)
            | (apply opv_load_blk 0; (first | with_reducible exact sc_int | with_reducible exact sc_ints); rfl; rfl; rfl)
            | (apply opv_load_blk 1; (first | with_reducible exact sc_int | with_reducible exact sc_ints); rfl; rfl; rfl)
            | (apply opv_load_blk 2; (first | with_reducible exact sc_int | with_reducible exact sc_ints); rfl; rfl; rfl)
            | (apply opv_load_blk 3; (first | with_reducible exact sc_int | with_reducible exact sc_ints); rfl; rfl; rfl)
            | (apply opv_load_blk 4; (first | with_reducible exact sc_int | with_reducible exact sc_ints); rfl; rfl; rfl)
            | (apply opv_load_ints sc_int; rfl; (first | exact rd_old (by assumption) | exact rd_row 0 rfl | exact rd_row 1 rfl | exact rd_row 2 rfl | exact rd_row 3 rfl | exact rd_row 4 rfl); (first | omega | (simp only [List.length_set]; omega)))
            | (apply opv_index_nat (vs := ints _) el_int; rfl; rfl; (first | exact rd_old (by assumption) | exact rd_row 0 rfl | exact rd_row 1 rfl | exact rd_row 2 rfl | exact rd_row 3 rfl | exact rd_row 4 rfl); (first | (simp only [ints_length]; omega) | (simp [ints]; omega)))
            | (apply opv_index (vs := ints _) el_int; rfl; rfl; (first | exact rd_old (by assumption) | exact rd_row 0 rfl | exact rd_row 1 rfl | exact rd_row 2 rfl | exact rd_row 3 rfl | exact rd_row 4 rfl); omega; (first | (simp only [ints_length]; omega) | (simp [ints]; omega)))
            | (apply opv_len_ints el_int; rfl; (first | exact rd_old (by assumption) | exact rd_row 0 rfl | exact rd_row 1 rfl | exact rd_row 2 rfl | exact rd_row 3 rfl | exact rd_row 4 rfl))
            | (apply opv_load_str 0 st_G; rfl; rfl; rfl)
            | (apply opv_load_str 1 st_G; rfl; rfl; rfl)
            | (apply opv_load_str 2 st_G; rfl; rfl; rfl)
            | (apply opv_load_str 3 st_G; rfl; rfl; rfl)
            | (apply opv_load_str 4 st_G; rfl; rfl; rfl)
            | (apply opv_call; rfl; rfl; exact Cl.stable _ _ _; exact fun w hw => s_IsGraph_c _ _ rows _ (by first | exact hw.arr (by assumption) | exact hw.rowArr (k := 0) rfl | exact hw.rowArr (k := 1) rfl | exact hw.rowArr (k := 2) rfl | exact hw.rowArr (k := 3) rfl | exact hw.rowArr (k := 4) rfl | exact hw.rowArr (k := 5) rfl | exact hw.rowArr (k := 6) rfl | exact hw.rowArr (k := 7) rfl | exact hw.rowArr (k := 8) rfl | exact hw.rowArr (k := 9) rfl | exact hw.rowArr (k := 10) rfl | exact hw.rowArr (k := 11) rfl | exact hw.rowArr (k := 12) rfl | exact hw.rowArr (k := 13) rfl | exact hw.rowArr (k := 14) rfl | exact hw.rowArr (k := 15) rfl | exact hw.rowArr (k := 16) rfl | exact hw.rowArr (k := 17) rfl | exact hw.rowArr (k := 18) rfl | exact hw.rowArr (k := 19) rfl))
            | (apply opv_add <;> rfl)
            | (apply opv_sub <;> rfl)
            | (apply opv_mul <;> rfl)
            | (apply opv_eql_bool ty_bool <;> rfl)
            | (apply opv_neq_bool ty_bool <;> rfl)); rfl; rfl)
        | apply px_nil
        | (apply px_skip; rfl; rfl)
        | apply qseq_normal
        | apply qseq_ret
        | apply qseq_exit
        | apply pwp_block
        | apply qblock_normal
        | apply qblock_ret
        | (apply qblock_exit_same; rfl)
        | (apply qblock_exit_other; rfl)
        | apply pwp_skip
        | apply pwp_exit
        | apply pwp_ret
        | apply qround_ret
        | apply qround_exit
        | apply qonce_ret
        | apply qonce_exit
        | (apply pwp_cond_t; rfl)
        | (apply pwp_cond_f; rfl)
        | (apply pwp_region_mix; kernel_rfl; decide +kernel; exact Cl.stable _ _ _)
        | (apply pwp_region_draw; kernel_rfl; kernel_rfl; exact Cl.stable _ _ _)
        | (apply px_guard_ndec; rfl; rfl; rfl; all_goals (intro hc; try (first | contradiction | (exfalso; omega) | (exfalso; simp at hc; done))))
        | (apply px_guard_dec; rfl; rfl; rfl; all_goals (intro hc; try (first | contradiction | (exfalso; omega) | (exfalso; simp at hc; done))))
        | (apply px_guard_not; rfl; rfl; rfl; all_goals (intro hc; try (first | contradiction | (exfalso; omega) | (exfalso; simp at hc; done))))
        | (apply px_guard; rfl; rfl; rfl; all_goals (intro hc; (first | contradiction | (fail_if_success (cases hc); try (first | (exfalso; omega) | (exfalso; simp at hc; done))))))
        | (apply pwp_cond_ndec; rfl; all_goals (intro hc; try (first | contradiction | (exfalso; omega) | (exfalso; simp at hc; done))))
        | (apply pwp_cond_dec; rfl; all_goals (intro hc; try (first | contradiction | (exfalso; omega) | (exfalso; simp at hc; done))))
        | (apply pwp_cond_not; rfl; all_goals (intro hc; try (first | contradiction | (exfalso; omega) | (exfalso; simp at hc; done))))
        | (apply pwp_cond; rfl; all_goals (intro hc; try (first | contradiction | (exfalso; omega) | (exfalso; simp at hc; done))))
        | (apply px_box; rfl; rfl; rfl; rfl; intro bk)
        | (apply px_lit0i ez_int; rfl; rfl; rfl; intro sv))
    all_goals
      refine qbody_ret2 (v := sv) (v' := .bool false) rfl rfl rfl ⟨[.row 3 sv (ints [])], ⟨sv, rfl, rfl⟩, fun w' h => ?_⟩
      exact Cl.sub (by assumption) (by repeat (first | exact List.Sublist.slnil | exact List.Sublist.refl _ | apply List.Sublist.cons_cons | apply List.Sublist.cons))
  obtain ⟨N, hN, hrl, hN1, hN7⟩ := isG_size hg
  refine pwp_loop (τ := Nat) [(2,25)] (fun k => [(4, .int .i64 ((4 + k : Nat) : Int))]) (fun _ => Cl [] w [.blk bk [.int .i64 size, gv]]) (fun k => k ≤ 4 ∧ holeK size rows k = none) (fun k => 8 - k) 0
    ⟨rfl, trivial⟩ ⟨Nat.zero_le _, rfl⟩ (fun _ h => h) (fun J k hx => ?_)
  obtain ⟨hk, hno⟩ := hx
  by_cases hlt : ((4 + k : Nat) : Int) ≤ size
  · have key := s_l4Search_c size N (4 + k) gv rows true hN (by omega) (by omega) (3 + k) []
    have e := hole_firstR (m := 3 + k) hg
    rw [show size.toNat = N by omega, show 3 + k + 1 = 4 + k by omega] at e
    rw [show 3 + k + 1 = 4 + k by omega, e] at key
    cases hf : holeT size rows (4 + k) with
    | none =>
      rw [hf] at key
      repeat' (first
          | apply pwp_seq
          | apply pwp_region
          | (apply px_run; (first
              | (apply opv_move; first | exact hid_int rfl | exact hid_bool rfl | exact hid_ptr rfl | rfl)
              | (apply opv_assign; first | exact hid_int rfl | exact hid_bool rfl | exact hid_ptr rfl | rfl)
              | (apply opv_lss <;> rfl)
              | (apply opv_leq <;> rfl)
              | (apply opv_gtr <;> rfl)
              | (apply opv_geq <;> rfl)
              | (apply opv_eql <;> rfl)
              | (apply opv_neq <;> rfl)
              | (apply opv_and <;> rfl)
              | (apply opv_or <;> rfl)
              | (apply opv_xor <;> rfl)
              | (apply opv_andNot <;> rfl)
              | (apply opv_pick_t <;> rfl)
              | (apply opv_pick_f <;> rfl)
              | (apply opv_not_dec <;> rfl)
              | (apply opv_not <;> rfl)
              | (apply opv_neg <;> rfl)
              | (apply opv_add_in; rfl; rfl; omega)
              | (apply opv_sub_in; rfl; rfl; omega)
              | (apply opv_mul_in; rfl; rfl; omega)
              | (apply opv_shl; rfl; rfl; omega)
              | (apply opv_shr; rfl; rfl; omega)
              | (apply opv_quo; rfl; rfl; omega)
              | (apply opv_rem; rfl; rfl; omega)
              | (apply opv_field fld_G0; rfl)
              | (apply opv_field fld_G1; rfl)
              | (apply opv_load_blk 0; (first | with_reducible exact sc_int | with_reducible exact sc_ints); rfl; rfl; rfl)
              | (apply opv_load_blk 1; (first | with_reducible exact sc_int | with_reducible exact sc_ints); rfl; rfl; rfl)
              | (apply opv_load_blk 2; (first | with_reducible exact sc_int | with_reducible exact sc_ints); rfl; rfl; rfl)
              | (apply opv_load_blk 3; (first | with_reducible exact sc_int | with_reducible exact sc_ints); rfl; rfl; rfl)
              | (apply opv_load_blk 4; (first | with_reducible exact sc_int | with_reducible exact sc_ints); rfl; rfl; rfl)
              | (apply opv_load_ints sc_int; rfl; (first | exact rd_old (by assumption) | exact rd_row 0 rfl | exact rd_row 1 rfl | exact rd_row 2 rfl | exact rd_row 3 rfl | exact rd_row 4 rfl); (first | omega | (simp only [List.length_set]; omega)))
              | (apply opv_index_nat (vs := ints _) el_int; rfl; rfl; (first | exact rd_old (by assumption) | exact rd_row 0 rfl | exact rd_row 1 rfl | exact rd_row 2 rfl | exact rd_row 3 rfl | exact rd_row 4 rfl); (first | (simp only [ints_length]; omega) | (simp [ints]; omega)))
              | (apply opv_index (vs := ints _) el_int; rfl; rfl; (first | exact rd_old (by assumption) | exact rd_row 0 rfl | exact rd_row 1 rfl | exact rd_row 2 rfl | exact rd_row 3 rfl | exact rd_row 4 rfl); omega; (first | (simp only [ints_length]; omega) | (simp [ints]; omega)))
              | (apply opv_len_ints el_int; rfl; (first | exact rd_old (by assumption) | exact rd_row 0 rfl | exact rd_row 1 rfl | exact rd_row 2 rfl | exact rd_row 3 rfl | exact rd_row 4 rfl))
              | (apply opv_load_str 0 st_G; rfl; rfl; rfl)
              | (apply opv_load_str 1 st_G; rfl; rfl; rfl)
              | (apply opv_load_str 2 st_G; rfl; rfl; rfl)
              | (apply opv_load_str 3 st_G; rfl; rfl; rfl)
              | (apply opv_load_str 4 st_G; rfl; rfl; rfl)
              | (apply opv_extract; rfl; rfl)
              | (apply opv_call; rfl; rfl; exact Cl.stable _ _ _; exact fun w hw => s_IsGraph_c _ _ rows _ (by first | exact hw.arr (by assumption) | exact hw.rowArr (k := 0) rfl | exact hw.rowArr (k := 1) rfl | exact hw.rowArr (k := 2) rfl | exact hw.rowArr (k := 3) rfl | exact hw.rowArr (k := 4) rfl | exact hw.rowArr (k := 5) rfl | exact hw.rowArr (k := 6) rfl | exact hw.rowArr (k := 7) rfl | exact hw.rowArr (k := 8) rfl | exact hw.rowArr (k := 9) rfl | exact hw.rowArr (k := 10) rfl | exact hw.rowArr (k := 11) rfl | exact hw.rowArr (k := 12) rfl | exact hw.rowArr (k := 13) rfl | exact hw.rowArr (k := 14) rfl | exact hw.rowArr (k := 15) rfl | exact hw.rowArr (k := 16) rfl | exact hw.rowArr (k := 17) rfl | exact hw.rowArr (k := 18) rfl | exact hw.rowArr (k := 19) rfl))
              | (apply opv_add <;> rfl)
              | (apply opv_sub <;> rfl)
              | (apply opv_mul <;> rfl)
              | (apply opv_eql_bool ty_bool <;> rfl)
              | (apply opv_neq_bool ty_bool <;> rfl)); rfl; rfl)
          | apply px_nil
          | (apply px_skip; rfl; rfl)
          | apply qseq_normal
          | apply qseq_ret
          | apply qseq_exit
          | apply pwp_block
          | apply qblock_normal
          | apply qblock_ret
          | (apply qblock_exit_same; rfl)
          | (apply qblock_exit_other; rfl)
          | apply pwp_skip
          | apply pwp_exit
          | apply pwp_ret
          | apply qround_ret
          | apply qround_exit
          | apply qonce_ret
          | apply qonce_exit
          | (apply pwp_cond_t; rfl)
          | (apply pwp_cond_f; rfl)
          | (apply pwp_region_mix; kernel_rfl; decide +kernel; exact Cl.stable _ _ _)
          | (apply pwp_region_draw; kernel_rfl; kernel_rfl; exact Cl.stable _ _ _)
          | (apply px_guard_ndec; rfl; rfl; rfl; all_goals (intro hc; try (first | contradiction | (exfalso; omega) | (exfalso; simp at hc; done))))
          | (apply px_guard_dec; rfl; rfl; rfl; all_goals (intro hc; try (first | contradiction | (exfalso; omega) | (exfalso; simp at hc; done))))
          | (apply px_guard_not; rfl; rfl; rfl; all_goals (intro hc; try (first | contradiction | (exfalso; omega) | (exfalso; simp at hc; done))))
          | (apply px_guard; rfl; rfl; rfl; all_goals (intro hc; (first | contradiction | (fail_if_success (cases hc); try (first | (exfalso; omega) | (exfalso; simp at hc; done))))))
          | (apply pwp_cond_ndec; rfl; all_goals (intro hc; try (first | contradiction | (exfalso; omega) | (exfalso; simp at hc; done))))
          | (apply pwp_cond_dec; rfl; all_goals (intro hc; try (first | contradiction | (exfalso; omega) | (exfalso; simp at hc; done))))
          | (apply pwp_cond_not; rfl; all_goals (intro hc; try (first | contradiction | (exfalso; omega) | (exfalso; simp at hc; done))))
          | (apply pwp_cond; rfl; all_goals (intro hc; try (first | contradiction | (exfalso; omega) | (exfalso; simp at hc; done))))
          | (apply px_box; rfl; rfl; rfl; rfl; intro bk)
          | (apply px_lit0i ez_int; rfl; rfl; rfl; intro sv)
          | (apply px_gives; rfl; rfl; rfl; rfl; rfl; exact fun w hw => key _ _ (by simp) (by first | exact hw.arr (by assumption) | exact hw.rowArr (k := 0) rfl | exact hw.rowArr (k := 1) rfl | exact hw.rowArr (k := 2) rfl | exact hw.rowArr (k := 3) rfl | exact hw.rowArr (k := 4) rfl | exact hw.rowArr (k := 5) rfl | exact hw.rowArr (k := 6) rfl | exact hw.rowArr (k := 7) rfl | exact hw.rowArr (k := 8) rfl | exact hw.rowArr (k := 9) rfl | exact hw.rowArr (k := 10) rfl | exact hw.rowArr (k := 11) rfl | exact hw.rowArr (k := 12) rfl | exact hw.rowArr (k := 13) rfl | exact hw.rowArr (k := 14) rfl | exact hw.rowArr (k := 15) rfl | exact hw.rowArr (k := 16) rfl | exact hw.rowArr (k := 17) rfl | exact hw.rowArr (k := 18) rfl | exact hw.rowArr (k := 19) rfl) (by first | exact hw.arr (by assumption) | exact hw.rowArr (k := 0) rfl | exact hw.rowArr (k := 1) rfl | exact hw.rowArr (k := 2) rfl | exact hw.rowArr (k := 3) rfl | exact hw.rowArr (k := 4) rfl | exact hw.rowArr (k := 5) rfl | exact hw.rowArr (k := 6) rfl | exact hw.rowArr (k := 7) rfl | exact hw.rowArr (k := 8) rfl | exact hw.rowArr (k := 9) rfl | exact hw.rowArr (k := 10) rfl | exact hw.rowArr (k := 11) rfl | exact hw.rowArr (k := 12) rfl | exact hw.rowArr (k := 13) rfl | exact hw.rowArr (k := 14) rfl | exact hw.rowArr (k := 15) rfl | exact hw.rowArr (k := 16) rfl | exact hw.rowArr (k := 17) rfl | exact hw.rowArr (k := 18) rfl | exact hw.rowArr (k := 19) rfl); rintro _ _ ⟨sr, rfl, rfl⟩))
      refine qround_normal ?_ ⟨k + 1, ⟨rfl, trivial⟩, ⟨by omega, by rw [holeK_succ _ _ _ hno]; exact hf⟩, by omega, fun w' h => by exact Cl.sub (by assumption) (by repeat (first | exact List.Sublist.slnil | exact List.Sublist.refl _ | apply List.Sublist.cons_cons | apply List.Sublist.cons))⟩
      repeat (first | exact same_refl | refine same_upd rfl ?_ | refine same_junk rfl ?_)
    | some L =>
      rw [hf] at key
      rw [holeX_hit hno (by omega) hf]
      repeat' (first
          | apply pwp_seq
          | apply pwp_region
          | (apply px_run; (first
              | (apply opv_move; first | exact hid_int rfl | exact hid_bool rfl | exact hid_ptr rfl | rfl)
              | (apply opv_assign; first | exact hid_int rfl | exact hid_bool rfl | exact hid_ptr rfl | rfl)
              | (apply opv_lss <;> rfl)
              | (apply opv_leq <;> rfl)
              | (apply opv_gtr <;> rfl)
              | (apply opv_geq <;> rfl)
              | (apply opv_eql <;> rfl)
              | (apply opv_neq <;> rfl)
              | (apply opv_and <;> rfl)
              | (apply opv_or <;> rfl)
              | (apply opv_xor <;> rfl)
              | (apply opv_andNot <;> rfl)
              | (apply opv_pick_t <;> rfl)
              | (apply opv_pick_f <;> rfl)
              | (apply opv_not_dec <;> rfl)
              | (apply opv_not <;> rfl)
              | (apply opv_neg <;> rfl)
              | (apply opv_add_in; rfl; rfl; omega)
              | (apply opv_sub_in; rfl; rfl; omega)
              | (apply opv_mul_in; rfl; rfl; omega)
              | (apply opv_shl; rfl; rfl; omega)
              | (apply opv_shr; rfl; rfl; omega)
              | (apply opv_quo; rfl; rfl; omega)
              | (apply opv_rem; rfl; rfl; omega)
              | (apply opv_field fld_G0; rfl)
              | (apply opv_field fld_G1; rfl)
              | (apply opv_load_blk 0; (first | with_reducible exact sc_int | with_reducible exact sc_ints); rfl; rfl; rfl)
              | (apply opv_load_blk 1; (first | with_reducible exact sc_int | with_reducible exact sc_ints); rfl; rfl; rfl)
              | (apply opv_load_blk 2; (first | with_reducible exact sc_int | with_reducible exact sc_ints); rfl; rfl; rfl)
              | (apply opv_load_blk 3; (first | with_reducible exact sc_int | with_reducible exact sc_ints); rfl; rfl; rfl)
              | (apply opv_load_blk 4; (first | with_reducible exact sc_int | with_reducible exact sc_ints); rfl; rfl; rfl)
              | (apply opv_load_ints sc_int; rfl; (first | exact rd_old (by assumption) | exact rd_row 0 rfl | exact rd_row 1 rfl | exact rd_row 2 rfl | exact rd_row 3 rfl | exact rd_row 4 rfl); (first | omega | (simp only [List.length_set]; omega)))
              | (apply opv_index_nat (vs := ints _) el_int; rfl; rfl; (first | exact rd_old (by assumption) | exact rd_row 0 rfl | exact rd_row 1 rfl | exact rd_row 2 rfl | exact rd_row 3 rfl | exact rd_row 4 rfl); (first | (simp only [ints_length]; omega) | (simp [ints]; omega)))
              | (apply opv_index (vs := ints _) el_int; rfl; rfl; (first | exact rd_old (by assumption) | exact rd_row 0 rfl | exact rd_row 1 rfl | exact rd_row 2 rfl | exact rd_row 3 rfl | exact rd_row 4 rfl); omega; (first | (simp only [ints_length]; omega) | (simp [ints]; omega)))
              | (apply opv_len_ints el_int; rfl; (first | exact rd_old (by assumption) | exact rd_row 0 rfl | exact rd_row 1 rfl | exact rd_row 2 rfl | exact rd_row 3 rfl | exact rd_row 4 rfl))
              | (apply opv_load_str 0 st_G; rfl; rfl; rfl)
              | (apply opv_load_str 1 st_G; rfl; rfl; rfl)
              | (apply opv_load_str 2 st_G; rfl; rfl; rfl)
              | (apply opv_load_str 3 st_G; rfl; rfl; rfl)
              | (apply opv_load_str 4 st_G; rfl; rfl; rfl)
              | (apply opv_extract; rfl; rfl)
              | (apply opv_call; rfl; rfl; exact Cl.stable _ _ _; exact fun w hw => s_IsGraph_c _ _ rows _ (by first | exact hw.arr (by assumption) | exact hw.rowArr (k := 0) rfl | exact hw.rowArr (k := 1) rfl | exact hw.rowArr (k := 2) rfl | exact hw.rowArr (k := 3) rfl | exact hw.rowArr (k := 4) rfl | exact hw.rowArr (k := 5) rfl | exact hw.rowArr (k := 6) rfl | exact hw.rowArr (k := 7) rfl | exact hw.rowArr (k := 8) rfl | exact hw.rowArr (k := 9) rfl | exact hw.rowArr (k := 10) rfl | exact hw.rowArr (k := 11) rfl | exact hw.rowArr (k := 12) rfl | exact hw.rowArr (k := 13) rfl | exact hw.rowArr (k := 14) rfl | exact hw.rowArr (k := 15) rfl | exact hw.rowArr (k := 16) rfl | exact hw.rowArr (k := 17) rfl | exact hw.rowArr (k := 18) rfl | exact hw.rowArr (k := 19) rfl))
              | (apply opv_add <;> rfl)
              | (apply opv_sub <;> rfl)
              | (apply opv_mul <;> rfl)
              | (apply opv_eql_bool ty_bool <;> rfl)
              | (apply opv_neq_bool ty_bool <;> rfl)); rfl; rfl)
          | apply px_nil
          | (apply px_skip; rfl; rfl)
          | apply qseq_normal
          | apply qseq_ret
          | apply qseq_exit
          | apply pwp_block
          | apply qblock_normal
          | apply qblock_ret
          | (apply qblock_exit_same; rfl)
          | (apply qblock_exit_other; rfl)
          | apply pwp_skip
          | apply pwp_exit
          | apply pwp_ret
          | apply qround_ret
          | apply qround_exit
          | apply qonce_ret
          | apply qonce_exit
          | (apply pwp_cond_t; rfl)
          | (apply pwp_cond_f; rfl)
          | (apply pwp_region_mix; kernel_rfl; decide +kernel; exact Cl.stable _ _ _)
          | (apply pwp_region_draw; kernel_rfl; kernel_rfl; exact Cl.stable _ _ _)
          | (apply px_guard_ndec; rfl; rfl; rfl; all_goals (intro hc; try (first | contradiction | (exfalso; omega) | (exfalso; simp at hc; done))))
          | (apply px_guard_dec; rfl; rfl; rfl; all_goals (intro hc; try (first | contradiction | (exfalso; omega) | (exfalso; simp at hc; done))))
          | (apply px_guard_not; rfl; rfl; rfl; all_goals (intro hc; try (first | contradiction | (exfalso; omega) | (exfalso; simp at hc; done))))
          | (apply px_guard; rfl; rfl; rfl; all_goals (intro hc; (first | contradiction | (fail_if_success (cases hc); try (first | (exfalso; omega) | (exfalso; simp at hc; done))))))
          | (apply pwp_cond_ndec; rfl; all_goals (intro hc; try (first | contradiction | (exfalso; omega) | (exfalso; simp at hc; done))))
          | (apply pwp_cond_dec; rfl; all_goals (intro hc; try (first | contradiction | (exfalso; omega) | (exfalso; simp at hc; done))))
          | (apply pwp_cond_not; rfl; all_goals (intro hc; try (first | contradiction | (exfalso; omega) | (exfalso; simp at hc; done))))
          | (apply pwp_cond; rfl; all_goals (intro hc; try (first | contradiction | (exfalso; omega) | (exfalso; simp at hc; done))))
          | (apply px_box; rfl; rfl; rfl; rfl; intro bk)
          | (apply px_lit0i ez_int; rfl; rfl; rfl; intro sv)
          | (apply px_gives; rfl; rfl; rfl; rfl; rfl; exact fun w hw => key _ _ (by simp) (by first | exact hw.arr (by assumption) | exact hw.rowArr (k := 0) rfl | exact hw.rowArr (k := 1) rfl | exact hw.rowArr (k := 2) rfl | exact hw.rowArr (k := 3) rfl | exact hw.rowArr (k := 4) rfl | exact hw.rowArr (k := 5) rfl | exact hw.rowArr (k := 6) rfl | exact hw.rowArr (k := 7) rfl | exact hw.rowArr (k := 8) rfl | exact hw.rowArr (k := 9) rfl | exact hw.rowArr (k := 10) rfl | exact hw.rowArr (k := 11) rfl | exact hw.rowArr (k := 12) rfl | exact hw.rowArr (k := 13) rfl | exact hw.rowArr (k := 14) rfl | exact hw.rowArr (k := 15) rfl | exact hw.rowArr (k := 16) rfl | exact hw.rowArr (k := 17) rfl | exact hw.rowArr (k := 18) rfl | exact hw.rowArr (k := 19) rfl) (by first | exact hw.arr (by assumption) | exact hw.rowArr (k := 0) rfl | exact hw.rowArr (k := 1) rfl | exact hw.rowArr (k := 2) rfl | exact hw.rowArr (k := 3) rfl | exact hw.rowArr (k := 4) rfl | exact hw.rowArr (k := 5) rfl | exact hw.rowArr (k := 6) rfl | exact hw.rowArr (k := 7) rfl | exact hw.rowArr (k := 8) rfl | exact hw.rowArr (k := 9) rfl | exact hw.rowArr (k := 10) rfl | exact hw.rowArr (k := 11) rfl | exact hw.rowArr (k := 12) rfl | exact hw.rowArr (k := 13) rfl | exact hw.rowArr (k := 14) rfl | exact hw.rowArr (k := 15) rfl | exact hw.rowArr (k := 16) rfl | exact hw.rowArr (k := 17) rfl | exact hw.rowArr (k := 18) rfl | exact hw.rowArr (k := 19) rfl); rintro _ _ ⟨sr, rfl, rfl⟩))
      refine qbody_ret2 rfl rfl rfl ⟨_, ⟨_, rfl, rfl⟩, fun w' h => ?_⟩
      exact Cl.sub (by assumption) (by repeat (first | exact List.Sublist.slnil | exact List.Sublist.refl _ | apply List.Sublist.cons_cons | apply List.Sublist.cons))
  · rw [holeX_end hno fun hg => by omega]
    repeat' (first
        | apply pwp_seq
        | apply pwp_region
        | (apply px_run; (first
            | (apply opv_move; first | exact hid_int rfl | exact hid_bool rfl | exact hid_ptr rfl | rfl)
            | (apply opv_assign; first | exact hid_int rfl | exact hid_bool rfl | exact hid_ptr rfl | rfl)
            | (apply opv_lss <;> rfl)
            | (apply opv_leq <;> rfl)
            | (apply opv_gtr <;> rfl)
            | (apply opv_geq <;> rfl)
            | (apply opv_eql <;> rfl)
            | (apply opv_neq <;> rfl)
            | (apply opv_and <;> rfl)
            | (apply opv_or <;> rfl)
            | (apply opv_xor <;> rfl)
            | (apply opv_andNot <;> rfl)
            | (apply opv_pick_t <;> rfl)
            | (apply opv_pick_f <;> rfl)
            | (apply opv_not_dec <;> rfl)
            | (apply opv_not <;> rfl)
            | (apply opv_neg <;> rfl)
            | (apply opv_add_in; rfl; rfl; omega)
            | (apply opv_sub_in; rfl; rfl; omega)
            | (apply opv_mul_in; rfl; rfl; omega)
            | (apply opv_shl; rfl; rfl; omega)
            | (apply opv_shr; rfl; rfl; omega)
            | (apply opv_quo; rfl; rfl; omega)
            | (apply opv_rem; rfl; rfl; omega)
            | (apply opv_field fld_G0; rfl)
            | (apply opv_field fld_G1; rfl)
            | (apply opv_load_blk 0; (first | with_reducible exact sc_int | with_reducible exact sc_ints); rfl; rfl; rfl)
            | (apply opv_load_blk 1; (first | with_reducible exact sc_int | with_reducible exact sc_ints); rfl; rfl; rfl)
            | (apply opv_load_blk 2; (first | with_reducible exact sc_int | with_reducible exact sc_ints); rfl; rfl; rfl)
            | (apply opv_load_blk 3; (first | with_reducible exact sc_int | with_reducible exact sc_ints); rfl; rfl; rfl)
            | (apply opv_load_blk 4; (first | with_reducible exact sc_int | with_reducible exact sc_ints); rfl; rfl; rfl)
            | (apply opv_load_ints sc_int; rfl; (first | exact rd_old (by assumption) | exact rd_row 0 rfl | exact rd_row 1 rfl | exact rd_row 2 rfl | exact rd_row 3 rfl | exact rd_row 4 rfl); (first | omega | (simp only [List.length_set]; omega)))
            | (apply opv_index_nat (vs := ints _) el_int; rfl; rfl; (first | exact rd_old (by assumption) | exact rd_row 0 rfl | exact rd_row 1 rfl | exact rd_row 2 rfl | exact rd_row 3 rfl | exact rd_row 4 rfl); (first | (simp only [ints_length]; omega) | (simp [ints]; omega)))
            | (apply opv_index (vs := ints _) el_int; rfl; rfl; (first | exact rd_old (by assumption) | exact rd_row 0 rfl | exact rd_row 1 rfl | exact rd_row 2 rfl | exact rd_row 3 rfl | exact rd_row 4 rfl); omega; (first | (simp only [ints_length]; omega) | (simp [ints]; omega)))
            | (apply opv_len_ints el_int; rfl; (first | exact rd_old (by assumption) | exact rd_row 0 rfl | exact rd_row 1 rfl | exact rd_row 2 rfl | exact rd_row 3 rfl | exact rd_row 4 rfl))
            | (apply opv_load_str 0 st_G; rfl; rfl; rfl)
            | (apply opv_load_str 1 st_G; rfl; rfl; rfl)
            | (apply opv_load_str 2 st_G; rfl; rfl; rfl)
            | (apply opv_load_str 3 st_G; rfl; rfl; rfl)
            | (apply opv_load_str 4 st_G; rfl; rfl; rfl)
            | (apply opv_call; rfl; rfl; exact Cl.stable _ _ _; exact fun w hw => s_IsGraph_c _ _ rows _ (by first | exact hw.arr (by assumption) | exact hw.rowArr (k := 0) rfl | exact hw.rowArr (k := 1) rfl | exact hw.rowArr (k := 2) rfl | exact hw.rowArr (k := 3) rfl | exact hw.rowArr (k := 4) rfl | exact hw.rowArr (k := 5) rfl | exact hw.rowArr (k := 6) rfl | exact hw.rowArr (k := 7) rfl | exact hw.rowArr (k := 8) rfl | exact hw.rowArr (k := 9) rfl | exact hw.rowArr (k := 10) rfl | exact hw.rowArr (k := 11) rfl | exact hw.rowArr (k := 12) rfl | exact hw.rowArr (k := 13) rfl | exact hw.rowArr (k := 14) rfl | exact hw.rowArr (k := 15) rfl | exact hw.rowArr (k := 16) rfl | exact hw.rowArr (k := 17) rfl | exact hw.rowArr (k := 18) rfl | exact hw.rowArr (k := 19) rfl))
            | (apply opv_add <;> rfl)
            | (apply opv_sub <;> rfl)
            | (apply opv_mul <;> rfl)
            | (apply opv_eql_bool ty_bool <;> rfl)
            | (apply opv_neq_bool ty_bool <;> rfl)); rfl; rfl)
        | apply px_nil
        | (apply px_skip; rfl; rfl)
        | apply qseq_normal
        | apply qseq_ret
        | apply qseq_exit
        | apply pwp_block
        | apply qblock_normal
        | apply qblock_ret
        | (apply qblock_exit_same; rfl)
        | (apply qblock_exit_other; rfl)
        | apply pwp_skip
        | apply pwp_exit
        | apply pwp_ret
        | apply qround_ret
        | apply qround_exit
        | apply qonce_ret
        | apply qonce_exit
        | (apply pwp_cond_t; rfl)
        | (apply pwp_cond_f; rfl)
        | (apply pwp_region_mix; kernel_rfl; decide +kernel; exact Cl.stable _ _ _)
        | (apply pwp_region_draw; kernel_rfl; kernel_rfl; exact Cl.stable _ _ _)
        | (apply px_guard_ndec; rfl; rfl; rfl; all_goals (intro hc; try (first | contradiction | (exfalso; omega) | (exfalso; simp at hc; done))))
        | (apply px_guard_dec; rfl; rfl; rfl; all_goals (intro hc; try (first | contradiction | (exfalso; omega) | (exfalso; simp at hc; done))))
        | (apply px_guard_not; rfl; rfl; rfl; all_goals (intro hc; try (first | contradiction | (exfalso; omega) | (exfalso; simp at hc; done))))
        | (apply px_guard; rfl; rfl; rfl; all_goals (intro hc; (first | contradiction | (fail_if_success (cases hc); try (first | (exfalso; omega) | (exfalso; simp at hc; done))))))
        | (apply pwp_cond_ndec; rfl; all_goals (intro hc; try (first | contradiction | (exfalso; omega) | (exfalso; simp at hc; done))))
        | (apply pwp_cond_dec; rfl; all_goals (intro hc; try (first | contradiction | (exfalso; omega) | (exfalso; simp at hc; done))))
        | (apply pwp_cond_not; rfl; all_goals (intro hc; try (first | contradiction | (exfalso; omega) | (exfalso; simp at hc; done))))
        | (apply pwp_cond; rfl; all_goals (intro hc; try (first | contradiction | (exfalso; omega) | (exfalso; simp at hc; done))))
        | (apply px_box; rfl; rfl; rfl; rfl; intro bk)
        | (apply px_lit0i ez_int; rfl; rfl; rfl; intro sv))
    refine qbody_ret2 (v := sv) (v' := .bool false) rfl rfl rfl ⟨[.row 3 sv (ints [])], ⟨sv, rfl, rfl⟩, fun w' h => ?_⟩
    exact Cl.sub (by assumption) (by repeat (first | exact List.Sublist.slnil | exact List.Sublist.refl _ | apply List.Sublist.cons_cons | apply List.Sublist.cons))
theorem en_i_SplitObstacle : Entry Try.prog 31 := ⟨_, Try.func31, by kernel_rfl, rfl⟩
theorem i_SplitObstacle_c (size : Int) (gv : Value) (rows : List Int) (w : World) (hr : Arr w gv (ints rows)) :
    Gives Try.prog 31 #[.agg #[.int .i64 size, gv]] w (fun v objs => ∃ sv, v = .tuple #[sv, .bool (splitObsX size rows).isSome] ∧ objs = [.row 3 sv (ints ((splitObsX size rows).getD []))]) := by
  refine gives_enter (args := [_]) en_i_SplitObstacle Try.func31 rfl Try.ntmps31 rfl ?_
  have h2 := fun w' h => i_FindTwoEdges_c size gv rows w' h
  unfold splitObsX
  cases hf : fourX size rows fun l => decide (twoP size rows l) with
  | none =>
    simp only [hf] at h2
    repeat' (first
        | apply pwp_seq
        | apply pwp_region
        | (apply px_run; (first
            | (apply opv_move; first | exact hid_int rfl | exact hid_bool rfl | exact hid_ptr rfl | rfl)
            | (apply opv_assign; first | exact hid_int rfl | exact hid_bool rfl | exact hid_ptr rfl | rfl)
            | (apply opv_lss <;> rfl)
            | (apply opv_leq <;> rfl)
            | (apply opv_gtr <;> rfl)
            | (apply opv_geq <;> rfl)
            | (apply opv_eql <;> rfl)
            | (apply opv_neq <;> rfl)
            | (apply opv_and <;> rfl)
            | (apply opv_or <;> rfl)
            | (apply opv_xor <;> rfl)
            | (apply opv_andNot <;> rfl)
            | (apply opv_pick_t <;> rfl)
            | (apply opv_pick_f <;> rfl)
            | (apply opv_not_dec <;> rfl)
            | (apply opv_not <;> rfl)
            | (apply opv_neg <;> rfl)
            | (apply opv_add_in; rfl; rfl; omega)
            | (apply opv_sub_in; rfl; rfl; omega)
            | (apply opv_mul_in; rfl; rfl; omega)
            | (apply opv_shl; rfl; rfl; omega)
            | (apply opv_shr; rfl; rfl; omega)
            | (apply opv_quo; rfl; rfl; omega)
            | (apply opv_rem; rfl; rfl; omega)
            | (apply opv_field fld_G0; rfl)
            | (apply opv_field fld_G1; rfl)
            | (apply opv_load_blk 0; (first | with_reducible exact sc_int | with_reducible exact sc_ints); rfl; rfl; rfl)
            | (apply opv_load_blk 1; (first | with_reducible exact sc_int | with_reducible exact sc_ints); rfl; rfl; rfl)
            | (apply opv_load_blk 2; (first | with_reducible exact sc_int | with_reducible exact sc_ints); rfl; rfl; rfl)
            | (apply opv_load_blk 3; (first | with_reducible exact sc_int | with_reducible exact sc_ints); rfl; rfl; rfl)
            | (apply opv_load_blk 4; (first | with_reducible exact sc_int | with_reducible exact sc_ints); rfl; rfl; rfl)
            | (apply opv_load_ints sc_int; rfl; (first | exact rd_old (by assumption) | exact rd_row 0 rfl | exact rd_row 1 rfl | exact rd_row 2 rfl | exact rd_row 3 rfl | exact rd_row 4 rfl); (first | omega | (simp only [List.length_set]; omega)))
            | (apply opv_index_nat (vs := ints _) el_int; rfl; rfl; (first | exact rd_old (by assumption) | exact rd_row 0 rfl | exact rd_row 1 rfl | exact rd_row 2 rfl | exact rd_row 3 rfl | exact rd_row 4 rfl); (first | (simp only [ints_length]; omega) | (simp [ints]; omega)))
            | (apply opv_index (vs := ints _) el_int; rfl; rfl; (first | exact rd_old (by assumption) | exact rd_row 0 rfl | exact rd_row 1 rfl | exact rd_row 2 rfl | exact rd_row 3 rfl | exact rd_row 4 rfl); omega; (first | (simp only [ints_length]; omega) | (simp [ints]; omega)))
            | (apply opv_len_ints el_int; rfl; (first | exact rd_old (by assumption) | exact rd_row 0 rfl | exact rd_row 1 rfl | exact rd_row 2 rfl | exact rd_row 3 rfl | exact rd_row 4 rfl))
            | (apply opv_load_str 0 st_G; rfl; rfl; rfl)
            | (apply opv_load_str 1 st_G; rfl; rfl; rfl)
            | (apply opv_load_str 2 st_G; rfl; rfl; rfl)
            | (apply opv_load_str 3 st_G; rfl; rfl; rfl)
            | (apply opv_load_str 4 st_G; rfl; rfl; rfl)
            | (apply opv_extract; rfl; rfl)
            | (apply opv_add <;> rfl)
            | (apply opv_sub <;> rfl)
            | (apply opv_mul <;> rfl)
            | (apply opv_eql_bool ty_bool <;> rfl)
            | (apply opv_neq_bool ty_bool <;> rfl)); rfl; rfl)
        | apply px_nil
        | (apply px_skip; rfl; rfl)
        | apply qseq_normal
        | apply qseq_ret
        | apply qseq_exit
        | apply pwp_block
        | apply qblock_normal
        | apply qblock_ret
        | (apply qblock_exit_same; rfl)
        | (apply qblock_exit_other; rfl)
        | apply pwp_skip
        | apply pwp_exit
        | apply pwp_ret
        | apply qround_ret
        | apply qround_exit
        | apply qonce_ret
        | apply qonce_exit
        | (apply pwp_cond_t; rfl)
        | (apply pwp_cond_f; rfl)
        | (apply pwp_region_mix; kernel_rfl; decide +kernel; exact Cl.stable _ _ _)
        | (apply pwp_region_draw; kernel_rfl; kernel_rfl; exact Cl.stable _ _ _)
        | (apply px_guard_ndec; rfl; rfl; rfl; all_goals (intro hc; try (first | contradiction | (exfalso; omega) | (exfalso; simp at hc; done))))
        | (apply px_guard_dec; rfl; rfl; rfl; all_goals (intro hc; try (first | contradiction | (exfalso; omega) | (exfalso; simp at hc; done))))
        | (apply px_guard_not; rfl; rfl; rfl; all_goals (intro hc; try (first | contradiction | (exfalso; omega) | (exfalso; simp at hc; done))))
        | (apply px_guard; rfl; rfl; rfl; all_goals (intro hc; (first | contradiction | (fail_if_success (cases hc); try (first | (exfalso; omega) | (exfalso; simp at hc; done))))))
        | (apply pwp_cond_ndec; rfl; all_goals (intro hc; try (first | contradiction | (exfalso; omega) | (exfalso; simp at hc; done))))
        | (apply pwp_cond_dec; rfl; all_goals (intro hc; try (first | contradiction | (exfalso; omega) | (exfalso; simp at hc; done))))
        | (apply pwp_cond_not; rfl; all_goals (intro hc; try (first | contradiction | (exfalso; omega) | (exfalso; simp at hc; done))))
        | (apply pwp_cond; rfl; all_goals (intro hc; try (first | contradiction | (exfalso; omega) | (exfalso; simp at hc; done))))
        | (apply px_box; rfl; rfl; rfl; rfl; intro bk)
        | (apply px_gives; rfl; rfl; rfl; rfl; rfl; exact fun w hw => h2 _ (by first | exact hw.arr (by assumption) | exact hw.rowArr (k := 0) rfl | exact hw.rowArr (k := 1) rfl | exact hw.rowArr (k := 2) rfl | exact hw.rowArr (k := 3) rfl | exact hw.rowArr (k := 4) rfl | exact hw.rowArr (k := 5) rfl | exact hw.rowArr (k := 6) rfl | exact hw.rowArr (k := 7) rfl | exact hw.rowArr (k := 8) rfl | exact hw.rowArr (k := 9) rfl | exact hw.rowArr (k := 10) rfl | exact hw.rowArr (k := 11) rfl | exact hw.rowArr (k := 12) rfl | exact hw.rowArr (k := 13) rfl | exact hw.rowArr (k := 14) rfl | exact hw.rowArr (k := 15) rfl | exact hw.rowArr (k := 16) rfl | exact hw.rowArr (k := 17) rfl | exact hw.rowArr (k := 18) rfl | exact hw.rowArr (k := 19) rfl); rintro _ _ ⟨sr, rfl, rfl⟩)
        | (apply px_gives; rfl; rfl; rfl; rfl; rfl; exact fun w hw => i_FindHole_c _ _ rows _ (by first | exact hw.arr (by assumption) | exact hw.rowArr (k := 0) rfl | exact hw.rowArr (k := 1) rfl | exact hw.rowArr (k := 2) rfl | exact hw.rowArr (k := 3) rfl | exact hw.rowArr (k := 4) rfl | exact hw.rowArr (k := 5) rfl | exact hw.rowArr (k := 6) rfl | exact hw.rowArr (k := 7) rfl | exact hw.rowArr (k := 8) rfl | exact hw.rowArr (k := 9) rfl | exact hw.rowArr (k := 10) rfl | exact hw.rowArr (k := 11) rfl | exact hw.rowArr (k := 12) rfl | exact hw.rowArr (k := 13) rfl | exact hw.rowArr (k := 14) rfl | exact hw.rowArr (k := 15) rfl | exact hw.rowArr (k := 16) rfl | exact hw.rowArr (k := 17) rfl | exact hw.rowArr (k := 18) rfl | exact hw.rowArr (k := 19) rfl); rintro _ _ ⟨sh, rfl, rfl⟩))
    refine qbody_ret2 rfl rfl rfl ⟨_, ⟨_, rfl, rfl⟩, fun w' h => ?_⟩
    exact Cl.sub (by assumption) (by repeat (first | exact List.Sublist.slnil | exact List.Sublist.refl _ | apply List.Sublist.cons_cons | apply List.Sublist.cons))
  | some L =>
    simp only [hf] at h2
    repeat' (first
        | apply pwp_seq
        | apply pwp_region
        | (apply px_run; (first
            | (apply opv_move; first | exact hid_int rfl | exact hid_bool rfl | exact hid_ptr rfl | rfl)
            | (apply opv_assign; first | exact hid_int rfl | exact hid_bool rfl | exact hid_ptr rfl | rfl)
            | (apply opv_lss <;> rfl)
            | (apply opv_leq <;> rfl)
            | (apply opv_gtr <;> rfl)
            | (apply opv_geq <;> rfl)
            | (apply opv_eql <;> rfl)
            | (apply opv_neq <;> rfl)
            | (apply opv_and <;> rfl)
            | (apply opv_or <;> rfl)
            | (apply opv_xor <;> rfl)
            | (apply opv_andNot <;> rfl)
            | (apply opv_pick_t <;> rfl)
            | (apply opv_pick_f <;> rfl)
            | (apply opv_not_dec <;> rfl)
            | (apply opv_not <;> rfl)
            | (apply opv_neg <;> rfl)
            | (apply opv_add_in; rfl; rfl; omega)
            | (apply opv_sub_in; rfl; rfl; omega)
            | (apply opv_mul_in; rfl; rfl; omega)
            | (apply opv_shl; rfl; rfl; omega)
            | (apply opv_shr; rfl; rfl; omega)
            | (apply opv_quo; rfl; rfl; omega)
            | (apply opv_rem; rfl; rfl; omega)
            | (apply opv_field fld_G0; rfl)
            | (apply opv_field fld_G1; rfl)
            | (apply opv_load_blk 0; (first | with_reducible exact sc_int | with_reducible exact sc_ints); rfl; rfl; rfl)
            | (apply opv_load_blk 1; (first | with_reducible exact sc_int | with_reducible exact sc_ints); rfl; rfl; rfl)
            | (apply opv_load_blk 2; (first | with_reducible exact sc_int | with_reducible exact sc_ints); rfl; rfl; rfl)
            | (apply opv_load_blk 3; (first | with_reducible exact sc_int | with_reducible exact sc_ints); rfl; rfl; rfl)
            | (apply opv_load_blk 4; (first | with_reducible exact sc_int | with_reducible exact sc_ints); rfl; rfl; rfl)
            | (apply opv_load_ints sc_int; rfl; (first | exact rd_old (by assumption) | exact rd_row 0 rfl | exact rd_row 1 rfl | exact rd_row 2 rfl | exact rd_row 3 rfl | exact rd_row 4 rfl); (first | omega | (simp only [List.length_set]; omega)))
            | (apply opv_index_nat (vs := ints _) el_int; rfl; rfl; (first | exact rd_old (by assumption) | exact rd_row 0 rfl | exact rd_row 1 rfl | exact rd_row 2 rfl | exact rd_row 3 rfl | exact rd_row 4 rfl); (first | (simp only [ints_length]; omega) | (simp [ints]; omega)))
            | (apply opv_index (vs := ints _) el_int; rfl; rfl; (first | exact rd_old (by assumption) | exact rd_row 0 rfl | exact rd_row 1 rfl | exact rd_row 2 rfl | exact rd_row 3 rfl | exact rd_row 4 rfl); omega; (first | (simp only [ints_length]; omega) | (simp [ints]; omega)))
            | (apply opv_len_ints el_int; rfl; (first | exact rd_old (by assumption) | exact rd_row 0 rfl | exact rd_row 1 rfl | exact rd_row 2 rfl | exact rd_row 3 rfl | exact rd_row 4 rfl))
            | (apply opv_load_str 0 st_G; rfl; rfl; rfl)
            | (apply opv_load_str 1 st_G; rfl; rfl; rfl)
            | (apply opv_load_str 2 st_G; rfl; rfl; rfl)
            | (apply opv_load_str 3 st_G; rfl; rfl; rfl)
            | (apply opv_load_str 4 st_G; rfl; rfl; rfl)
            | (apply opv_extract; rfl; rfl)
            | (apply opv_add <;> rfl)
            | (apply opv_sub <;> rfl)
            | (apply opv_mul <;> rfl)
            | (apply opv_eql_bool ty_bool <;> rfl)
            | (apply opv_neq_bool ty_bool <;> rfl)); rfl; rfl)
        | apply px_nil
        | (apply px_skip; rfl; rfl)
        | apply qseq_normal
        | apply qseq_ret
        | apply qseq_exit
        | apply pwp_block
        | apply qblock_normal
        | apply qblock_ret
        | (apply qblock_exit_same; rfl)
        | (apply qblock_exit_other; rfl)
        | apply pwp_skip
        | apply pwp_exit
        | apply pwp_ret
        | apply qround_ret
        | apply qround_exit
        | apply qonce_ret
        | apply qonce_exit
        | (apply pwp_cond_t; rfl)
        | (apply pwp_cond_f; rfl)
        | (apply pwp_region_mix; kernel_rfl; decide +kernel; exact Cl.stable _ _ _)
        | (apply pwp_region_draw; kernel_rfl; kernel_rfl; exact Cl.stable _ _ _)
        | (apply px_guard_ndec; rfl; rfl; rfl; all_goals (intro hc; try (first | contradiction | (exfalso; omega) | (exfalso; simp at hc; done))))
        | (apply px_guard_dec; rfl; rfl; rfl; all_goals (intro hc; try (first | contradiction | (exfalso; omega) | (exfalso; simp at hc; done))))
        | (apply px_guard_not; rfl; rfl; rfl; all_goals (intro hc; try (first | contradiction | (exfalso; omega) | (exfalso; simp at hc; done))))
        | (apply px_guard; rfl; rfl; rfl; all_goals (intro hc; (first | contradiction | (fail_if_success (cases hc); try (first | (exfalso; omega) | (exfalso; simp at hc; done))))))
        | (apply pwp_cond_ndec; rfl; all_goals (intro hc; try (first | contradiction | (exfalso; omega) | (exfalso; simp at hc; done))))
        | (apply pwp_cond_dec; rfl; all_goals (intro hc; try (first | contradiction | (exfalso; omega) | (exfalso; simp at hc; done))))
        | (apply pwp_cond_not; rfl; all_goals (intro hc; try (first | contradiction | (exfalso; omega) | (exfalso; simp at hc; done))))
        | (apply pwp_cond; rfl; all_goals (intro hc; try (first | contradiction | (exfalso; omega) | (exfalso; simp at hc; done))))
        | (apply px_box; rfl; rfl; rfl; rfl; intro bk)
        | (apply px_gives; rfl; rfl; rfl; rfl; rfl; exact fun w hw => h2 _ (by first | exact hw.arr (by assumption) | exact hw.rowArr (k := 0) rfl | exact hw.rowArr (k := 1) rfl | exact hw.rowArr (k := 2) rfl | exact hw.rowArr (k := 3) rfl | exact hw.rowArr (k := 4) rfl | exact hw.rowArr (k := 5) rfl | exact hw.rowArr (k := 6) rfl | exact hw.rowArr (k := 7) rfl | exact hw.rowArr (k := 8) rfl | exact hw.rowArr (k := 9) rfl | exact hw.rowArr (k := 10) rfl | exact hw.rowArr (k := 11) rfl | exact hw.rowArr (k := 12) rfl | exact hw.rowArr (k := 13) rfl | exact hw.rowArr (k := 14) rfl | exact hw.rowArr (k := 15) rfl | exact hw.rowArr (k := 16) rfl | exact hw.rowArr (k := 17) rfl | exact hw.rowArr (k := 18) rfl | exact hw.rowArr (k := 19) rfl); rintro _ _ ⟨sr, rfl, rfl⟩))
    refine qbody_ret2 rfl rfl rfl ⟨_, ⟨_, rfl, rfl⟩, fun w' h => ?_⟩
    exact Cl.sub (by assumption) (by repeat (first | exact List.Sublist.slnil | exact List.Sublist.refl _ | apply List.Sublist.cons_cons | apply List.Sublist.cons))
theorem en_s_SplitObstacle : Entry Try.prog 30 := ⟨_, Try.func30, by kernel_rfl, rfl⟩
theorem s_SplitObstacle_c (size : Int) (gv : Value) (rows : List Int) (w : World) (hr : Arr w gv (ints rows)) :
    Gives Try.prog 30 #[.agg #[.int .i64 size, gv]] w (fun v objs => ∃ sv, v = .tuple #[sv, .bool (splitObsX size rows).isSome] ∧ objs = [.row 3 sv (ints ((splitObsX size rows).getD []))]) := by
  refine gives_enter (args := [_]) en_s_SplitObstacle Try.func30 rfl Try.ntmps30 rfl ?_
  have h2 := fun w' h => s_FindTwoEdges_c size gv rows w' h
  unfold splitObsX
  cases hf : fourX size rows fun l => decide (twoP size rows l) with
  | none =>
    simp only [hf] at h2
    repeat' (first
        | apply pwp_seq
        | apply pwp_region
        | (apply px_run; (first
            | (apply opv_move; first | exact hid_int rfl | exact hid_bool rfl | exact hid_ptr rfl | rfl)
            | (apply opv_assign; first | exact hid_int rfl | exact hid_bool rfl | exact hid_ptr rfl | rfl)
            | (apply opv_lss <;> rfl)
            | (apply opv_leq <;> rfl)
            | (apply opv_gtr <;> rfl)
            | (apply opv_geq <;> rfl)
            | (apply opv_eql <;> rfl)
            | (apply opv_neq <;> rfl)
            | (apply opv_and <;> rfl)
            | (apply opv_or <;> rfl)
            | (apply opv_xor <;> rfl)
            | (apply opv_andNot <;> rfl)
            | (apply opv_pick_t <;> rfl)
            | (apply opv_pick_f <;> rfl)
            | (apply opv_not_dec <;> rfl)
            | (apply opv_not <;> rfl)
            | (apply opv_neg <;> rfl)
            | (apply opv_add_in; rfl; rfl; omega)
            | (apply opv_sub_in; rfl; rfl; omega)
            | (apply opv_mul_in; rfl; rfl; omega)
            | (apply opv_shl; rfl; rfl; omega)
            | (apply opv_shr; rfl; rfl; omega)
            | (apply opv_quo; rfl; rfl; omega)
            | (apply opv_rem; rfl; rfl; omega)
            | (apply opv_field fld_G0; rfl)
            | (apply opv_field fld_G1; rfl)
            | (apply opv_load_blk 0; (first | with_reducible exact sc_int | with_reducible exact sc_ints); rfl; rfl; rfl)
            | (apply opv_load_blk 1; (first | with_reducible exact sc_int | with_reducible exact sc_ints); rfl; rfl; rfl)
            | (apply opv_load_blk 2; (first | with_reducible exact sc_int | with_reducible exact sc_ints); rfl; rfl; rfl)
            | (apply opv_load_blk 3; (first | with_reducible exact sc_int | with_reducible exact sc_ints); rfl; rfl; rfl)
            | (apply opv_load_blk 4; (first | with_reducible exact sc_int | with_reducible exact sc_ints); rfl; rfl; rfl)
            | (apply opv_load_ints sc_int; rfl; (first | exact rd_old (by assumption) | exact rd_row 0 rfl | exact rd_row 1 rfl | exact rd_row 2 rfl | exact rd_row 3 rfl | exact rd_row 4 rfl); (first | omega | (simp only [List.length_set]; omega)))
            | (apply opv_index_nat (vs := ints _) el_int; rfl; rfl; (first | exact rd_old (by assumption) | exact rd_row 0 rfl | exact rd_row 1 rfl | exact rd_row 2 rfl | exact rd_row 3 rfl | exact rd_row 4 rfl); (first | (simp only [ints_length]; omega) | (simp [ints]; omega)))
            | (apply opv_index (vs := ints _) el_int; rfl; rfl; (first | exact rd_old (by assumption) | exact rd_row 0 rfl | exact rd_row 1 rfl | exact rd_row 2 rfl | exact rd_row 3 rfl | exact rd_row 4 rfl); omega; (first | (simp only [ints_length]; omega) | (simp [ints]; omega)))
            | (apply opv_len_ints el_int; rfl; (first | exact rd_old (by assumption) | exact rd_row 0 rfl | exact rd_row 1 rfl | exact rd_row 2 rfl | exact rd_row 3 rfl | exact rd_row 4 rfl))
            | (apply opv_load_str 0 st_G; rfl; rfl; rfl)
            | (apply opv_load_str 1 st_G; rfl; rfl; rfl)
            | (apply opv_load_str 2 st_G; rfl; rfl; rfl)
            | (apply opv_load_str 3 st_G; rfl; rfl; rfl)
            | (apply opv_load_str 4 st_G; rfl; rfl; rfl)
            | (apply opv_extract; rfl; rfl)
            | (apply opv_add <;> rfl)
            | (apply opv_sub <;> rfl)
            | (apply opv_mul <;> rfl)
            | (apply opv_eql_bool ty_bool <;> rfl)
            | (apply opv_neq_bool ty_bool <;> rfl)); rfl; rfl)
        | apply px_nil
        | (apply px_skip; rfl; rfl)
        | apply qseq_normal
        | apply qseq_ret
        | apply qseq_exit
        | apply pwp_block
        | apply qblock_normal
        | apply qblock_ret
        | (apply qblock_exit_same; rfl)
        | (apply qblock_exit_other; rfl)
        | apply pwp_skip
        | apply pwp_exit
        | apply pwp_ret
        | apply qround_ret
        | apply qround_exit
        | apply qonce_ret
        | apply qonce_exit
        | (apply pwp_cond_t; rfl)
        | (apply pwp_cond_f; rfl)
        | (apply pwp_region_mix; kernel_rfl; decide +kernel; exact Cl.stable _ _ _)
        | (apply pwp_region_draw; kernel_rfl; kernel_rfl; exact Cl.stable _ _ _)
        | (apply px_guard_ndec; rfl; rfl; rfl; all_goals (intro hc; try (first | contradiction | (exfalso; omega) | (exfalso; simp at hc; done))))
        | (apply px_guard_dec; rfl; rfl; rfl; all_goals (intro hc; try (first | contradiction | (exfalso; omega) | (exfalso; simp at hc; done))))
        | (apply px_guard_not; rfl; rfl; rfl; all_goals (intro hc; try (first | contradiction | (exfalso; omega) | (exfalso; simp at hc; done))))
        | (apply px_guard; rfl; rfl; rfl; all_goals (intro hc; (first | contradiction | (fail_if_success (cases hc); try (first | (exfalso; omega) | (exfalso; simp at hc; done))))))
        | (apply pwp_cond_ndec; rfl; all_goals (intro hc; try (first | contradiction | (exfalso; omega) | (exfalso; simp at hc; done))))
        | (apply pwp_cond_dec; rfl; all_goals (intro hc; try (first | contradiction | (exfalso; omega) | (exfalso; simp at hc; done))))
        | (apply pwp_cond_not; rfl; all_goals (intro hc; try (first | contradiction | (exfalso; omega) | (exfalso; simp at hc; done))))
        | (apply pwp_cond; rfl; all_goals (intro hc; try (first | contradiction | (exfalso; omega) | (exfalso; simp at hc; done))))
        | (apply px_box; rfl; rfl; rfl; rfl; intro bk)
        | (apply px_gives; rfl; rfl; rfl; rfl; rfl; exact fun w hw => h2 _ (by first | exact hw.arr (by assumption) | exact hw.rowArr (k := 0) rfl | exact hw.rowArr (k := 1) rfl | exact hw.rowArr (k := 2) rfl | exact hw.rowArr (k := 3) rfl | exact hw.rowArr (k := 4) rfl | exact hw.rowArr (k := 5) rfl | exact hw.rowArr (k := 6) rfl | exact hw.rowArr (k := 7) rfl | exact hw.rowArr (k := 8) rfl | exact hw.rowArr (k := 9) rfl | exact hw.rowArr (k := 10) rfl | exact hw.rowArr (k := 11) rfl | exact hw.rowArr (k := 12) rfl | exact hw.rowArr (k := 13) rfl | exact hw.rowArr (k := 14) rfl | exact hw.rowArr (k := 15) rfl | exact hw.rowArr (k := 16) rfl | exact hw.rowArr (k := 17) rfl | exact hw.rowArr (k := 18) rfl | exact hw.rowArr (k := 19) rfl); rintro _ _ ⟨sr, rfl, rfl⟩)
        | (apply px_gives; rfl; rfl; rfl; rfl; rfl; exact fun w hw => s_FindHole_c _ _ rows _ (by first | exact hw.arr (by assumption) | exact hw.rowArr (k := 0) rfl | exact hw.rowArr (k := 1) rfl | exact hw.rowArr (k := 2) rfl | exact hw.rowArr (k := 3) rfl | exact hw.rowArr (k := 4) rfl | exact hw.rowArr (k := 5) rfl | exact hw.rowArr (k := 6) rfl | exact hw.rowArr (k := 7) rfl | exact hw.rowArr (k := 8) rfl | exact hw.rowArr (k := 9) rfl | exact hw.rowArr (k := 10) rfl | exact hw.rowArr (k := 11) rfl | exact hw.rowArr (k := 12) rfl | exact hw.rowArr (k := 13) rfl | exact hw.rowArr (k := 14) rfl | exact hw.rowArr (k := 15) rfl | exact hw.rowArr (k := 16) rfl | exact hw.rowArr (k := 17) rfl | exact hw.rowArr (k := 18) rfl | exact hw.rowArr (k := 19) rfl); rintro _ _ ⟨sh, rfl, rfl⟩))
    refine qbody_ret2 rfl rfl rfl ⟨_, ⟨_, rfl, rfl⟩, fun w' h => ?_⟩
    exact Cl.sub (by assumption) (by repeat (first | exact List.Sublist.slnil | exact List.Sublist.refl _ | apply List.Sublist.cons_cons | apply List.Sublist.cons))
  | some L =>
    simp only [hf] at h2
    repeat' (first
        | apply pwp_seq
        | apply pwp_region
        | (apply px_run; (first
            | (apply opv_move; first | exact hid_int rfl | exact hid_bool rfl | exact hid_ptr rfl | rfl)
            | (apply opv_assign; first | exact hid_int rfl | exact hid_bool rfl | exact hid_ptr rfl | rfl)
            | (apply opv_lss <;> rfl)
            | (apply opv_leq <;> rfl)
            | (apply opv_gtr <;> rfl)
            | (apply opv_geq <;> rfl)
            | (apply opv_eql <;> rfl)
            | (apply opv_neq <;> rfl)
            | (apply opv_and <;> rfl)
            | (apply opv_or <;> rfl)
            | (apply opv_xor <;> rfl)
            | (apply opv_andNot <;> rfl)
            | (apply opv_pick_t <;> rfl)
            | (apply opv_pick_f <;> rfl)
            | (apply opv_not_dec <;> rfl)
            | (apply opv_not <;> rfl)
            | (apply opv_neg <;> rfl)
            | (apply opv_add_in; rfl; rfl; omega)
            | (apply opv_sub_in; rfl; rfl; omega)
            | (apply opv_mul_in; rfl; rfl; omega)
            | (apply opv_shl; rfl; rfl; omega)
            | (apply opv_shr; rfl; rfl; omega)
            | (apply opv_quo; rfl; rfl; omega)
            | (apply opv_rem; rfl; rfl; omega)
            | (apply opv_field fld_G0; rfl)
            | (apply opv_field fld_G1; rfl)
            | (apply opv_load_blk 0; (first | with_reducible exact sc_int | with_reducible exact sc_ints); rfl; rfl; rfl)
            | (apply opv_load_blk 1; (first | with_reducible exact sc_int | with_reducible exact sc_ints); rfl; rfl; rfl)
            | (apply opv_load_blk 2; (first | with_reducible exact sc_int | with_reducible exact sc_ints); rfl; rfl; rfl)
            | (apply opv_load_blk 3; (first | with_reducible exact sc_int | with_reducible exact sc_ints); rfl; rfl; rfl)
            | (apply opv_load_blk 4; (first | with_reducible exact sc_int | with_reducible exact sc_ints); rfl; rfl; rfl)
            | (apply opv_load_ints sc_int; rfl; (first | exact rd_old (by assumption) | exact rd_row 0 rfl | exact rd_row 1 rfl | exact rd_row 2 rfl | exact rd_row 3 rfl | exact rd_row 4 rfl); (first | omega | (simp only [List.length_set]; omega)))
            | (apply opv_index_nat (vs := ints _) el_int; rfl; rfl; (first | exact rd_old (by assumption) | exact rd_row 0 rfl | exact rd_row 1 rfl | exact rd_row 2 rfl | exact rd_row 3 rfl | exact rd_row 4 rfl); (first | (simp only [ints_length]; omega) | (simp [ints]; omega)))
            | (apply opv_index (vs := ints _) el_int; rfl; rfl; (first | exact rd_old (by assumption) | exact rd_row 0 rfl | exact rd_row 1 rfl | exact rd_row 2 rfl | exact rd_row 3 rfl | exact rd_row 4 rfl); omega; (first | (simp only [ints_length]; omega) | (simp [ints]; omega)))
            | (apply opv_len_ints el_int; rfl; (first | exact rd_old (by assumption) | exact rd_row 0 rfl | exact rd_row 1 rfl | exact rd_row 2 rfl | exact rd_row 3 rfl | exact rd_row 4 rfl))
            | (apply opv_load_str 0 st_G; rfl; rfl; rfl)
            | (apply opv_load_str 1 st_G; rfl; rfl; rfl)
            | (apply opv_load_str 2 st_G; rfl; rfl; rfl)
            | (apply opv_load_str 3 st_G; rfl; rfl; rfl)
            | (apply opv_load_str 4 st_G; rfl; rfl; rfl)
            | (apply opv_extract; rfl; rfl)
            | (apply opv_add <;> rfl)
            | (apply opv_sub <;> rfl)
            | (apply opv_mul <;> rfl)
            | (apply opv_eql_bool ty_bool <;> rfl)
            | (apply opv_neq_bool ty_bool <;> rfl)); rfl; rfl)
        | apply px_nil
        | (apply px_skip; rfl; rfl)
        | apply qseq_normal
        | apply qseq_ret
        | apply qseq_exit
        | apply pwp_block
        | apply qblock_normal
        | apply qblock_ret
        | (apply qblock_exit_same; rfl)
        | (apply qblock_exit_other; rfl)
        | apply pwp_skip
        | apply pwp_exit
        | apply pwp_ret
        | apply qround_ret
        | apply qround_exit
        | apply qonce_ret
        | apply qonce_exit
        | (apply pwp_cond_t; rfl)
        | (apply pwp_cond_f; rfl)
        | (apply pwp_region_mix; kernel_rfl; decide +kernel; exact Cl.stable _ _ _)
        | (apply pwp_region_draw; kernel_rfl; kernel_rfl; exact Cl.stable _ _ _)
        | (apply px_guard_ndec; rfl; rfl; rfl; all_goals (intro hc; try (first | contradiction | (exfalso; omega) | (exfalso; simp at hc; done))))
        | (apply px_guard_dec; rfl; rfl; rfl; all_goals (intro hc; try (first | contradiction | (exfalso; omega) | (exfalso; simp at hc; done))))
        | (apply px_guard_not; rfl; rfl; rfl; all_goals (intro hc; try (first | contradiction | (exfalso; omega) | (exfalso; simp at hc; done))))
        | (apply px_guard; rfl; rfl; rfl; all_goals (intro hc; (first | contradiction | (fail_if_success (cases hc); try (first | (exfalso; omega) | (exfalso; simp at hc; done))))))
        | (apply pwp_cond_ndec; rfl; all_goals (intro hc; try (first | contradiction | (exfalso; omega) | (exfalso; simp at hc; done))))
        | (apply pwp_cond_dec; rfl; all_goals (intro hc; try (first | contradiction | (exfalso; omega) | (exfalso; simp at hc; done))))
        | (apply pwp_cond_not; rfl; all_goals (intro hc; try (first | contradiction | (exfalso; omega) | (exfalso; simp at hc; done))))
        | (apply pwp_cond; rfl; all_goals (intro hc; try (first | contradiction | (exfalso; omega) | (exfalso; simp at hc; done))))
        | (apply px_box; rfl; rfl; rfl; rfl; intro bk)
        | (apply px_gives; rfl; rfl; rfl; rfl; rfl; exact fun w hw => h2 _ (by first | exact hw.arr (by assumption) | exact hw.rowArr (k := 0) rfl | exact hw.rowArr (k := 1) rfl | exact hw.rowArr (k := 2) rfl | exact hw.rowArr (k := 3) rfl | exact hw.rowArr (k := 4) rfl | exact hw.rowArr (k := 5) rfl | exact hw.rowArr (k := 6) rfl | exact hw.rowArr (k := 7) rfl | exact hw.rowArr (k := 8) rfl | exact hw.rowArr (k := 9) rfl | exact hw.rowArr (k := 10) rfl | exact hw.rowArr (k := 11) rfl | exact hw.rowArr (k := 12) rfl | exact hw.rowArr (k := 13) rfl | exact hw.rowArr (k := 14) rfl | exact hw.rowArr (k := 15) rfl | exact hw.rowArr (k := 16) rfl | exact hw.rowArr (k := 17) rfl | exact hw.rowArr (k := 18) rfl | exact hw.rowArr (k := 19) rfl); rintro _ _ ⟨sr, rfl, rfl⟩))
    refine qbody_ret2 rfl rfl rfl ⟨_, ⟨_, rfl, rfl⟩, fun w' h => ?_⟩
    exact Cl.sub (by assumption) (by repeat (first | exact List.Sublist.slnil | exact List.Sublist.refl _ | apply List.Sublist.cons_cons | apply List.Sublist.cons))
end Go.Proofs.Ytpmeehkabaobkaa
