/- Graphs of permutations; degrees. -/
import Derived.Test.YtaadjebiglihlaaSo
import Derived.Test.YtaadjebiglihlaaQt
import Derived.Test.YtaadjebiglihlaaPwPgp
namespace Go.Proofs.Ytaadjebiglihlaa
open Go Go.RowKit Go.Pw
theorem en_i_GraphOfPermutation_1 : Entry Try.prog 48 := ⟨_, Try.func48, by kernel_rfl, rfl⟩
theorem i_GraphOfPermutation_1_c (lv : Value) (l : List Int) (b v u : Nat) (w : World) (hl : Arr w lv (ints l)) (hb : Bk w b [lv]) (hv : v < l.length) (hu : u < l.length) :
    Pure Try.prog 48 #[.int .i64 v, .int .i64 u, .pointer (some ⟨b, 0, none⟩)] w (.bool (gpJ l v u)) := by
  refine pure_enter (args := [_, _, _]) en_i_GraphOfPermutation_1 Try.func48 rfl Try.ntmps48 rfl ?_
  unfold gpJ
  repeat' (first
      | apply pwp_seq
      | apply pwp_region
      | (apply px_run; (first
          | (apply opv_move; first | exact hid_int rfl | exact hid_bool rfl | exact hid_ptr rfl | rfl)
          | (apply opv_assign; first | exact hid_int rfl | exact hid_bool rfl | exact hid_ptr rfl | rfl)
          | (apply opv_lss <;> rfl)
          | (apply opv_leq <;> rfl)
          | (apply opv_gtr <;> rfl)
          | (apply opv_geq <;> rfl)
          | (apply opv_eql <;> rfl)
          | (apply opv_neq <;> rfl)
          | (apply opv_and <;> rfl)
          | (apply opv_or <;> rfl)
          | (apply opv_xor <;> rfl)
          | (apply opv_andNot <;> rfl)
          | (apply opv_pick_t <;> rfl)
          | (apply opv_pick_f <;> rfl)
          | (apply opv_not_dec <;> rfl)
          | (apply opv_not <;> rfl)
          | (apply opv_neg <;> rfl)
          | (apply opv_add_in; rfl; rfl; omega)
          | (apply opv_sub_in; rfl; rfl; omega)
          | (apply opv_mul_in; rfl; rfl; omega)
          | (apply opv_shl; rfl; rfl; omega)
          | (apply opv_shr; rfl; rfl; omega)
          | (apply opv_quo; rfl; rfl; omega)
          | (apply opv_rem; rfl; rfl; omega)
          | (apply opv_field fld_G0; rfl)
          | (apply opv_field fld_G1; rfl)
          | (apply opv_load_blk 0; (first | with_reducible exact sc_int | with_reducible exact sc_ints); rfl; rfl; rfl)
          | (apply opv_load_blk 1; (first | with_reducible exact sc_int | with_reducible exact sc_ints); rfl; rfl; rfl)
          | (apply opv_load_blk 2; (first | with_reducible exact sc_int | with_reducible exact sc_ints); rfl; rfl; rfl)
          | (apply opv_load_blk 3; (first | with_reducible exact sc_int | with_reducible exact sc_ints); rfl; rfl; rfl)
          | (apply opv_load_blk 4; (first | with_reducible exact sc_int | with_reducible exact sc_ints); rfl; rfl; rfl)
          | (apply opv_load_ints sc_int; rfl; (first | exact rd_old (by assumption) | exact rd_row 0 rfl | exact rd_row 1 rfl | exact rd_row 2 rfl | exact rd_row 3 rfl | exact rd_row 4 rfl); (first | omega | (simp only [List.length_set]; omega)))
          | (apply opv_index_nat (vs := ints _) el_int; rfl; rfl; (first | exact rd_old (by assumption) | exact rd_row 0 rfl | exact rd_row 1 rfl | exact rd_row 2 rfl | exact rd_row 3 rfl | exact rd_row 4 rfl); (first | (simp only [ints_length]; omega) | (simp [ints]; omega)))
          | (apply opv_index (vs := ints _) el_int; rfl; rfl; (first | exact rd_old (by assumption) | exact rd_row 0 rfl | exact rd_row 1 rfl | exact rd_row 2 rfl | exact rd_row 3 rfl | exact rd_row 4 rfl); omega; (first | (simp only [ints_length]; omega) | (simp [ints]; omega)))
          | (apply opv_len_ints el_int; rfl; (first | exact rd_old (by assumption) | exact rd_row 0 rfl | exact rd_row 1 rfl | exact rd_row 2 rfl | exact rd_row 3 rfl | exact rd_row 4 rfl))
          | (apply opv_load_str 0 st_G; rfl; rfl; rfl)
          | (apply opv_load_str 1 st_G; rfl; rfl; rfl)
          | (apply opv_load_str 2 st_G; rfl; rfl; rfl)
          | (apply opv_load_str 3 st_G; rfl; rfl; rfl)
          | (apply opv_load_str 4 st_G; rfl; rfl; rfl)
          | (apply opv_load_old; (first | with_reducible exact sc_int | with_reducible exact sc_ints); rfl; assumption; rfl)
          | (apply opv_load_old_str st_G; rfl; assumption; rfl)
          | (apply opv_add <;> rfl)
          | (apply opv_sub <;> rfl)
          | (apply opv_mul <;> rfl)
          | (apply opv_eql_bool ty_bool <;> rfl)
          | (apply opv_neq_bool ty_bool <;> rfl)); rfl; rfl)
      | apply px_nil
      | (apply px_skip; rfl; rfl)
      | apply qseq_normal
      | apply qseq_ret
      | apply qseq_exit
      | apply pwp_block
      | apply qblock_normal
      | apply qblock_ret
      | (apply qblock_exit_same; rfl)
      | (apply qblock_exit_other; rfl)
      | apply pwp_skip
      | apply pwp_exit
      | apply pwp_ret
      | apply qround_ret
      | apply qround_exit
      | apply qonce_ret
      | apply qonce_exit
      | (apply pwp_cond_t; rfl)
      | (apply pwp_cond_f; rfl)
      | (apply pwp_region_mix; kernel_rfl; decide +kernel; exact Cl.stable _ _ _)
      | (apply pwp_region_draw; kernel_rfl; kernel_rfl; exact Cl.stable _ _ _)
      | (apply px_guard_ndec; rfl; rfl; rfl; all_goals (intro hc; try (first | contradiction | (exfalso; omega) | (exfalso; simp at hc; done))))
      | (apply px_guard_dec; rfl; rfl; rfl; all_goals (intro hc; try (first | contradiction | (exfalso; omega) | (exfalso; simp at hc; done))))
      | (apply px_guard_not; rfl; rfl; rfl; all_goals (intro hc; try (first | contradiction | (exfalso; omega) | (exfalso; simp at hc; done))))
      | (apply px_guard; rfl; rfl; rfl; all_goals (intro hc; (first | contradiction | (fail_if_success (cases hc); try (first | (exfalso; omega) | (exfalso; simp at hc; done))))))
      | (apply pwp_cond_ndec; rfl; all_goals (intro hc; try (first | contradiction | (exfalso; omega) | (exfalso; simp at hc; done))))
      | (apply pwp_cond_dec; rfl; all_goals (intro hc; try (first | contradiction | (exfalso; omega) | (exfalso; simp at hc; done))))
      | (apply pwp_cond_not; rfl; all_goals (intro hc; try (first | contradiction | (exfalso; omega) | (exfalso; simp at hc; done))))
      | (apply pwp_cond; rfl; all_goals (intro hc; try (first | contradiction | (exfalso; omega) | (exfalso; simp at hc; done))))
      | (apply px_box; rfl; rfl; rfl; rfl; intro bk))
  refine qbody_ret1 (v := .bool _) rfl rfl ⟨rfl, fun _ h => h.below⟩
theorem en_i_GraphOfPermutation : Entry Try.prog 17 := ⟨_, Try.func17, by kernel_rfl, rfl⟩
theorem i_GraphOfPermutation_c (pv : Value) (p : List Int) (w : World) (hp : Arr w pv (ints p)) :
    Gives Try.prog 17 #[pv] w (fun v objs => ∃ sv', v = .tuple #[.agg #[.int .i64 (gpZ p), sv'], .bool (decide (permP p))] ∧ objs = [.row 3 sv' (ints (gpL p))]) := by
  refine gives_enter (args := [_]) en_i_GraphOfPermutation Try.func17 rfl Try.ntmps17 rfl ?_
  have hlen := hp.len
  by_cases hok : permP p
  case neg =>
    have f1 : gpZ p = 0 := if_neg hok
    have f2 : gpL p = [] := if_neg hok
    have f3 : decide (permP p) = false := decide_eq_false hok
    repeat' (first
        | apply pwp_seq
        | apply pwp_region
        | (apply px_run; (first
            | (apply opv_move; first | exact hid_int rfl | exact hid_bool rfl | exact hid_ptr rfl | rfl)
            | (apply opv_assign; first | exact hid_int rfl | exact hid_bool rfl | exact hid_ptr rfl | rfl)
            | (apply opv_lss <;> rfl)
            | (apply opv_leq <;> rfl)
            | (apply opv_gtr <;> rfl)
            | (apply opv_geq <;> rfl)
            | (apply opv_eql <;> rfl)
            | (apply opv_neq <;> rfl)
            | (apply opv_and <;> rfl)
            | (apply opv_or <;> rfl)
            | (apply opv_xor <;> rfl)
            | (apply opv_andNot <;> rfl)
            | (apply opv_pick_t <;> rfl)
            | (apply opv_pick_f <;> rfl)
            | (apply opv_not_dec <;> rfl)
            | (apply opv_not <;> rfl)
            | (apply opv_neg <;> rfl)
            | (apply opv_add_in; rfl; rfl; omega)
            | (apply opv_sub_in; rfl; rfl; omega)
            | (apply opv_mul_in; rfl; rfl; omega)
            | (apply opv_shl; rfl; rfl; omega)
            | (apply opv_shr; rfl; rfl; omega)
            | (apply opv_quo; rfl; rfl; omega)
            | (apply opv_rem; rfl; rfl; omega)
            | (apply opv_field fld_G0; rfl)
            | (apply opv_field fld_G1; rfl)
            | (apply opv_load_blk 0; (first | with_reducible exact sc_int | with_reducible exact sc_ints); rfl; rfl; rfl)
            | (apply opv_load_blk 1; (first | with_reducible exact sc_int | with_reducible exact sc_ints); rfl; rfl; rfl)
            | (apply opv_load_blk 2; (first | with_reducible exact sc_int | with_reducible exact sc_ints); rfl; rfl; rfl)
            | (apply opv_load_blk 3; (first | with_reducible exact sc_int | with_reducible exact sc_ints); rfl; rfl; rfl)
            | (apply opv_load_blk 4; (first | with_reducible exact sc_int | with_reducible exact sc_ints); rfl; rfl; rfl)
            | (apply opv_load_ints sc_int; rfl; (first | exact rd_old (by assumption) | exact rd_row 0 rfl | exact rd_row 1 rfl | exact rd_row 2 rfl | exact rd_row 3 rfl | exact rd_row 4 rfl); (first | omega | (simp only [List.length_set]; omega)))
            | (apply opv_index_nat (vs := ints _) el_int; rfl; rfl; (first | exact rd_old (by assumption) | exact rd_row 0 rfl | exact rd_row 1 rfl | exact rd_row 2 rfl | exact rd_row 3 rfl | exact rd_row 4 rfl); (first | (simp only [ints_length]; omega) | (simp [ints]; omega)))
            | (apply opv_index (vs := ints _) el_int; rfl; rfl; (first | exact rd_old (by assumption) | exact rd_row 0 rfl | exact rd_row 1 rfl | exact rd_row 2 rfl | exact rd_row 3 rfl | exact rd_row 4 rfl); omega; (first | (simp only [ints_length]; omega) | (simp [ints]; omega)))
            | (apply opv_len_ints el_int; rfl; (first | exact rd_old (by assumption) | exact rd_row 0 rfl | exact rd_row 1 rfl | exact rd_row 2 rfl | exact rd_row 3 rfl | exact rd_row 4 rfl))
            | (apply opv_load_str 0 st_G; rfl; rfl; rfl)
            | (apply opv_load_str 1 st_G; rfl; rfl; rfl)
            | (apply opv_load_str 2 st_G; rfl; rfl; rfl)
            | (apply opv_load_str 3 st_G; rfl; rfl; rfl)
            | (apply opv_load_str 4 st_G; rfl; rfl; rfl)
            | (apply opv_build2 bl_G; rfl; rfl; (first | exact rd_old (by assumption) | exact rd_row 0 rfl | exact rd_row 1 rfl | exact rd_row 2 rfl | exact rd_row 3 rfl | exact rd_row 4 rfl))
            | (apply opv_build1 bl_G; rfl)
            | (apply opv_build0 bl_G)
            | (apply opv_call; rfl; rfl; exact Cl.stable _ _ _; exact fun w hw => i_IsPermutation_c _ p _ (by first | exact hw.arr (by assumption) | exact hw.rowArr (k := 0) rfl | exact hw.rowArr (k := 1) rfl | exact hw.rowArr (k := 2) rfl | exact hw.rowArr (k := 3) rfl | exact hw.rowArr (k := 4) rfl | exact hw.rowArr (k := 5) rfl | exact hw.rowArr (k := 6) rfl | exact hw.rowArr (k := 7) rfl | exact hw.rowArr (k := 8) rfl | exact hw.rowArr (k := 9) rfl | exact hw.rowArr (k := 10) rfl | exact hw.rowArr (k := 11) rfl | exact hw.rowArr (k := 12) rfl | exact hw.rowArr (k := 13) rfl | exact hw.rowArr (k := 14) rfl | exact hw.rowArr (k := 15) rfl | exact hw.rowArr (k := 16) rfl | exact hw.rowArr (k := 17) rfl | exact hw.rowArr (k := 18) rfl | exact hw.rowArr (k := 19) rfl))
            | (apply opv_add <;> rfl)
            | (apply opv_sub <;> rfl)
            | (apply opv_mul <;> rfl)
            | (apply opv_eql_bool ty_bool <;> rfl)
            | (apply opv_neq_bool ty_bool <;> rfl)); rfl; rfl)
        | apply px_nil
        | (apply px_skip; rfl; rfl)
        | apply qseq_normal
        | apply qseq_ret
        | apply qseq_exit
        | apply pwp_block
        | apply qblock_normal
        | apply qblock_ret
        | (apply qblock_exit_same; rfl)
        | (apply qblock_exit_other; rfl)
        | apply pwp_skip
        | apply pwp_exit
        | apply pwp_ret
        | apply qround_ret
        | apply qround_exit
        | apply qonce_ret
        | apply qonce_exit
        | (apply pwp_cond_t; rfl)
        | (apply pwp_cond_f; rfl)
        | (apply pwp_region_mix; kernel_rfl; decide +kernel; exact Cl.stable _ _ _)
        | (apply pwp_region_draw; kernel_rfl; kernel_rfl; exact Cl.stable _ _ _)
        | (apply px_guard_ndec; rfl; rfl; rfl; all_goals (intro hc; try (first | contradiction | (exfalso; omega) | (exfalso; simp at hc; done))))
        | (apply px_guard_dec; rfl; rfl; rfl; all_goals (intro hc; try (first | contradiction | (exfalso; omega) | (exfalso; simp at hc; done))))
        | (apply px_guard_not; rfl; rfl; rfl; all_goals (intro hc; try (first | contradiction | (exfalso; omega) | (exfalso; simp at hc; done))))
        | (apply px_guard; rfl; rfl; rfl; all_goals (intro hc; (first | contradiction | (fail_if_success (cases hc); try (first | (exfalso; omega) | (exfalso; simp at hc; done))))))
        | (apply pwp_cond_ndec; rfl; all_goals (intro hc; try (first | contradiction | (exfalso; omega) | (exfalso; simp at hc; done))))
        | (apply pwp_cond_dec; rfl; all_goals (intro hc; try (first | contradiction | (exfalso; omega) | (exfalso; simp at hc; done))))
        | (apply pwp_cond_not; rfl; all_goals (intro hc; try (first | contradiction | (exfalso; omega) | (exfalso; simp at hc; done))))
        | (apply pwp_cond; rfl; all_goals (intro hc; try (first | contradiction | (exfalso; omega) | (exfalso; simp at hc; done))))
        | (apply px_box; rfl; rfl; rfl; rfl; intro bk)
        | (apply px_alloc st_G; rfl; rfl; rfl; intro bk)
        | (apply px_store_str 0 st_G; rfl; rfl; rfl; rfl; rfl; (intro w hw; (first | refine all2 rfl ?_ ?_ | refine all3 rfl ?_ ?_ ?_ | refine all1 rfl ?_) <;> (first | rfl | assumption | exact stor_row 0 hw rfl | exact stor_row 1 hw rfl | exact stor_row 2 hw rfl | exact stor_row 3 hw rfl | exact stor_row 4 hw rfl | exact stor_arr (by assumption) | exact stor_mem hw (by repeat (first | assumption | apply List.mem_cons_of_mem | apply List.mem_append_right)))); rfl)
        | (apply px_store_str 1 st_G; rfl; rfl; rfl; rfl; rfl; (intro w hw; (first | refine all2 rfl ?_ ?_ | refine all3 rfl ?_ ?_ ?_ | refine all1 rfl ?_) <;> (first | rfl | assumption | exact stor_row 0 hw rfl | exact stor_row 1 hw rfl | exact stor_row 2 hw rfl | exact stor_row 3 hw rfl | exact stor_row 4 hw rfl | exact stor_arr (by assumption) | exact stor_mem hw (by repeat (first | assumption | apply List.mem_cons_of_mem | apply List.mem_append_right)))); rfl)
        | (apply px_store_str 2 st_G; rfl; rfl; rfl; rfl; rfl; (intro w hw; (first | refine all2 rfl ?_ ?_ | refine all3 rfl ?_ ?_ ?_ | refine all1 rfl ?_) <;> (first | rfl | assumption | exact stor_row 0 hw rfl | exact stor_row 1 hw rfl | exact stor_row 2 hw rfl | exact stor_row 3 hw rfl | exact stor_row 4 hw rfl | exact stor_arr (by assumption) | exact stor_mem hw (by repeat (first | assumption | apply List.mem_cons_of_mem | apply List.mem_append_right)))); rfl)
        | (apply px_store_str 3 st_G; rfl; rfl; rfl; rfl; rfl; (intro w hw; (first | refine all2 rfl ?_ ?_ | refine all3 rfl ?_ ?_ ?_ | refine all1 rfl ?_) <;> (first | rfl | assumption | exact stor_row 0 hw rfl | exact stor_row 1 hw rfl | exact stor_row 2 hw rfl | exact stor_row 3 hw rfl | exact stor_row 4 hw rfl | exact stor_arr (by assumption) | exact stor_mem hw (by repeat (first | assumption | apply List.mem_cons_of_mem | apply List.mem_append_right)))); rfl)
        | (apply px_store_str 4 st_G; rfl; rfl; rfl; rfl; rfl; (intro w hw; (first | refine all2 rfl ?_ ?_ | refine all3 rfl ?_ ?_ ?_ | refine all1 rfl ?_) <;> (first | rfl | assumption | exact stor_row 0 hw rfl | exact stor_row 1 hw rfl | exact stor_row 2 hw rfl | exact stor_row 3 hw rfl | exact stor_row 4 hw rfl | exact stor_arr (by assumption) | exact stor_mem hw (by repeat (first | assumption | apply List.mem_cons_of_mem | apply List.mem_append_right)))); rfl)
        | (apply px_box1; rfl; (intro w hw; (first | rfl | assumption | exact stor_row 0 hw rfl | exact stor_row 1 hw rfl | exact stor_row 2 hw rfl | exact stor_row 3 hw rfl | exact stor_row 4 hw rfl | exact stor_arr (by assumption) | exact stor_mem hw (by repeat (first | assumption | apply List.mem_cons_of_mem | apply List.mem_append_right)))); rfl; rfl; rfl; intro bk))
    refine qbody_cell_tmp 0 rfl st_G rfl rfl rfl rfl ⟨_, ⟨_, by rw [f1, f3]; rfl, rfl⟩, fun w' h => ?_⟩
    rw [f2]
    exact (h.sub (List.nil_sublist _)).nilRow _
  have l1 : 1 ≤ p.length := by have := hok.1; omega
  have l7 : p.length ≤ 7 := by have := hok.1; omega
  have f1 : gpZ p = p.length := if_pos hok
  have f2 : gpL p = gRows p.length (seenP (gpJ p) p.length 0) := if_pos hok
  have f3 : decide (permP p) = true := decide_eq_true hok
  repeat' (first
      | apply pwp_seq
      | apply pwp_region
      | (apply px_run; (first
          | (apply opv_move; first | exact hid_int rfl | exact hid_bool rfl | exact hid_ptr rfl | rfl)
          | (apply opv_assign; first | exact hid_int rfl | exact hid_bool rfl | exact hid_ptr rfl | rfl)
          | (apply opv_lss <;> rfl)
          | (apply opv_leq <;> rfl)
          | (apply opv_gtr <;> rfl)
          | (apply opv_geq <;> rfl)
          | (apply opv_eql <;> rfl)
          | (apply opv_neq <;> rfl)
          | (apply opv_and <;> rfl)
          | (apply opv_or <;> rfl)
          | (apply opv_xor <;> rfl)
          | (apply opv_andNot <;> rfl)
          | (apply opv_pick_t <;> rfl)
          | (apply opv_pick_f <;> rfl)
          | (apply opv_not_dec <;> rfl)
          | (apply opv_not <;> rfl)
          | (apply opv_neg <;> rfl)
          | (apply opv_add_in; rfl; rfl; omega)
          | (apply opv_sub_in; rfl; rfl; omega)
          | (apply opv_mul_in; rfl; rfl; omega)
          | (apply opv_shl; rfl; rfl; omega)
          | (apply opv_shr; rfl; rfl; omega)
          | (apply opv_quo; rfl; rfl; omega)
          | (apply opv_rem; rfl; rfl; omega)
          | (apply opv_field fld_G0; rfl)
          | (apply opv_field fld_G1; rfl)
          | (apply opv_load_blk 0; (first | with_reducible exact sc_int | with_reducible exact sc_ints); rfl; rfl; rfl)
          | (apply opv_load_blk 1; (first | with_reducible exact sc_int | with_reducible exact sc_ints); rfl; rfl; rfl)
          | (apply opv_load_blk 2; (first | with_reducible exact sc_int | with_reducible exact sc_ints); rfl; rfl; rfl)
          | (apply opv_load_blk 3; (first | with_reducible exact sc_int | with_reducible exact sc_ints); rfl; rfl; rfl)
          | (apply opv_load_blk 4; (first | with_reducible exact sc_int | with_reducible exact sc_ints); rfl; rfl; rfl)
          | (apply opv_load_ints sc_int; rfl; (first | exact rd_old (by assumption) | exact rd_row 0 rfl | exact rd_row 1 rfl | exact rd_row 2 rfl | exact rd_row 3 rfl | exact rd_row 4 rfl); (first | omega | (simp only [List.length_set]; omega)))
          | (apply opv_index_nat (vs := ints _) el_int; rfl; rfl; (first | exact rd_old (by assumption) | exact rd_row 0 rfl | exact rd_row 1 rfl | exact rd_row 2 rfl | exact rd_row 3 rfl | exact rd_row 4 rfl); (first | (simp only [ints_length]; omega) | (simp [ints]; omega)))
          | (apply opv_index (vs := ints _) el_int; rfl; rfl; (first | exact rd_old (by assumption) | exact rd_row 0 rfl | exact rd_row 1 rfl | exact rd_row 2 rfl | exact rd_row 3 rfl | exact rd_row 4 rfl); omega; (first | (simp only [ints_length]; omega) | (simp [ints]; omega)))
          | (apply opv_len_ints el_int; rfl; (first | exact rd_old (by assumption) | exact rd_row 0 rfl | exact rd_row 1 rfl | exact rd_row 2 rfl | exact rd_row 3 rfl | exact rd_row 4 rfl))
          | (apply opv_load_str 0 st_G; rfl; rfl; rfl)
          | (apply opv_load_str 1 st_G; rfl; rfl; rfl)
          | (apply opv_load_str 2 st_G; rfl; rfl; rfl)
          | (apply opv_load_str 3 st_G; rfl; rfl; rfl)
          | (apply opv_load_str 4 st_G; rfl; rfl; rfl)
          | (apply opv_make_func; rfl)
          | (apply opv_call; rfl; rfl; exact Cl.stable _ _ _; exact fun w hw => i_IsPermutation_c _ p _ (by first | exact hw.arr (by assumption) | exact hw.rowArr (k := 0) rfl | exact hw.rowArr (k := 1) rfl | exact hw.rowArr (k := 2) rfl | exact hw.rowArr (k := 3) rfl | exact hw.rowArr (k := 4) rfl | exact hw.rowArr (k := 5) rfl | exact hw.rowArr (k := 6) rfl | exact hw.rowArr (k := 7) rfl | exact hw.rowArr (k := 8) rfl | exact hw.rowArr (k := 9) rfl | exact hw.rowArr (k := 10) rfl | exact hw.rowArr (k := 11) rfl | exact hw.rowArr (k := 12) rfl | exact hw.rowArr (k := 13) rfl | exact hw.rowArr (k := 14) rfl | exact hw.rowArr (k := 15) rfl | exact hw.rowArr (k := 16) rfl | exact hw.rowArr (k := 17) rfl | exact hw.rowArr (k := 18) rfl | exact hw.rowArr (k := 19) rfl))
          | (apply opv_add <;> rfl)
          | (apply opv_sub <;> rfl)
          | (apply opv_mul <;> rfl)
          | (apply opv_eql_bool ty_bool <;> rfl)
          | (apply opv_neq_bool ty_bool <;> rfl)); rfl; rfl)
      | apply px_nil
      | (apply px_skip; rfl; rfl)
      | apply qseq_normal
      | apply qseq_ret
      | apply qseq_exit
      | apply pwp_block
      | apply qblock_normal
      | apply qblock_ret
      | (apply qblock_exit_same; rfl)
      | (apply qblock_exit_other; rfl)
      | apply pwp_skip
      | apply pwp_exit
      | apply pwp_ret
      | apply qround_ret
      | apply qround_exit
      | apply qonce_ret
      | apply qonce_exit
      | (apply pwp_cond_t; rfl)
      | (apply pwp_cond_f; rfl)
      | (apply pwp_region_mix; kernel_rfl; decide +kernel; exact Cl.stable _ _ _)
      | (apply pwp_region_draw; kernel_rfl; kernel_rfl; exact Cl.stable _ _ _)
      | (apply px_guard_ndec; rfl; rfl; rfl; all_goals (intro hc; try (first | contradiction | (exfalso; omega) | (exfalso; simp at hc; done))))
      | (apply px_guard_dec; rfl; rfl; rfl; all_goals (intro hc; try (first | contradiction | (exfalso; omega) | (exfalso; simp at hc; done))))
      | (apply px_guard_not; rfl; rfl; rfl; all_goals (intro hc; try (first | contradiction | (exfalso; omega) | (exfalso; simp at hc; done))))
      | (apply px_guard; rfl; rfl; rfl; all_goals (intro hc; (first | contradiction | (fail_if_success (cases hc); try (first | (exfalso; omega) | (exfalso; simp at hc; done))))))
      | (apply pwp_cond_ndec; rfl; all_goals (intro hc; try (first | contradiction | (exfalso; omega) | (exfalso; simp at hc; done))))
      | (apply pwp_cond_dec; rfl; all_goals (intro hc; try (first | contradiction | (exfalso; omega) | (exfalso; simp at hc; done))))
      | (apply pwp_cond_not; rfl; all_goals (intro hc; try (first | contradiction | (exfalso; omega) | (exfalso; simp at hc; done))))
      | (apply pwp_cond; rfl; all_goals (intro hc; try (first | contradiction | (exfalso; omega) | (exfalso; simp at hc; done))))
      | (apply px_box; rfl; rfl; rfl; rfl; intro bk)
      | (apply px_alloc st_G; rfl; rfl; rfl; intro bk)
      | (apply px_store_str 0 st_G; rfl; rfl; rfl; rfl; rfl; (intro w hw; (first | refine all2 rfl ?_ ?_ | refine all3 rfl ?_ ?_ ?_ | refine all1 rfl ?_) <;> (first | rfl | assumption | exact stor_row 0 hw rfl | exact stor_row 1 hw rfl | exact stor_row 2 hw rfl | exact stor_row 3 hw rfl | exact stor_row 4 hw rfl | exact stor_arr (by assumption) | exact stor_mem hw (by repeat (first | assumption | apply List.mem_cons_of_mem | apply List.mem_append_right)))); rfl)
      | (apply px_store_str 1 st_G; rfl; rfl; rfl; rfl; rfl; (intro w hw; (first | refine all2 rfl ?_ ?_ | refine all3 rfl ?_ ?_ ?_ | refine all1 rfl ?_) <;> (first | rfl | assumption | exact stor_row 0 hw rfl | exact stor_row 1 hw rfl | exact stor_row 2 hw rfl | exact stor_row 3 hw rfl | exact stor_row 4 hw rfl | exact stor_arr (by assumption) | exact stor_mem hw (by repeat (first | assumption | apply List.mem_cons_of_mem | apply List.mem_append_right)))); rfl)
      | (apply px_store_str 2 st_G; rfl; rfl; rfl; rfl; rfl; (intro w hw; (first | refine all2 rfl ?_ ?_ | refine all3 rfl ?_ ?_ ?_ | refine all1 rfl ?_) <;> (first | rfl | assumption | exact stor_row 0 hw rfl | exact stor_row 1 hw rfl | exact stor_row 2 hw rfl | exact stor_row 3 hw rfl | exact stor_row 4 hw rfl | exact stor_arr (by assumption) | exact stor_mem hw (by repeat (first | assumption | apply List.mem_cons_of_mem | apply List.mem_append_right)))); rfl)
      | (apply px_store_str 3 st_G; rfl; rfl; rfl; rfl; rfl; (intro w hw; (first | refine all2 rfl ?_ ?_ | refine all3 rfl ?_ ?_ ?_ | refine all1 rfl ?_) <;> (first | rfl | assumption | exact stor_row 0 hw rfl | exact stor_row 1 hw rfl | exact stor_row 2 hw rfl | exact stor_row 3 hw rfl | exact stor_row 4 hw rfl | exact stor_arr (by assumption) | exact stor_mem hw (by repeat (first | assumption | apply List.mem_cons_of_mem | apply List.mem_append_right)))); rfl)
      | (apply px_store_str 4 st_G; rfl; rfl; rfl; rfl; rfl; (intro w hw; (first | refine all2 rfl ?_ ?_ | refine all3 rfl ?_ ?_ ?_ | refine all1 rfl ?_) <;> (first | rfl | assumption | exact stor_row 0 hw rfl | exact stor_row 1 hw rfl | exact stor_row 2 hw rfl | exact stor_row 3 hw rfl | exact stor_row 4 hw rfl | exact stor_arr (by assumption) | exact stor_mem hw (by repeat (first | assumption | apply List.mem_cons_of_mem | apply List.mem_append_right)))); rfl)
      | (apply px_box1; rfl; (intro w hw; (first | rfl | assumption | exact stor_row 0 hw rfl | exact stor_row 1 hw rfl | exact stor_row 2 hw rfl | exact stor_row 3 hw rfl | exact stor_row 4 hw rfl | exact stor_arr (by assumption) | exact stor_mem hw (by repeat (first | assumption | apply List.mem_cons_of_mem | apply List.mem_append_right)))); rfl; rfl; rfl; intro bk)
      | (apply px_gives; rfl; rfl; rfl; rfl; rfl; exact fun w hw => i_graphOf_c p.length _ _ (gpJ p) _ l7 (fun v u w' hv hu hb => i_GraphOfPermutation_1_c _ p _ v u w' (Arr.below (by first | exact hw.arr (by assumption) | exact hw.rowArr (k := 0) rfl | exact hw.rowArr (k := 1) rfl | exact hw.rowArr (k := 2) rfl | exact hw.rowArr (k := 3) rfl | exact hw.rowArr (k := 4) rfl | exact hw.rowArr (k := 5) rfl | exact hw.rowArr (k := 6) rfl | exact hw.rowArr (k := 7) rfl | exact hw.rowArr (k := 8) rfl | exact hw.rowArr (k := 9) rfl | exact hw.rowArr (k := 10) rfl | exact hw.rowArr (k := 11) rfl | exact hw.rowArr (k := 12) rfl | exact hw.rowArr (k := 13) rfl | exact hw.rowArr (k := 14) rfl | exact hw.rowArr (k := 15) rfl | exact hw.rowArr (k := 16) rfl | exact hw.rowArr (k := 17) rfl | exact hw.rowArr (k := 18) rfl | exact hw.rowArr (k := 19) rfl) hb) (Bk.below (hw.bk (k := 1) rfl) hb) hv hu); rintro _ _ ⟨sq, rfl, rfl⟩))
  refine qbody_cell_tmp 1 rfl st_G rfl rfl rfl rfl ⟨_, ⟨sq, by rw [f1, f3]; rfl, rfl⟩, fun w' h => ?_⟩
  rw [f2]
  exact Cl.sub (by assumption) (by repeat (first | exact List.Sublist.slnil | exact List.Sublist.refl _ | apply List.Sublist.cons_cons | apply List.Sublist.cons))
theorem en_s_GraphOfPermutation : Entry Try.prog 16 := ⟨_, Try.func16, by kernel_rfl, rfl⟩
set_option maxHeartbeats 2400000 in
theorem s_GraphOfPermutation_c (pv : Value) (p : List Int) (w : World) (hp : Arr w pv (ints p)) :
    Gives Try.prog 16 #[pv] w (fun v objs => ∃ sv', v = .tuple #[.agg #[.int .i64 (gpZ p), sv'], .bool (decide (permP p))] ∧ objs = [.row 3 sv' (ints (gpL p))]) := by
  refine gives_enter (args := [_]) en_s_GraphOfPermutation Try.func16 rfl Try.ntmps16 rfl ?_
  have hlen := hp.len
  by_cases hok : permP p
  case neg =>
    have f1 : gpZ p = 0 := if_neg hok
    have f2 : gpL p = [] := if_neg hok
    have f3 : decide (permP p) = false := decide_eq_false hok
    repeat' (first
        | apply pwp_seq
        | apply pwp_region
        | (apply px_run; (first
            | (apply opv_move; first | exact hid_int rfl | exact hid_bool rfl | exact hid_ptr rfl | rfl)
            | (apply opv_assign; first | exact hid_int rfl | exact hid_bool rfl | exact hid_ptr rfl | rfl)
            | (apply opv_lss <;> rfl)
            | (apply opv_leq <;> rfl)
            | (apply opv_gtr <;> rfl)
            | (apply opv_geq <;> rfl)
            | (apply opv_eql <;> rfl)
            | (apply opv_neq <;> rfl)
            | (apply opv_and <;> rfl)
            | (apply opv_or <;> rfl)
            | (apply opv_xor <;> rfl)
            | (apply opv_andNot <;> rfl)
            | (apply opv_pick_t <;> rfl)
            | (apply opv_pick_f <;> rfl)
            | (apply opv_not_dec <;> rfl)
            | (apply opv_not <;> rfl)
            | (apply opv_neg <;> rfl)
            | (apply opv_add_in; rfl; rfl; omega)
            | (apply opv_sub_in; rfl; rfl; omega)
            | (apply opv_mul_in; rfl; rfl; omega)
            | (apply opv_shl; rfl; rfl; omega)
            | (apply opv_shr; rfl; rfl; omega)
            | (apply opv_quo; rfl; rfl; omega)
            | (apply opv_rem; rfl; rfl; omega)
            | (apply opv_field fld_G0; rfl)
            | (apply opv_field fld_G1; rfl)
            | (apply opv_load_blk 0; (first | with_reducible exact sc_int | with_reducible exact sc_ints); rfl; rfl; rfl)
            | (apply opv_load_blk 1; (first | with_reducible exact sc_int | with_reducible exact sc_ints); rfl; rfl; rfl)
            | (apply opv_load_blk 2; (first | with_reducible exact sc_int | with_reducible exact sc_ints); rfl; rfl; rfl)
            | (apply opv_load_blk 3; (first | with_reducible exact sc_int | with_reducible exact sc_ints); rfl; rfl; rfl)
            | (apply opv_load_blk 4; (first | with_reducible exact sc_int | with_reducible exact sc_ints); rfl; rfl; rfl)
            | (apply opv_load_ints sc_int; rfl; (first | exact rd_old (by assumption) | exact rd_row 0 rfl | exact rd_row 1 rfl | exact rd_row 2 rfl | exact rd_row 3 rfl | exact rd_row 4 rfl); (first | omega | (simp only [List.length_set]; omega)))
            | (apply opv_index_nat (vs := ints _) el_int; rfl; rfl; (first | exact rd_old (by assumption) | exact rd_row 0 rfl | exact rd_row 1 rfl | exact rd_row 2 rfl | exact rd_row 3 rfl | exact rd_row 4 rfl); (first | (simp only [ints_length]; omega) | (simp [ints]; omega)))
            | (apply opv_index (vs := ints _) el_int; rfl; rfl; (first | exact rd_old (by assumption) | exact rd_row 0 rfl | exact rd_row 1 rfl | exact rd_row 2 rfl | exact rd_row 3 rfl | exact rd_row 4 rfl); omega; (first | (simp only [ints_length]; omega) | (simp [ints]; omega)))
            | (apply opv_len_ints el_int; rfl; (first | exact rd_old (by assumption) | exact rd_row 0 rfl | exact rd_row 1 rfl | exact rd_row 2 rfl | exact rd_row 3 rfl | exact rd_row 4 rfl))
            | (apply opv_load_str 0 st_G; rfl; rfl; rfl)
            | (apply opv_load_str 1 st_G; rfl; rfl; rfl)
            | (apply opv_load_str 2 st_G; rfl; rfl; rfl)
            | (apply opv_load_str 3 st_G; rfl; rfl; rfl)
            | (apply opv_load_str 4 st_G; rfl; rfl; rfl)
            | (apply opv_build2 bl_G; rfl; rfl; (first | exact rd_old (by assumption) | exact rd_row 0 rfl | exact rd_row 1 rfl | exact rd_row 2 rfl | exact rd_row 3 rfl | exact rd_row 4 rfl))
            | (apply opv_build1 bl_G; rfl)
            | (apply opv_build0 bl_G)
            | (apply opv_call; rfl; rfl; exact Cl.stable _ _ _; exact fun w hw => s_IsPermutation_c _ p _ (by first | exact hw.arr (by assumption) | exact hw.rowArr (k := 0) rfl | exact hw.rowArr (k := 1) rfl | exact hw.rowArr (k := 2) rfl | exact hw.rowArr (k := 3) rfl | exact hw.rowArr (k := 4) rfl | exact hw.rowArr (k := 5) rfl | exact hw.rowArr (k := 6) rfl | exact hw.rowArr (k := 7) rfl | exact hw.rowArr (k := 8) rfl | exact hw.rowArr (k := 9) rfl | exact hw.rowArr (k := 10) rfl | exact hw.rowArr (k := 11) rfl | exact hw.rowArr (k := 12) rfl | exact hw.rowArr (k := 13) rfl | exact hw.rowArr (k := 14) rfl | exact hw.rowArr (k := 15) rfl | exact hw.rowArr (k := 16) rfl | exact hw.rowArr (k := 17) rfl | exact hw.rowArr (k := 18) rfl | exact hw.rowArr (k := 19) rfl))
            | (apply opv_add <;> rfl)
            | (apply opv_sub <;> rfl)
            | (apply opv_mul <;> rfl)
            | (apply opv_eql_bool ty_bool <;> rfl)
            | (apply opv_neq_bool ty_bool <;> rfl)); rfl; rfl)
        | apply px_nil
        | (apply px_skip; rfl; rfl)
        | apply qseq_normal
        | apply qseq_ret
        | apply qseq_exit
        | apply pwp_block
        | apply qblock_normal
        | apply qblock_ret
        | (apply qblock_exit_same; rfl)
        | (apply qblock_exit_other; rfl)
        | apply pwp_skip
        | apply pwp_exit
        | apply pwp_ret
        | apply qround_ret
        | apply qround_exit
        | apply qonce_ret
        | apply qonce_exit
        | (apply pwp_cond_t; rfl)
        | (apply pwp_cond_f; rfl)
        | (apply pwp_region_mix; kernel_rfl; decide +kernel; exact Cl.stable _ _ _)
        | (apply pwp_region_draw; kernel_rfl; kernel_rfl; exact Cl.stable _ _ _)
        | (apply px_guard_ndec; rfl; rfl; rfl; all_goals (intro hc; try (first | contradiction | (exfalso; omega) | (exfalso; simp at hc; done))))
        | (apply px_guard_dec; rfl; rfl; rfl; all_goals (intro hc; try (first | contradiction | (exfalso; omega) | (exfalso; simp at hc; done))))
        | (apply px_guard_not; rfl; rfl; rfl; all_goals (intro hc; try (first | contradiction | (exfalso; omega) | (exfalso; simp at hc; done))))
        | (apply px_guard; rfl; rfl; rfl; all_goals (intro hc; (first | contradiction | (fail_if_success (cases hc); try (first | (exfalso; omega) | (exfalso; simp at hc; done))))))
        | (apply pwp_cond_ndec; rfl; all_goals (intro hc; try (first | contradiction | (exfalso; omega) | (exfalso; simp at hc; done))))
        | (apply pwp_cond_dec; rfl; all_goals (intro hc; try (first | contradiction | (exfalso; omega) | (exfalso; simp at hc; done))))
        | (apply pwp_cond_not; rfl; all_goals (intro hc; try (first | contradiction | (exfalso; omega) | (exfalso; simp at hc; done))))
        | (apply pwp_cond; rfl; all_goals (intro hc; try (first | contradiction | (exfalso; omega) | (exfalso; simp at hc; done))))
        | (apply px_box; rfl; rfl; rfl; rfl; intro bk)
        | (apply px_alloc st_G; rfl; rfl; rfl; intro bk)
        | (apply px_store_str 0 st_G; rfl; rfl; rfl; rfl; rfl; (intro w hw; (first | refine all2 rfl ?_ ?_ | refine all3 rfl ?_ ?_ ?_ | refine all1 rfl ?_) <;> (first | rfl | assumption | exact stor_row 0 hw rfl | exact stor_row 1 hw rfl | exact stor_row 2 hw rfl | exact stor_row 3 hw rfl | exact stor_row 4 hw rfl | exact stor_arr (by assumption) | exact stor_mem hw (by repeat (first | assumption | apply List.mem_cons_of_mem | apply List.mem_append_right)))); rfl)
        | (apply px_store_str 1 st_G; rfl; rfl; rfl; rfl; rfl; (intro w hw; (first | refine all2 rfl ?_ ?_ | refine all3 rfl ?_ ?_ ?_ | refine all1 rfl ?_) <;> (first | rfl | assumption | exact stor_row 0 hw rfl | exact stor_row 1 hw rfl | exact stor_row 2 hw rfl | exact stor_row 3 hw rfl | exact stor_row 4 hw rfl | exact stor_arr (by assumption) | exact stor_mem hw (by repeat (first | assumption | apply List.mem_cons_of_mem | apply List.mem_append_right)))); rfl)
        | (apply px_store_str 2 st_G; rfl; rfl; rfl; rfl; rfl; (intro w hw; (first | refine all2 rfl ?_ ?_ | refine all3 rfl ?_ ?_ ?_ | refine all1 rfl ?_) <;> (first | rfl | assumption | exact stor_row 0 hw rfl | exact stor_row 1 hw rfl | exact stor_row 2 hw rfl | exact stor_row 3 hw rfl | exact stor_row 4 hw rfl | exact stor_arr (by assumption) | exact stor_mem hw (by repeat (first | assumption | apply List.mem_cons_of_mem | apply List.mem_append_right)))); rfl)
        | (apply px_store_str 3 st_G; rfl; rfl; rfl; rfl; rfl; (intro w hw; (first | refine all2 rfl ?_ ?_ | refine all3 rfl ?_ ?_ ?_ | refine all1 rfl ?_) <;> (first | rfl | assumption | exact stor_row 0 hw rfl | exact stor_row 1 hw rfl | exact stor_row 2 hw rfl | exact stor_row 3 hw rfl | exact stor_row 4 hw rfl | exact stor_arr (by assumption) | exact stor_mem hw (by repeat (first | assumption | apply List.mem_cons_of_mem | apply List.mem_append_right)))); rfl)
        | (apply px_store_str 4 st_G; rfl; rfl; rfl; rfl; rfl; (intro w hw; (first | refine all2 rfl ?_ ?_ | refine all3 rfl ?_ ?_ ?_ | refine all1 rfl ?_) <;> (first | rfl | assumption | exact stor_row 0 hw rfl | exact stor_row 1 hw rfl | exact stor_row 2 hw rfl | exact stor_row 3 hw rfl | exact stor_row 4 hw rfl | exact stor_arr (by assumption) | exact stor_mem hw (by repeat (first | assumption | apply List.mem_cons_of_mem | apply List.mem_append_right)))); rfl))
    refine qbody_cell_tmp 0 rfl st_G rfl rfl rfl rfl ⟨_, ⟨_, by rw [f1, f3]; rfl, rfl⟩, fun w' h => ?_⟩
    rw [f2]
    exact (h.sub (List.nil_sublist _)).nilRow _
  have l1 : 1 ≤ p.length := by have := hok.1; omega
  have l7 : p.length ≤ 7 := by have := hok.1; omega
  have f1 : gpZ p = p.length := if_pos hok
  have f2 : gpL p = gRows p.length (seenP (gpJ p) p.length 0) := if_pos hok
  have f3 : decide (permP p) = true := decide_eq_true hok
  have h0 : gRows p.length (seenP (gpJ p) 0 0) = List.replicate p.length 0 := gRows_none fun i u _ _ => seenP_zero (gpJ p) i u
  repeat' (first
      | apply pwp_seq
      | apply pwp_region
      | (apply px_run; (first
          | (apply opv_move; first | exact hid_int rfl | exact hid_bool rfl | exact hid_ptr rfl | rfl)
          | (apply opv_assign; first | exact hid_int rfl | exact hid_bool rfl | exact hid_ptr rfl | rfl)
          | (apply opv_lss <;> rfl)
          | (apply opv_leq <;> rfl)
          | (apply opv_gtr <;> rfl)
          | (apply opv_geq <;> rfl)
          | (apply opv_eql <;> rfl)
          | (apply opv_neq <;> rfl)
          | (apply opv_and <;> rfl)
          | (apply opv_or <;> rfl)
          | (apply opv_xor <;> rfl)
          | (apply opv_andNot <;> rfl)
          | (apply opv_pick_t <;> rfl)
          | (apply opv_pick_f <;> rfl)
          | (apply opv_not_dec <;> rfl)
          | (apply opv_not <;> rfl)
          | (apply opv_neg <;> rfl)
          | (apply opv_add_in; rfl; rfl; omega)
          | (apply opv_sub_in; rfl; rfl; omega)
          | (apply opv_mul_in; rfl; rfl; omega)
          | (apply opv_shl; rfl; rfl; omega)
          | (apply opv_shr; rfl; rfl; omega)
          | (apply opv_quo; rfl; rfl; omega)
          | (apply opv_rem; rfl; rfl; omega)
          | (apply opv_field fld_G0; rfl)
          | (apply opv_field fld_G1; rfl)
          | (apply opv_load_blk 0; (first | with_reducible exact sc_int | with_reducible exact sc_ints); rfl; rfl; rfl)
          | (apply opv_load_blk 1; (first | with_reducible exact sc_int | with_reducible exact sc_ints); rfl; rfl; rfl)
          | (apply opv_load_blk 2; (first | with_reducible exact sc_int | with_reducible exact sc_ints); rfl; rfl; rfl)
          | (apply opv_load_blk 3; (first | with_reducible exact sc_int | with_reducible exact sc_ints); rfl; rfl; rfl)
          | (apply opv_load_blk 4; (first | with_reducible exact sc_int | with_reducible exact sc_ints); rfl; rfl; rfl)
          | (apply opv_load_ints sc_int; rfl; (first | exact rd_old (by assumption) | exact rd_row 0 rfl | exact rd_row 1 rfl | exact rd_row 2 rfl | exact rd_row 3 rfl | exact rd_row 4 rfl); (first | omega | (simp only [List.length_set]; omega)))
          | (apply opv_index_nat (vs := ints _) el_int; rfl; rfl; (first | exact rd_old (by assumption) | exact rd_row 0 rfl | exact rd_row 1 rfl | exact rd_row 2 rfl | exact rd_row 3 rfl | exact rd_row 4 rfl); (first | (simp only [ints_length]; omega) | (simp [ints]; omega)))
          | (apply opv_index (vs := ints _) el_int; rfl; rfl; (first | exact rd_old (by assumption) | exact rd_row 0 rfl | exact rd_row 1 rfl | exact rd_row 2 rfl | exact rd_row 3 rfl | exact rd_row 4 rfl); omega; (first | (simp only [ints_length]; omega) | (simp [ints]; omega)))
          | (apply opv_len_ints el_int; rfl; (first | exact rd_old (by assumption) | exact rd_row 0 rfl | exact rd_row 1 rfl | exact rd_row 2 rfl | exact rd_row 3 rfl | exact rd_row 4 rfl))
          | (apply opv_load_str 0 st_G; rfl; rfl; rfl)
          | (apply opv_load_str 1 st_G; rfl; rfl; rfl)
          | (apply opv_load_str 2 st_G; rfl; rfl; rfl)
          | (apply opv_load_str 3 st_G; rfl; rfl; rfl)
          | (apply opv_load_str 4 st_G; rfl; rfl; rfl)
          | (apply opv_build2 bl_G; rfl; rfl; (first | exact rd_old (by assumption) | exact rd_row 0 rfl | exact rd_row 1 rfl | exact rd_row 2 rfl | exact rd_row 3 rfl | exact rd_row 4 rfl))
          | (apply opv_build1 bl_G; rfl)
          | (apply opv_build0 bl_G)
          | (apply opv_call; rfl; rfl; exact Cl.stable _ _ _; exact fun w hw => s_IsPermutation_c _ p _ (by first | exact hw.arr (by assumption) | exact hw.rowArr (k := 0) rfl | exact hw.rowArr (k := 1) rfl | exact hw.rowArr (k := 2) rfl | exact hw.rowArr (k := 3) rfl | exact hw.rowArr (k := 4) rfl | exact hw.rowArr (k := 5) rfl | exact hw.rowArr (k := 6) rfl | exact hw.rowArr (k := 7) rfl | exact hw.rowArr (k := 8) rfl | exact hw.rowArr (k := 9) rfl | exact hw.rowArr (k := 10) rfl | exact hw.rowArr (k := 11) rfl | exact hw.rowArr (k := 12) rfl | exact hw.rowArr (k := 13) rfl | exact hw.rowArr (k := 14) rfl | exact hw.rowArr (k := 15) rfl | exact hw.rowArr (k := 16) rfl | exact hw.rowArr (k := 17) rfl | exact hw.rowArr (k := 18) rfl | exact hw.rowArr (k := 19) rfl))
          | (apply opv_add <;> rfl)
          | (apply opv_sub <;> rfl)
          | (apply opv_mul <;> rfl)
          | (apply opv_eql_bool ty_bool <;> rfl)
          | (apply opv_neq_bool ty_bool <;> rfl)); rfl; rfl)
      | apply px_nil
      | (apply px_skip; rfl; rfl)
      | apply qseq_normal
      | apply qseq_ret
      | apply qseq_exit
      | apply pwp_block
      | apply qblock_normal
      | apply qblock_ret
      | (apply qblock_exit_same; rfl)
      | (apply qblock_exit_other; rfl)
      | apply pwp_skip
      | apply pwp_exit
      | apply pwp_ret
      | apply qround_ret
      | apply qround_exit
      | apply qonce_ret
      | apply qonce_exit
      | (apply pwp_cond_t; rfl)
      | (apply pwp_cond_f; rfl)
      | (apply pwp_region_mix; kernel_rfl; decide +kernel; exact Cl.stable _ _ _)
      | (apply pwp_region_draw; kernel_rfl; kernel_rfl; exact Cl.stable _ _ _)
      | (apply px_guard_ndec; rfl; rfl; rfl; all_goals (intro hc; try (first | contradiction | (exfalso; omega) | (exfalso; simp at hc; done))))
      | (apply px_guard_dec; rfl; rfl; rfl; all_goals (intro hc; try (first | contradiction | (exfalso; omega) | (exfalso; simp at hc; done))))
      | (apply px_guard_not; rfl; rfl; rfl; all_goals (intro hc; try (first | contradiction | (exfalso; omega) | (exfalso; simp at hc; done))))
      | (apply px_guard; rfl; rfl; rfl; all_goals (intro hc; (first | contradiction | (fail_if_success (cases hc); try (first | (exfalso; omega) | (exfalso; simp at hc; done))))))
      | (apply pwp_cond_ndec; rfl; all_goals (intro hc; try (first | contradiction | (exfalso; omega) | (exfalso; simp at hc; done))))
      | (apply pwp_cond_dec; rfl; all_goals (intro hc; try (first | contradiction | (exfalso; omega) | (exfalso; simp at hc; done))))
      | (apply pwp_cond_not; rfl; all_goals (intro hc; try (first | contradiction | (exfalso; omega) | (exfalso; simp at hc; done))))
      | (apply pwp_cond; rfl; all_goals (intro hc; try (first | contradiction | (exfalso; omega) | (exfalso; simp at hc; done))))
      | (apply px_box; rfl; rfl; rfl; rfl; intro bk)
      | (apply px_make ez_int; rfl; rfl; rfl; rfl; rfl; omega; (simp only [maxLen]; omega); intro sv)
      | (apply px_alloc st_G; rfl; rfl; rfl; intro bk)
      | (apply px_store_str 0 st_G; rfl; rfl; rfl; rfl; rfl; (intro w hw; (first | refine all2 rfl ?_ ?_ | refine all3 rfl ?_ ?_ ?_ | refine all1 rfl ?_) <;> (first | rfl | assumption | exact stor_row 0 hw rfl | exact stor_row 1 hw rfl | exact stor_row 2 hw rfl | exact stor_row 3 hw rfl | exact stor_row 4 hw rfl | exact stor_arr (by assumption) | exact stor_mem hw (by repeat (first | assumption | apply List.mem_cons_of_mem | apply List.mem_append_right)))); rfl)
      | (apply px_store_str 1 st_G; rfl; rfl; rfl; rfl; rfl; (intro w hw; (first | refine all2 rfl ?_ ?_ | refine all3 rfl ?_ ?_ ?_ | refine all1 rfl ?_) <;> (first | rfl | assumption | exact stor_row 0 hw rfl | exact stor_row 1 hw rfl | exact stor_row 2 hw rfl | exact stor_row 3 hw rfl | exact stor_row 4 hw rfl | exact stor_arr (by assumption) | exact stor_mem hw (by repeat (first | assumption | apply List.mem_cons_of_mem | apply List.mem_append_right)))); rfl)
      | (apply px_store_str 2 st_G; rfl; rfl; rfl; rfl; rfl; (intro w hw; (first | refine all2 rfl ?_ ?_ | refine all3 rfl ?_ ?_ ?_ | refine all1 rfl ?_) <;> (first | rfl | assumption | exact stor_row 0 hw rfl | exact stor_row 1 hw rfl | exact stor_row 2 hw rfl | exact stor_row 3 hw rfl | exact stor_row 4 hw rfl | exact stor_arr (by assumption) | exact stor_mem hw (by repeat (first | assumption | apply List.mem_cons_of_mem | apply List.mem_append_right)))); rfl)
      | (apply px_store_str 3 st_G; rfl; rfl; rfl; rfl; rfl; (intro w hw; (first | refine all2 rfl ?_ ?_ | refine all3 rfl ?_ ?_ ?_ | refine all1 rfl ?_) <;> (first | rfl | assumption | exact stor_row 0 hw rfl | exact stor_row 1 hw rfl | exact stor_row 2 hw rfl | exact stor_row 3 hw rfl | exact stor_row 4 hw rfl | exact stor_arr (by assumption) | exact stor_mem hw (by repeat (first | assumption | apply List.mem_cons_of_mem | apply List.mem_append_right)))); rfl)
      | (apply px_store_str 4 st_G; rfl; rfl; rfl; rfl; rfl; (intro w hw; (first | refine all2 rfl ?_ ?_ | refine all3 rfl ?_ ?_ ?_ | refine all1 rfl ?_) <;> (first | rfl | assumption | exact stor_row 0 hw rfl | exact stor_row 1 hw rfl | exact stor_row 2 hw rfl | exact stor_row 3 hw rfl | exact stor_row 4 hw rfl | exact stor_arr (by assumption) | exact stor_mem hw (by repeat (first | assumption | apply List.mem_cons_of_mem | apply List.mem_append_right)))); rfl))
  rename_i bk1
  rename Nat => bk0
  refine pwp_loop (τ := Nat × Value) [(5,6), (17,43)] (fun x => [(5, .int .i64 (x.1 : Int))]) (fun x => Cl [] w [.row 3 x.2 (ints (gRows p.length (seenP (gpJ p) x.1 0))), .blk bk0 [.int .i64 p.length, x.2], .blk bk1 [.int .i64 0, .slice none 0 0]]) (fun x => x.1 ≤ p.length) (fun x => p.length - x.1) (0, sv)
    ⟨rfl, trivial⟩ (Nat.zero_le _) (fun _ h => by dsimp only; rw [h0, show ints (List.replicate p.length 0) = List.replicate p.length (Value.int .i64 0) by simp [ints]]; exact h.perm (.swap _ _ _)) (fun J1 x hi => ?_)
  obtain ⟨i, si⟩ := x
  dsimp only at hi ⊢
  by_cases hlt : i < p.length
  · repeat' (first
      | apply pwp_seq
      | apply pwp_region
      | (apply px_run; (first
          | (apply opv_move; first | exact hid_int rfl | exact hid_bool rfl | exact hid_ptr rfl | rfl)
          | (apply opv_assign; first | exact hid_int rfl | exact hid_bool rfl | exact hid_ptr rfl | rfl)
          | (apply opv_lss <;> rfl)
          | (apply opv_leq <;> rfl)
          | (apply opv_gtr <;> rfl)
          | (apply opv_geq <;> rfl)
          | (apply opv_eql <;> rfl)
          | (apply opv_neq <;> rfl)
          | (apply opv_and <;> rfl)
          | (apply opv_or <;> rfl)
          | (apply opv_xor <;> rfl)
          | (apply opv_andNot <;> rfl)
          | (apply opv_pick_t <;> rfl)
          | (apply opv_pick_f <;> rfl)
          | (apply opv_not_dec <;> rfl)
          | (apply opv_not <;> rfl)
          | (apply opv_neg <;> rfl)
          | (apply opv_add_in; rfl; rfl; omega)
          | (apply opv_sub_in; rfl; rfl; omega)
          | (apply opv_mul_in; rfl; rfl; omega)
          | (apply opv_shl; rfl; rfl; omega)
          | (apply opv_shr; rfl; rfl; omega)
          | (apply opv_quo; rfl; rfl; omega)
          | (apply opv_rem; rfl; rfl; omega)
          | (apply opv_field fld_G0; rfl)
          | (apply opv_field fld_G1; rfl)
          | (apply opv_load_blk 0; (first | with_reducible exact sc_int | with_reducible exact sc_ints); rfl; rfl; rfl)
          | (apply opv_load_blk 1; (first | with_reducible exact sc_int | with_reducible exact sc_ints); rfl; rfl; rfl)
          | (apply opv_load_blk 2; (first | with_reducible exact sc_int | with_reducible exact sc_ints); rfl; rfl; rfl)
          | (apply opv_load_blk 3; (first | with_reducible exact sc_int | with_reducible exact sc_ints); rfl; rfl; rfl)
          | (apply opv_load_blk 4; (first | with_reducible exact sc_int | with_reducible exact sc_ints); rfl; rfl; rfl)
          | (apply opv_load_ints sc_int; rfl; (first | exact rd_old (by assumption) | exact rd_row 0 rfl | exact rd_row 1 rfl | exact rd_row 2 rfl | exact rd_row 3 rfl | exact rd_row 4 rfl); (first | omega | (simp only [List.length_set]; omega)))
          | (apply opv_index_nat (vs := ints _) el_int; rfl; rfl; (first | exact rd_old (by assumption) | exact rd_row 0 rfl | exact rd_row 1 rfl | exact rd_row 2 rfl | exact rd_row 3 rfl | exact rd_row 4 rfl); (first | (simp only [ints_length]; omega) | (simp [ints]; omega)))
          | (apply opv_index (vs := ints _) el_int; rfl; rfl; (first | exact rd_old (by assumption) | exact rd_row 0 rfl | exact rd_row 1 rfl | exact rd_row 2 rfl | exact rd_row 3 rfl | exact rd_row 4 rfl); omega; (first | (simp only [ints_length]; omega) | (simp [ints]; omega)))
          | (apply opv_len_ints el_int; rfl; (first | exact rd_old (by assumption) | exact rd_row 0 rfl | exact rd_row 1 rfl | exact rd_row 2 rfl | exact rd_row 3 rfl | exact rd_row 4 rfl))
          | (apply opv_load_str 0 st_G; rfl; rfl; rfl)
          | (apply opv_load_str 1 st_G; rfl; rfl; rfl)
          | (apply opv_load_str 2 st_G; rfl; rfl; rfl)
          | (apply opv_load_str 3 st_G; rfl; rfl; rfl)
          | (apply opv_load_str 4 st_G; rfl; rfl; rfl)
          | (apply opv_add <;> rfl)
          | (apply opv_sub <;> rfl)
          | (apply opv_mul <;> rfl)
          | (apply opv_eql_bool ty_bool <;> rfl)
          | (apply opv_neq_bool ty_bool <;> rfl)); rfl; rfl)
      | apply px_nil
      | (apply px_skip; rfl; rfl)
      | apply qseq_normal
      | apply qseq_ret
      | apply qseq_exit
      | apply pwp_block
      | apply qblock_normal
      | apply qblock_ret
      | (apply qblock_exit_same; rfl)
      | (apply qblock_exit_other; rfl)
      | apply pwp_skip
      | apply pwp_exit
      | apply pwp_ret
      | apply qround_ret
      | apply qround_exit
      | apply qonce_ret
      | apply qonce_exit
      | (apply pwp_cond_t; rfl)
      | (apply pwp_cond_f; rfl)
      | (apply pwp_region_mix; kernel_rfl; decide +kernel; exact Cl.stable _ _ _)
      | (apply pwp_region_draw; kernel_rfl; kernel_rfl; exact Cl.stable _ _ _)
      | (apply px_guard_ndec; rfl; rfl; rfl; all_goals (intro hc; try (first | contradiction | (exfalso; omega) | (exfalso; simp at hc; done))))
      | (apply px_guard_dec; rfl; rfl; rfl; all_goals (intro hc; try (first | contradiction | (exfalso; omega) | (exfalso; simp at hc; done))))
      | (apply px_guard_not; rfl; rfl; rfl; all_goals (intro hc; try (first | contradiction | (exfalso; omega) | (exfalso; simp at hc; done))))
      | (apply px_guard; rfl; rfl; rfl; all_goals (intro hc; (first | contradiction | (fail_if_success (cases hc); try (first | (exfalso; omega) | (exfalso; simp at hc; done))))))
      | (apply pwp_cond_ndec; rfl; all_goals (intro hc; try (first | contradiction | (exfalso; omega) | (exfalso; simp at hc; done))))
      | (apply pwp_cond_dec; rfl; all_goals (intro hc; try (first | contradiction | (exfalso; omega) | (exfalso; simp at hc; done))))
      | (apply pwp_cond_not; rfl; all_goals (intro hc; try (first | contradiction | (exfalso; omega) | (exfalso; simp at hc; done))))
      | (apply pwp_cond; rfl; all_goals (intro hc; try (first | contradiction | (exfalso; omega) | (exfalso; simp at hc; done))))
      | (apply px_box; rfl; rfl; rfl; rfl; intro bk))
    refine pwp_loop (τ := Nat × Value) [(6,6), (23,43)] (fun x => [(6, .int .i64 (x.1 : Int))]) (fun x => Cl [] w [.row 3 x.2 (ints (gRows p.length (seenP (gpJ p) i x.1))), .blk bk0 [.int .i64 p.length, x.2], .blk bk1 [.int .i64 0, .slice none 0 0]]) (fun x => x.1 ≤ i) (fun x => i - x.1) (0, si)
      ⟨rfl, trivial⟩ (Nat.zero_le _) (fun _ h => h) (fun J2 x hj => ?_)
    obtain ⟨j, sj⟩ := x
    dsimp only at hj ⊢
    by_cases hlt2 : j < i
    · obtain ⟨n1, n2⟩ := seenP_new (gpJ p) hlt2
      repeat' (first
          | apply pwp_seq
          | apply pwp_region
          | (apply px_run; (first
              | (apply opv_move; first | exact hid_int rfl | exact hid_bool rfl | exact hid_ptr rfl | rfl)
              | (apply opv_assign; first | exact hid_int rfl | exact hid_bool rfl | exact hid_ptr rfl | rfl)
              | (apply opv_lss <;> rfl)
              | (apply opv_leq <;> rfl)
              | (apply opv_gtr <;> rfl)
              | (apply opv_geq <;> rfl)
              | (apply opv_eql <;> rfl)
              | (apply opv_neq <;> rfl)
              | (apply opv_and <;> rfl)
              | (apply opv_or <;> rfl)
              | (apply opv_xor <;> rfl)
              | (apply opv_andNot <;> rfl)
              | (apply opv_pick_t <;> rfl)
              | (apply opv_pick_f <;> rfl)
              | (apply opv_not_dec <;> rfl)
              | (apply opv_not <;> rfl)
              | (apply opv_neg <;> rfl)
              | (apply opv_add_in; rfl; rfl; omega)
              | (apply opv_sub_in; rfl; rfl; omega)
              | (apply opv_mul_in; rfl; rfl; omega)
              | (apply opv_shl; rfl; rfl; omega)
              | (apply opv_shr; rfl; rfl; omega)
              | (apply opv_quo; rfl; rfl; omega)
              | (apply opv_rem; rfl; rfl; omega)
              | (apply opv_field fld_G0; rfl)
              | (apply opv_field fld_G1; rfl)
              | (apply opv_load_blk 0; (first | with_reducible exact sc_int | with_reducible exact sc_ints); rfl; rfl; rfl)
              | (apply opv_load_blk 1; (first | with_reducible exact sc_int | with_reducible exact sc_ints); rfl; rfl; rfl)
              | (apply opv_load_blk 2; (first | with_reducible exact sc_int | with_reducible exact sc_ints); rfl; rfl; rfl)
              | (apply opv_load_blk 3; (first | with_reducible exact sc_int | with_reducible exact sc_ints); rfl; rfl; rfl)
              | (apply opv_load_blk 4; (first | with_reducible exact sc_int | with_reducible exact sc_ints); rfl; rfl; rfl)
              | (apply opv_load_blk 5; (first | with_reducible exact sc_int | with_reducible exact sc_ints); rfl; rfl; rfl)
              | (apply opv_load_blk 6; (first | with_reducible exact sc_int | with_reducible exact sc_ints); rfl; rfl; rfl)
              | (apply opv_load_ints sc_int; rfl; (first | exact rd_old (by assumption) | exact rd_row 0 rfl | exact rd_row 1 rfl | exact rd_row 2 rfl | exact rd_row 3 rfl | exact rd_row 4 rfl | exact rd_row 5 rfl | exact rd_row 6 rfl); (first | omega | (simp only [List.length_set]; omega)))
              | (apply opv_index_nat (vs := ints _) el_int; rfl; rfl; (first | exact rd_old (by assumption) | exact rd_row 0 rfl | exact rd_row 1 rfl | exact rd_row 2 rfl | exact rd_row 3 rfl | exact rd_row 4 rfl | exact rd_row 5 rfl | exact rd_row 6 rfl); (first | (simp only [ints_length]; omega) | (simp [ints]; omega)))
              | (apply opv_index (vs := ints _) el_int; rfl; rfl; (first | exact rd_old (by assumption) | exact rd_row 0 rfl | exact rd_row 1 rfl | exact rd_row 2 rfl | exact rd_row 3 rfl | exact rd_row 4 rfl | exact rd_row 5 rfl | exact rd_row 6 rfl); omega; (first | (simp only [ints_length]; omega) | (simp [ints]; omega)))
              | (apply opv_len_ints el_int; rfl; (first | exact rd_old (by assumption) | exact rd_row 0 rfl | exact rd_row 1 rfl | exact rd_row 2 rfl | exact rd_row 3 rfl | exact rd_row 4 rfl | exact rd_row 5 rfl | exact rd_row 6 rfl))
              | (apply opv_load_str 0 st_G; rfl; rfl; rfl)
              | (apply opv_load_str 1 st_G; rfl; rfl; rfl)
              | (apply opv_load_str 2 st_G; rfl; rfl; rfl)
              | (apply opv_load_str 3 st_G; rfl; rfl; rfl)
              | (apply opv_load_str 4 st_G; rfl; rfl; rfl)
              | (apply opv_load_str 5 st_G; rfl; rfl; rfl)
              | (apply opv_load_str 6 st_G; rfl; rfl; rfl)
              | (apply opv_extract; rfl; rfl)
              | (apply opv_add <;> rfl)
              | (apply opv_sub <;> rfl)
              | (apply opv_mul <;> rfl)
              | (apply opv_eql_bool ty_bool <;> rfl)
              | (apply opv_neq_bool ty_bool <;> rfl)); rfl; rfl)
          | apply px_nil
          | (apply px_skip; rfl; rfl)
          | apply qseq_normal
          | apply qseq_ret
          | apply qseq_exit
          | apply pwp_block
          | apply qblock_normal
          | apply qblock_ret
          | (apply qblock_exit_same; rfl)
          | (apply qblock_exit_other; rfl)
          | apply pwp_skip
          | apply pwp_exit
          | apply pwp_ret
          | apply qround_ret
          | apply qround_exit
          | apply qonce_ret
          | apply qonce_exit
          | (apply pwp_cond_t; rfl)
          | (apply pwp_cond_f; rfl)
          | (apply pwp_region_mix; kernel_rfl; decide +kernel; exact Cl.stable _ _ _)
          | (apply pwp_region_draw; kernel_rfl; kernel_rfl; exact Cl.stable _ _ _)
          | (apply px_guard_ndec; rfl; rfl; rfl; all_goals (intro hc; try (first | contradiction | (exfalso; omega) | (exfalso; simp at hc; done))))
          | (apply px_guard_dec; rfl; rfl; rfl; all_goals (intro hc; try (first | contradiction | (exfalso; omega) | (exfalso; simp at hc; done))))
          | (apply px_guard_not; rfl; rfl; rfl; all_goals (intro hc; try (first | contradiction | (exfalso; omega) | (exfalso; simp at hc; done))))
          | (apply px_guard; rfl; rfl; rfl; all_goals (intro hc; (first | contradiction | (fail_if_success (cases hc); try (first | (exfalso; omega) | (exfalso; simp at hc; done))))))
          | (apply pwp_cond_ndec; rfl; all_goals (intro hc; try (first | contradiction | (exfalso; omega) | (exfalso; simp at hc; done))))
          | (apply pwp_cond_dec; rfl; all_goals (intro hc; try (first | contradiction | (exfalso; omega) | (exfalso; simp at hc; done))))
          | (apply pwp_cond_not; rfl; all_goals (intro hc; try (first | contradiction | (exfalso; omega) | (exfalso; simp at hc; done))))
          | (apply pwp_cond; rfl; all_goals (intro hc; try (first | contradiction | (exfalso; omega) | (exfalso; simp at hc; done))))
          | (apply px_box; rfl; rfl; rfl; rfl; intro bk)
          | (apply px_store_str 0 st_G; rfl; rfl; rfl; rfl; rfl; (intro w hw; (first | refine all2 rfl ?_ ?_ | refine all3 rfl ?_ ?_ ?_ | refine all1 rfl ?_) <;> (first | rfl | assumption | exact stor_row 0 hw rfl | exact stor_row 1 hw rfl | exact stor_row 2 hw rfl | exact stor_row 3 hw rfl | exact stor_row 4 hw rfl | exact stor_arr (by assumption) | exact stor_mem hw (by repeat (first | assumption | apply List.mem_cons_of_mem | apply List.mem_append_right)))); rfl)
          | (apply px_store_str 1 st_G; rfl; rfl; rfl; rfl; rfl; (intro w hw; (first | refine all2 rfl ?_ ?_ | refine all3 rfl ?_ ?_ ?_ | refine all1 rfl ?_) <;> (first | rfl | assumption | exact stor_row 0 hw rfl | exact stor_row 1 hw rfl | exact stor_row 2 hw rfl | exact stor_row 3 hw rfl | exact stor_row 4 hw rfl | exact stor_arr (by assumption) | exact stor_mem hw (by repeat (first | assumption | apply List.mem_cons_of_mem | apply List.mem_append_right)))); rfl)
          | (apply px_store_str 2 st_G; rfl; rfl; rfl; rfl; rfl; (intro w hw; (first | refine all2 rfl ?_ ?_ | refine all3 rfl ?_ ?_ ?_ | refine all1 rfl ?_) <;> (first | rfl | assumption | exact stor_row 0 hw rfl | exact stor_row 1 hw rfl | exact stor_row 2 hw rfl | exact stor_row 3 hw rfl | exact stor_row 4 hw rfl | exact stor_arr (by assumption) | exact stor_mem hw (by repeat (first | assumption | apply List.mem_cons_of_mem | apply List.mem_append_right)))); rfl)
          | (apply px_store_str 3 st_G; rfl; rfl; rfl; rfl; rfl; (intro w hw; (first | refine all2 rfl ?_ ?_ | refine all3 rfl ?_ ?_ ?_ | refine all1 rfl ?_) <;> (first | rfl | assumption | exact stor_row 0 hw rfl | exact stor_row 1 hw rfl | exact stor_row 2 hw rfl | exact stor_row 3 hw rfl | exact stor_row 4 hw rfl | exact stor_arr (by assumption) | exact stor_mem hw (by repeat (first | assumption | apply List.mem_cons_of_mem | apply List.mem_append_right)))); rfl)
          | (apply px_store_str 4 st_G; rfl; rfl; rfl; rfl; rfl; (intro w hw; (first | refine all2 rfl ?_ ?_ | refine all3 rfl ?_ ?_ ?_ | refine all1 rfl ?_) <;> (first | rfl | assumption | exact stor_row 0 hw rfl | exact stor_row 1 hw rfl | exact stor_row 2 hw rfl | exact stor_row 3 hw rfl | exact stor_row 4 hw rfl | exact stor_arr (by assumption) | exact stor_mem hw (by repeat (first | assumption | apply List.mem_cons_of_mem | apply List.mem_append_right)))); rfl)
          | (apply px_gives; rfl; rfl; rfl; rfl; rfl; exact fun w hw => s_AddEdge_c p.length _ (seenP (gpJ p) i j) i j _ (by first | exact hw.arr (by assumption) | exact hw.rowArr (k := 0) rfl | exact hw.rowArr (k := 1) rfl | exact hw.rowArr (k := 2) rfl | exact hw.rowArr (k := 3) rfl | exact hw.rowArr (k := 4) rfl | exact hw.rowArr (k := 5) rfl | exact hw.rowArr (k := 6) rfl | exact hw.rowArr (k := 7) rfl | exact hw.rowArr (k := 8) rfl | exact hw.rowArr (k := 9) rfl | exact hw.rowArr (k := 10) rfl | exact hw.rowArr (k := 11) rfl | exact hw.rowArr (k := 12) rfl | exact hw.rowArr (k := 13) rfl | exact hw.rowArr (k := 14) rfl | exact hw.rowArr (k := 15) rfl | exact hw.rowArr (k := 16) rfl | exact hw.rowArr (k := 17) rfl | exact hw.rowArr (k := 18) rfl | exact hw.rowArr (k := 19) rfl) l1 l7 (seenP_sym _ _ _) (seenP_irr _ _ _) hlt (by omega) (by omega) n2; rintro _ _ ⟨sc, rfl, rfl⟩))
      · refine qround_normal ?_ ⟨(j + 1, sc), ⟨rfl, trivial⟩, by dsimp only; omega, by dsimp only; omega, fun w' h => ?_⟩
        · repeat (first | exact same_refl | refine same_upd rfl ?_ | refine same_junk rfl ?_)
        · dsimp only
          rw [← gRows_congr (P := pairAdd (seenP (gpJ p) i j) i j) (fun x u _ _ => by rw [q_sym]; exact seenP_yes (gpJ p) hlt2 (decide_eq_true hc) x u)]
          exact Cl.sub (by assumption) (by repeat (first | exact List.Sublist.slnil | exact List.Sublist.refl _ | apply List.Sublist.cons_cons | apply List.Sublist.cons))
      · refine qround_normal ?_ ⟨(j + 1, sj), ⟨rfl, trivial⟩, by dsimp only; omega, by dsimp only; omega, fun w' h => ?_⟩
        · repeat (first | exact same_refl | refine same_upd rfl ?_ | refine same_junk rfl ?_)
        · dsimp only
          rw [← gRows_congr (P := seenP (gpJ p) i j) (fun x u _ _ => seenP_no (gpJ p) hlt2 (decide_eq_false hc) x u)]
          exact Cl.sub (by assumption) (by repeat (first | exact List.Sublist.slnil | exact List.Sublist.refl _ | apply List.Sublist.cons_cons | apply List.Sublist.cons))
    · obtain rfl : j = i := by omega
      repeat' (first
          | apply pwp_seq
          | apply pwp_region
          | (apply px_run; (first
              | (apply opv_move; first | exact hid_int rfl | exact hid_bool rfl | exact hid_ptr rfl | rfl)
              | (apply opv_assign; first | exact hid_int rfl | exact hid_bool rfl | exact hid_ptr rfl | rfl)
              | (apply opv_lss <;> rfl)
              | (apply opv_leq <;> rfl)
              | (apply opv_gtr <;> rfl)
              | (apply opv_geq <;> rfl)
              | (apply opv_eql <;> rfl)
              | (apply opv_neq <;> rfl)
              | (apply opv_and <;> rfl)
              | (apply opv_or <;> rfl)
              | (apply opv_xor <;> rfl)
              | (apply opv_andNot <;> rfl)
              | (apply opv_pick_t <;> rfl)
              | (apply opv_pick_f <;> rfl)
              | (apply opv_not_dec <;> rfl)
              | (apply opv_not <;> rfl)
              | (apply opv_neg <;> rfl)
              | (apply opv_add_in; rfl; rfl; omega)
              | (apply opv_sub_in; rfl; rfl; omega)
              | (apply opv_mul_in; rfl; rfl; omega)
              | (apply opv_shl; rfl; rfl; omega)
              | (apply opv_shr; rfl; rfl; omega)
              | (apply opv_quo; rfl; rfl; omega)
              | (apply opv_rem; rfl; rfl; omega)
              | (apply opv_field fld_G0; rfl)
              | (apply opv_field fld_G1; rfl)
              | (apply opv_load_blk 0; (first | with_reducible exact sc_int | with_reducible exact sc_ints); rfl; rfl; rfl)
              | (apply opv_load_blk 1; (first | with_reducible exact sc_int | with_reducible exact sc_ints); rfl; rfl; rfl)
              | (apply opv_load_blk 2; (first | with_reducible exact sc_int | with_reducible exact sc_ints); rfl; rfl; rfl)
              | (apply opv_load_blk 3; (first | with_reducible exact sc_int | with_reducible exact sc_ints); rfl; rfl; rfl)
              | (apply opv_load_blk 4; (first | with_reducible exact sc_int | with_reducible exact sc_ints); rfl; rfl; rfl)
              | (apply opv_load_ints sc_int; rfl; (first | exact rd_old (by assumption) | exact rd_row 0 rfl | exact rd_row 1 rfl | exact rd_row 2 rfl | exact rd_row 3 rfl | exact rd_row 4 rfl); (first | omega | (simp only [List.length_set]; omega)))
              | (apply opv_index_nat (vs := ints _) el_int; rfl; rfl; (first | exact rd_old (by assumption) | exact rd_row 0 rfl | exact rd_row 1 rfl | exact rd_row 2 rfl | exact rd_row 3 rfl | exact rd_row 4 rfl); (first | (simp only [ints_length]; omega) | (simp [ints]; omega)))
              | (apply opv_index (vs := ints _) el_int; rfl; rfl; (first | exact rd_old (by assumption) | exact rd_row 0 rfl | exact rd_row 1 rfl | exact rd_row 2 rfl | exact rd_row 3 rfl | exact rd_row 4 rfl); omega; (first | (simp only [ints_length]; omega) | (simp [ints]; omega)))
              | (apply opv_len_ints el_int; rfl; (first | exact rd_old (by assumption) | exact rd_row 0 rfl | exact rd_row 1 rfl | exact rd_row 2 rfl | exact rd_row 3 rfl | exact rd_row 4 rfl))
              | (apply opv_load_str 0 st_G; rfl; rfl; rfl)
              | (apply opv_load_str 1 st_G; rfl; rfl; rfl)
              | (apply opv_load_str 2 st_G; rfl; rfl; rfl)
              | (apply opv_load_str 3 st_G; rfl; rfl; rfl)
              | (apply opv_load_str 4 st_G; rfl; rfl; rfl)
              | (apply opv_add <;> rfl)
              | (apply opv_sub <;> rfl)
              | (apply opv_mul <;> rfl)
              | (apply opv_eql_bool ty_bool <;> rfl)
              | (apply opv_neq_bool ty_bool <;> rfl)); rfl; rfl)
          | apply px_nil
          | (apply px_skip; rfl; rfl)
          | apply qseq_normal
          | apply qseq_ret
          | apply qseq_exit
          | apply pwp_block
          | apply qblock_normal
          | apply qblock_ret
          | (apply qblock_exit_same; rfl)
          | (apply qblock_exit_other; rfl)
          | apply pwp_skip
          | apply pwp_exit
          | apply pwp_ret
          | apply qround_ret
          | apply qround_exit
          | apply qonce_ret
          | apply qonce_exit
          | (apply pwp_cond_t; rfl)
          | (apply pwp_cond_f; rfl)
          | (apply pwp_region_mix; kernel_rfl; decide +kernel; exact Cl.stable _ _ _)
          | (apply pwp_region_draw; kernel_rfl; kernel_rfl; exact Cl.stable _ _ _)
          | (apply px_guard_ndec; rfl; rfl; rfl; all_goals (intro hc; try (first | contradiction | (exfalso; omega) | (exfalso; simp at hc; done))))
          | (apply px_guard_dec; rfl; rfl; rfl; all_goals (intro hc; try (first | contradiction | (exfalso; omega) | (exfalso; simp at hc; done))))
          | (apply px_guard_not; rfl; rfl; rfl; all_goals (intro hc; try (first | contradiction | (exfalso; omega) | (exfalso; simp at hc; done))))
          | (apply px_guard; rfl; rfl; rfl; all_goals (intro hc; (first | contradiction | (fail_if_success (cases hc); try (first | (exfalso; omega) | (exfalso; simp at hc; done))))))
          | (apply pwp_cond_ndec; rfl; all_goals (intro hc; try (first | contradiction | (exfalso; omega) | (exfalso; simp at hc; done))))
          | (apply pwp_cond_dec; rfl; all_goals (intro hc; try (first | contradiction | (exfalso; omega) | (exfalso; simp at hc; done))))
          | (apply pwp_cond_not; rfl; all_goals (intro hc; try (first | contradiction | (exfalso; omega) | (exfalso; simp at hc; done))))
          | (apply pwp_cond; rfl; all_goals (intro hc; try (first | contradiction | (exfalso; omega) | (exfalso; simp at hc; done))))
          | (apply px_box; rfl; rfl; rfl; rfl; intro bk))
      refine qround_normal ?_ ⟨(j + 1, sj), ⟨rfl, trivial⟩, by dsimp only; omega, by dsimp only; omega, fun w' h => ?_⟩
      · repeat (first | exact same_refl | refine same_upd rfl ?_ | refine same_junk rfl ?_)
      · dsimp only
        rw [← gRows_congr (P := seenP (gpJ p) j j) (fun x u _ _ => seenP_next (gpJ p) j x u)]
        exact h
  · obtain rfl : i = p.length := by omega
    repeat' (first
        | apply pwp_seq
        | apply pwp_region
        | (apply px_run; (first
            | (apply opv_move; first | exact hid_int rfl | exact hid_bool rfl | exact hid_ptr rfl | rfl)
            | (apply opv_assign; first | exact hid_int rfl | exact hid_bool rfl | exact hid_ptr rfl | rfl)
            | (apply opv_lss <;> rfl)
            | (apply opv_leq <;> rfl)
            | (apply opv_gtr <;> rfl)
            | (apply opv_geq <;> rfl)
            | (apply opv_eql <;> rfl)
            | (apply opv_neq <;> rfl)
            | (apply opv_and <;> rfl)
            | (apply opv_or <;> rfl)
            | (apply opv_xor <;> rfl)
            | (apply opv_andNot <;> rfl)
            | (apply opv_pick_t <;> rfl)
            | (apply opv_pick_f <;> rfl)
            | (apply opv_not_dec <;> rfl)
            | (apply opv_not <;> rfl)
            | (apply opv_neg <;> rfl)
            | (apply opv_add_in; rfl; rfl; omega)
            | (apply opv_sub_in; rfl; rfl; omega)
            | (apply opv_mul_in; rfl; rfl; omega)
            | (apply opv_shl; rfl; rfl; omega)
            | (apply opv_shr; rfl; rfl; omega)
            | (apply opv_quo; rfl; rfl; omega)
            | (apply opv_rem; rfl; rfl; omega)
            | (apply opv_field fld_G0; rfl)
            | (apply opv_field fld_G1; rfl)
            | (apply opv_load_blk 0; (first | with_reducible exact sc_int | with_reducible exact sc_ints); rfl; rfl; rfl)
            | (apply opv_load_blk 1; (first | with_reducible exact sc_int | with_reducible exact sc_ints); rfl; rfl; rfl)
            | (apply opv_load_blk 2; (first | with_reducible exact sc_int | with_reducible exact sc_ints); rfl; rfl; rfl)
            | (apply opv_load_blk 3; (first | with_reducible exact sc_int | with_reducible exact sc_ints); rfl; rfl; rfl)
            | (apply opv_load_blk 4; (first | with_reducible exact sc_int | with_reducible exact sc_ints); rfl; rfl; rfl)
            | (apply opv_load_ints sc_int; rfl; (first | exact rd_old (by assumption) | exact rd_row 0 rfl | exact rd_row 1 rfl | exact rd_row 2 rfl | exact rd_row 3 rfl | exact rd_row 4 rfl); (first | omega | (simp only [List.length_set]; omega)))
            | (apply opv_index_nat (vs := ints _) el_int; rfl; rfl; (first | exact rd_old (by assumption) | exact rd_row 0 rfl | exact rd_row 1 rfl | exact rd_row 2 rfl | exact rd_row 3 rfl | exact rd_row 4 rfl); (first | (simp only [ints_length]; omega) | (simp [ints]; omega)))
            | (apply opv_index (vs := ints _) el_int; rfl; rfl; (first | exact rd_old (by assumption) | exact rd_row 0 rfl | exact rd_row 1 rfl | exact rd_row 2 rfl | exact rd_row 3 rfl | exact rd_row 4 rfl); omega; (first | (simp only [ints_length]; omega) | (simp [ints]; omega)))
            | (apply opv_len_ints el_int; rfl; (first | exact rd_old (by assumption) | exact rd_row 0 rfl | exact rd_row 1 rfl | exact rd_row 2 rfl | exact rd_row 3 rfl | exact rd_row 4 rfl))
            | (apply opv_load_str 0 st_G; rfl; rfl; rfl)
            | (apply opv_load_str 1 st_G; rfl; rfl; rfl)
            | (apply opv_load_str 2 st_G; rfl; rfl; rfl)
            | (apply opv_load_str 3 st_G; rfl; rfl; rfl)
            | (apply opv_load_str 4 st_G; rfl; rfl; rfl)
            | (apply opv_add <;> rfl)
            | (apply opv_sub <;> rfl)
            | (apply opv_mul <;> rfl)
            | (apply opv_eql_bool ty_bool <;> rfl)
            | (apply opv_neq_bool ty_bool <;> rfl)); rfl; rfl)
        | apply px_nil
        | (apply px_skip; rfl; rfl)
        | apply qseq_normal
        | apply qseq_ret
        | apply qseq_exit
        | apply pwp_block
        | apply qblock_normal
        | apply qblock_ret
        | (apply qblock_exit_same; rfl)
        | (apply qblock_exit_other; rfl)
        | apply pwp_skip
        | apply pwp_exit
        | apply pwp_ret
        | apply qround_ret
        | apply qround_exit
        | apply qonce_ret
        | apply qonce_exit
        | (apply pwp_cond_t; rfl)
        | (apply pwp_cond_f; rfl)
        | (apply pwp_region_mix; kernel_rfl; decide +kernel; exact Cl.stable _ _ _)
        | (apply pwp_region_draw; kernel_rfl; kernel_rfl; exact Cl.stable _ _ _)
        | (apply px_guard_ndec; rfl; rfl; rfl; all_goals (intro hc; try (first | contradiction | (exfalso; omega) | (exfalso; simp at hc; done))))
        | (apply px_guard_dec; rfl; rfl; rfl; all_goals (intro hc; try (first | contradiction | (exfalso; omega) | (exfalso; simp at hc; done))))
        | (apply px_guard_not; rfl; rfl; rfl; all_goals (intro hc; try (first | contradiction | (exfalso; omega) | (exfalso; simp at hc; done))))
        | (apply px_guard; rfl; rfl; rfl; all_goals (intro hc; (first | contradiction | (fail_if_success (cases hc); try (first | (exfalso; omega) | (exfalso; simp at hc; done))))))
        | (apply pwp_cond_ndec; rfl; all_goals (intro hc; try (first | contradiction | (exfalso; omega) | (exfalso; simp at hc; done))))
        | (apply pwp_cond_dec; rfl; all_goals (intro hc; try (first | contradiction | (exfalso; omega) | (exfalso; simp at hc; done))))
        | (apply pwp_cond_not; rfl; all_goals (intro hc; try (first | contradiction | (exfalso; omega) | (exfalso; simp at hc; done))))
        | (apply pwp_cond; rfl; all_goals (intro hc; try (first | contradiction | (exfalso; omega) | (exfalso; simp at hc; done))))
        | (apply px_box; rfl; rfl; rfl; rfl; intro bk)
        | (apply px_store_str 0 st_G; rfl; rfl; rfl; rfl; rfl; (intro w hw; (first | refine all2 rfl ?_ ?_ | refine all3 rfl ?_ ?_ ?_ | refine all1 rfl ?_) <;> (first | rfl | assumption | exact stor_row 0 hw rfl | exact stor_row 1 hw rfl | exact stor_row 2 hw rfl | exact stor_row 3 hw rfl | exact stor_row 4 hw rfl | exact stor_arr (by assumption) | exact stor_mem hw (by repeat (first | assumption | apply List.mem_cons_of_mem | apply List.mem_append_right)))); rfl)
        | (apply px_store_str 1 st_G; rfl; rfl; rfl; rfl; rfl; (intro w hw; (first | refine all2 rfl ?_ ?_ | refine all3 rfl ?_ ?_ ?_ | refine all1 rfl ?_) <;> (first | rfl | assumption | exact stor_row 0 hw rfl | exact stor_row 1 hw rfl | exact stor_row 2 hw rfl | exact stor_row 3 hw rfl | exact stor_row 4 hw rfl | exact stor_arr (by assumption) | exact stor_mem hw (by repeat (first | assumption | apply List.mem_cons_of_mem | apply List.mem_append_right)))); rfl)
        | (apply px_store_str 2 st_G; rfl; rfl; rfl; rfl; rfl; (intro w hw; (first | refine all2 rfl ?_ ?_ | refine all3 rfl ?_ ?_ ?_ | refine all1 rfl ?_) <;> (first | rfl | assumption | exact stor_row 0 hw rfl | exact stor_row 1 hw rfl | exact stor_row 2 hw rfl | exact stor_row 3 hw rfl | exact stor_row 4 hw rfl | exact stor_arr (by assumption) | exact stor_mem hw (by repeat (first | assumption | apply List.mem_cons_of_mem | apply List.mem_append_right)))); rfl)
        | (apply px_store_str 3 st_G; rfl; rfl; rfl; rfl; rfl; (intro w hw; (first | refine all2 rfl ?_ ?_ | refine all3 rfl ?_ ?_ ?_ | refine all1 rfl ?_) <;> (first | rfl | assumption | exact stor_row 0 hw rfl | exact stor_row 1 hw rfl | exact stor_row 2 hw rfl | exact stor_row 3 hw rfl | exact stor_row 4 hw rfl | exact stor_arr (by assumption) | exact stor_mem hw (by repeat (first | assumption | apply List.mem_cons_of_mem | apply List.mem_append_right)))); rfl)
        | (apply px_store_str 4 st_G; rfl; rfl; rfl; rfl; rfl; (intro w hw; (first | refine all2 rfl ?_ ?_ | refine all3 rfl ?_ ?_ ?_ | refine all1 rfl ?_) <;> (first | rfl | assumption | exact stor_row 0 hw rfl | exact stor_row 1 hw rfl | exact stor_row 2 hw rfl | exact stor_row 3 hw rfl | exact stor_row 4 hw rfl | exact stor_arr (by assumption) | exact stor_mem hw (by repeat (first | assumption | apply List.mem_cons_of_mem | apply List.mem_append_right)))); rfl))
    refine qbody_cell_tmp 2 rfl st_G rfl rfl rfl rfl ⟨_, ⟨si, by rw [f1, f3]; rfl, rfl⟩, fun w' h => ?_⟩
    rw [f2]
    exact Cl.sub (by assumption) (by repeat (first | exact List.Sublist.slnil | exact List.Sublist.refl _ | apply List.Sublist.cons_cons | apply List.Sublist.cons))
end Go.Proofs.Ytaadjebiglihlaa
