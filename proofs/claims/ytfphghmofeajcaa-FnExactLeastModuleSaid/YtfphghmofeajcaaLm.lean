/- Least modules. -/
import Derived.Test.YtfphghmofeajcaaMl
import Derived.Test.YtfphghmofeajcaaPwPmo
namespace Go.Proofs.Ytfphghmofeajcaa
open Go Go.RowKit Go.Pw

theorem en_i_LeastModule : Entry Try.prog 38 := ⟨_, Try.func38, by kernel_rfl, rfl⟩
set_option maxHeartbeats 800000 in
theorem i_LeastModule_c (size : Int) (gv : Value) (rows : List Int) (s : Int) (w : World) (hr : Arr w gv (ints rows)) :
    Pure Try.prog 38 #[.agg #[.int .i64 size, gv], .int .i64 s] w (.int .i64 (leastM size rows s)) := by
  refine pure_enter (args := [_, _]) en_i_LeastModule Try.func38 rfl Try.ntmps38 rfl ?_
  have hml := modsL_length size rows
  by_cases hg : (IsG size rows ∧ 0 ≤ s ∧ s < ishl 1 size) ∧ ¬ s = 0
  · obtain ⟨⟨hg1, hg2, hg3⟩, h0⟩ := id hg
    have hg12 := hg.1
    have hsz : 0 ≤ size ∧ size ≤ 7 := ⟨by have := hg1.1; omega, hg1.1.2⟩
    have hme := meet_least hg1 ⟨hg2, hg3⟩ h0
    repeat' (first
        | apply pwp_seq
        | apply pwp_region
        | (apply px_run; (first
            | (apply opv_move; first | exact hid_int rfl | exact hid_bool rfl | exact hid_ptr rfl | rfl)
            | (apply opv_assign; first | exact hid_int rfl | exact hid_bool rfl | exact hid_ptr rfl | rfl)
            | (apply opv_lss <;> rfl)
            | (apply opv_leq <;> rfl)
            | (apply opv_gtr <;> rfl)
            | (apply opv_geq <;> rfl)
            | (apply opv_eql <;> rfl)
            | (apply opv_neq <;> rfl)
            | (apply opv_and <;> rfl)
            | (apply opv_or <;> rfl)
            | (apply opv_xor <;> rfl)
            | (apply opv_andNot <;> rfl)
            | (apply opv_pick_t <;> rfl)
            | (apply opv_pick_f <;> rfl)
            | (apply opv_not_dec <;> rfl)
            | (apply opv_not <;> rfl)
            | (apply opv_neg <;> rfl)
            | (apply opv_add_in; rfl; rfl; omega)
            | (apply opv_sub_in; rfl; rfl; omega)
            | (apply opv_mul_in; rfl; rfl; omega)
            | (apply opv_shl; rfl; rfl; omega)
            | (apply opv_shr; rfl; rfl; omega)
            | (apply opv_quo; rfl; rfl; omega)
            | (apply opv_rem; rfl; rfl; omega)
            | (apply opv_field fld_G0; rfl)
            | (apply opv_field fld_G1; rfl)
            | (apply opv_load_blk 0; (first | exact sc_int | exact sc_ints); rfl; rfl; rfl)
            | (apply opv_load_blk 1; (first | exact sc_int | exact sc_ints); rfl; rfl; rfl)
            | (apply opv_load_blk 2; (first | exact sc_int | exact sc_ints); rfl; rfl; rfl)
            | (apply opv_load_blk 3; (first | exact sc_int | exact sc_ints); rfl; rfl; rfl)
            | (apply opv_load_blk 4; (first | exact sc_int | exact sc_ints); rfl; rfl; rfl)
            | (apply opv_load_ints sc_int; rfl; (first | exact rd_old (by assumption) | exact rd_row 0 rfl | exact rd_row 1 rfl | exact rd_row 2 rfl | exact rd_row 3 rfl | exact rd_row 4 rfl); omega)
            | (apply opv_index_nat (vs := ints _) el_int; rfl; rfl; (first | exact rd_old (by assumption) | exact rd_row 0 rfl | exact rd_row 1 rfl | exact rd_row 2 rfl | exact rd_row 3 rfl | exact rd_row 4 rfl); (first | (simp only [ints_length]; omega) | (simp [ints]; omega)))
            | (apply opv_index (vs := ints _) el_int; rfl; rfl; (first | exact rd_old (by assumption) | exact rd_row 0 rfl | exact rd_row 1 rfl | exact rd_row 2 rfl | exact rd_row 3 rfl | exact rd_row 4 rfl); omega; (first | (simp only [ints_length]; omega) | (simp [ints]; omega)))
            | (apply opv_len_ints el_int; rfl; (first | exact rd_old (by assumption) | exact rd_row 0 rfl | exact rd_row 1 rfl | exact rd_row 2 rfl | exact rd_row 3 rfl | exact rd_row 4 rfl))
            | (apply opv_load_str 0 st_G; rfl; rfl; rfl)
            | (apply opv_load_str 1 st_G; rfl; rfl; rfl)
            | (apply opv_load_str 2 st_G; rfl; rfl; rfl)
            | (apply opv_load_str 3 st_G; rfl; rfl; rfl)
            | (apply opv_load_str 4 st_G; rfl; rfl; rfl)
            | (apply opv_call; rfl; rfl; exact Cl.stable _ _ _; exact fun w hw => i_IsSet_c _ _ rows _ _ (by first | exact hw.arr (by assumption) | exact hw.rowArr (k := 0) rfl | exact hw.rowArr (k := 1) rfl | exact hw.rowArr (k := 2) rfl | exact hw.rowArr (k := 3) rfl | exact hw.rowArr (k := 4) rfl | exact hw.rowArr (k := 5) rfl | exact hw.rowArr (k := 6) rfl | exact hw.rowArr (k := 7) rfl | exact hw.rowArr (k := 8) rfl | exact hw.rowArr (k := 9) rfl | exact hw.rowArr (k := 10) rfl | exact hw.rowArr (k := 11) rfl | exact hw.rowArr (k := 12) rfl | exact hw.rowArr (k := 13) rfl))
            | (apply opv_call; rfl; rfl; exact Cl.stable _ _ _; exact fun w hw => i_all_c _ _ _ hsz)
            | (apply opv_add <;> rfl)
            | (apply opv_sub <;> rfl)
            | (apply opv_mul <;> rfl)
            | (apply opv_eql_bool ty_bool <;> rfl)
            | (apply opv_neq_bool ty_bool <;> rfl)); rfl; rfl)
        | apply px_nil
        | (apply px_skip; rfl; rfl)
        | apply qseq_normal
        | apply qseq_ret
        | apply qseq_exit
        | apply pwp_block
        | apply qblock_normal
        | apply qblock_ret
        | (apply qblock_exit_same; rfl)
        | (apply qblock_exit_other; rfl)
        | apply pwp_skip
        | apply pwp_exit
        | apply pwp_ret
        | apply qround_ret
        | apply qround_exit
        | apply qonce_ret
        | apply qonce_exit
        | (apply pwp_cond_t; rfl)
        | (apply pwp_cond_f; rfl)
        | (apply pwp_region_mix; kernel_rfl; decide +kernel; exact Cl.stable _ _ _)
        | (apply pwp_region_draw; kernel_rfl; kernel_rfl; exact Cl.stable _ _ _)
        | (apply px_guard_ndec; rfl; rfl; rfl; all_goals (intro hc; try (first | contradiction | (exfalso; omega) | (exfalso; simp at hc; done))))
        | (apply px_guard_dec; rfl; rfl; rfl; all_goals (intro hc; try (first | contradiction | (exfalso; omega) | (exfalso; simp at hc; done))))
        | (apply px_guard_not; rfl; rfl; rfl; all_goals (intro hc; try (first | contradiction | (exfalso; omega) | (exfalso; simp at hc; done))))
        | (apply px_guard; rfl; rfl; rfl; all_goals (intro hc; (first | contradiction | (fail_if_success (cases hc); try (first | (exfalso; omega) | (exfalso; simp at hc; done))))))
        | (apply pwp_cond_ndec; rfl; all_goals (intro hc; try (first | contradiction | (exfalso; omega) | (exfalso; simp at hc; done))))
        | (apply pwp_cond_dec; rfl; all_goals (intro hc; try (first | contradiction | (exfalso; omega) | (exfalso; simp at hc; done))))
        | (apply pwp_cond_not; rfl; all_goals (intro hc; try (first | contradiction | (exfalso; omega) | (exfalso; simp at hc; done))))
        | (apply pwp_cond; rfl; all_goals (intro hc; try (first | contradiction | (exfalso; omega) | (exfalso; simp at hc; done))))
        | (apply px_box; rfl; rfl; rfl; rfl; intro bk)
        | (apply px_gives; rfl; rfl; rfl; rfl; rfl; exact fun w hw => i_ModulesOf_c _ _ rows _ (by first | exact hw.arr (by assumption) | exact hw.rowArr (k := 0) rfl | exact hw.rowArr (k := 1) rfl | exact hw.rowArr (k := 2) rfl | exact hw.rowArr (k := 3) rfl | exact hw.rowArr (k := 4) rfl | exact hw.rowArr (k := 5) rfl | exact hw.rowArr (k := 6) rfl | exact hw.rowArr (k := 7) rfl | exact hw.rowArr (k := 8) rfl | exact hw.rowArr (k := 9) rfl | exact hw.rowArr (k := 10) rfl | exact hw.rowArr (k := 11) rfl | exact hw.rowArr (k := 12) rfl | exact hw.rowArr (k := 13) rfl); rintro sm _ rfl))
    all_goals try exact (h0 hc).elim
    refine pwp_loop (τ := Nat) [(5,5), (7,7), (21,32)] (fun k => [(21, .int .i64 (k : Int)), (5, .int .i64 (meetF s ((modsL size rows).take k) (ishl 1 size - 1)))])
      (fun _ => Cl [] w [.row 3 sm (ints (modsL size rows)), .blk bk [.int .i64 size, gv]]) (fun k => k ≤ (modsL size rows).length) (fun k => (modsL size rows).length - k) 0
      ⟨rfl, rfl, trivial⟩ (Nat.zero_le _) (fun _ h => h) (fun J k hk => ?_)
    by_cases hlt : k < (modsL size rows).length
    · have hstep := meetF_snoc s ((modsL size rows).take k) ((modsL size rows).getD k 0) (ishl 1 size - 1)
      rw [← take_snoc hlt] at hstep
      repeat' (first
          | apply pwp_seq
          | apply pwp_region
          | (apply px_run; (first
              | (apply opv_move; first | exact hid_int rfl | exact hid_bool rfl | exact hid_ptr rfl | rfl)
              | (apply opv_assign; first | exact hid_int rfl | exact hid_bool rfl | exact hid_ptr rfl | rfl)
              | (apply opv_lss <;> rfl)
              | (apply opv_leq <;> rfl)
              | (apply opv_gtr <;> rfl)
              | (apply opv_geq <;> rfl)
              | (apply opv_eql <;> rfl)
              | (apply opv_neq <;> rfl)
              | (apply opv_and <;> rfl)
              | (apply opv_or <;> rfl)
              | (apply opv_xor <;> rfl)
              | (apply opv_andNot <;> rfl)
              | (apply opv_pick_t <;> rfl)
              | (apply opv_pick_f <;> rfl)
              | (apply opv_not_dec <;> rfl)
              | (apply opv_not <;> rfl)
              | (apply opv_neg <;> rfl)
              | (apply opv_add_in; rfl; rfl; omega)
              | (apply opv_sub_in; rfl; rfl; omega)
              | (apply opv_mul_in; rfl; rfl; omega)
              | (apply opv_shl; rfl; rfl; omega)
              | (apply opv_shr; rfl; rfl; omega)
              | (apply opv_quo; rfl; rfl; omega)
              | (apply opv_rem; rfl; rfl; omega)
              | (apply opv_field fld_G0; rfl)
              | (apply opv_field fld_G1; rfl)
              | (apply opv_load_blk 0; (first | exact sc_int | exact sc_ints); rfl; rfl; rfl)
              | (apply opv_load_blk 1; (first | exact sc_int | exact sc_ints); rfl; rfl; rfl)
              | (apply opv_load_blk 2; (first | exact sc_int | exact sc_ints); rfl; rfl; rfl)
              | (apply opv_load_blk 3; (first | exact sc_int | exact sc_ints); rfl; rfl; rfl)
              | (apply opv_load_blk 4; (first | exact sc_int | exact sc_ints); rfl; rfl; rfl)
              | (apply opv_load_ints sc_int; rfl; (first | exact rd_old (by assumption) | exact rd_row 0 rfl | exact rd_row 1 rfl | exact rd_row 2 rfl | exact rd_row 3 rfl | exact rd_row 4 rfl); omega)
              | (apply opv_index_nat (vs := ints _) el_int; rfl; rfl; (first | exact rd_old (by assumption) | exact rd_row 0 rfl | exact rd_row 1 rfl | exact rd_row 2 rfl | exact rd_row 3 rfl | exact rd_row 4 rfl); (first | (simp only [ints_length]; omega) | (simp [ints]; omega)))
              | (apply opv_index (vs := ints _) el_int; rfl; rfl; (first | exact rd_old (by assumption) | exact rd_row 0 rfl | exact rd_row 1 rfl | exact rd_row 2 rfl | exact rd_row 3 rfl | exact rd_row 4 rfl); omega; (first | (simp only [ints_length]; omega) | (simp [ints]; omega)))
              | (apply opv_len_ints el_int; rfl; (first | exact rd_old (by assumption) | exact rd_row 0 rfl | exact rd_row 1 rfl | exact rd_row 2 rfl | exact rd_row 3 rfl | exact rd_row 4 rfl))
              | (apply opv_load_str 0 st_G; rfl; rfl; rfl)
              | (apply opv_load_str 1 st_G; rfl; rfl; rfl)
              | (apply opv_load_str 2 st_G; rfl; rfl; rfl)
              | (apply opv_load_str 3 st_G; rfl; rfl; rfl)
              | (apply opv_load_str 4 st_G; rfl; rfl; rfl)
              | (apply opv_add <;> rfl)
              | (apply opv_sub <;> rfl)
              | (apply opv_mul <;> rfl)
              | (apply opv_eql_bool ty_bool <;> rfl)
              | (apply opv_neq_bool ty_bool <;> rfl)); rfl; rfl)
          | apply px_nil
          | (apply px_skip; rfl; rfl)
          | apply qseq_normal
          | apply qseq_ret
          | apply qseq_exit
          | apply pwp_block
          | apply qblock_normal
          | apply qblock_ret
          | (apply qblock_exit_same; rfl)
          | (apply qblock_exit_other; rfl)
          | apply pwp_skip
          | apply pwp_exit
          | apply pwp_ret
          | apply qround_ret
          | apply qround_exit
          | apply qonce_ret
          | apply qonce_exit
          | (apply pwp_cond_t; rfl)
          | (apply pwp_cond_f; rfl)
          | (apply pwp_region_mix; kernel_rfl; decide +kernel; exact Cl.stable _ _ _)
          | (apply pwp_region_draw; kernel_rfl; kernel_rfl; exact Cl.stable _ _ _)
          | (apply px_guard_ndec; rfl; rfl; rfl; all_goals (intro hc; try (first | contradiction | (exfalso; omega) | (exfalso; simp at hc; done))))
          | (apply px_guard_dec; rfl; rfl; rfl; all_goals (intro hc; try (first | contradiction | (exfalso; omega) | (exfalso; simp at hc; done))))
          | (apply px_guard_not; rfl; rfl; rfl; all_goals (intro hc; try (first | contradiction | (exfalso; omega) | (exfalso; simp at hc; done))))
          | (apply px_guard; rfl; rfl; rfl; all_goals (intro hc; (first | contradiction | (fail_if_success (cases hc); try (first | (exfalso; omega) | (exfalso; simp at hc; done))))))
          | (apply pwp_cond_ndec; rfl; all_goals (intro hc; try (first | contradiction | (exfalso; omega) | (exfalso; simp at hc; done))))
          | (apply pwp_cond_dec; rfl; all_goals (intro hc; try (first | contradiction | (exfalso; omega) | (exfalso; simp at hc; done))))
          | (apply pwp_cond_not; rfl; all_goals (intro hc; try (first | contradiction | (exfalso; omega) | (exfalso; simp at hc; done))))
          | (apply pwp_cond; rfl; all_goals (intro hc; try (first | contradiction | (exfalso; omega) | (exfalso; simp at hc; done))))
          | (apply px_box; rfl; rfl; rfl; rfl; intro bk))
      all_goals (refine qround_normal ?_ ⟨k + 1, ⟨rfl, ?_, trivial⟩, by omega, by omega, fun _ h => h⟩)
      all_goals (repeat (first | exact same_refl | refine same_upd rfl ?_ | refine same_junk rfl ?_))
      all_goals
        show Value.int .i64 _ = .int .i64 (meetF s ((modsL size rows).take (k + 1)) (ishl 1 size - 1))
        rw [hstep]
        first | rw [if_pos hc] | rw [if_neg hc]
    · repeat' (first
        | apply pwp_seq
        | apply pwp_region
        | (apply px_run; (first
            | (apply opv_move; first | exact hid_int rfl | exact hid_bool rfl | exact hid_ptr rfl | rfl)
            | (apply opv_assign; first | exact hid_int rfl | exact hid_bool rfl | exact hid_ptr rfl | rfl)
            | (apply opv_lss <;> rfl)
            | (apply opv_leq <;> rfl)
            | (apply opv_gtr <;> rfl)
            | (apply opv_geq <;> rfl)
            | (apply opv_eql <;> rfl)
            | (apply opv_neq <;> rfl)
            | (apply opv_and <;> rfl)
            | (apply opv_or <;> rfl)
            | (apply opv_xor <;> rfl)
            | (apply opv_andNot <;> rfl)
            | (apply opv_pick_t <;> rfl)
            | (apply opv_pick_f <;> rfl)
            | (apply opv_not_dec <;> rfl)
            | (apply opv_not <;> rfl)
            | (apply opv_neg <;> rfl)
            | (apply opv_add_in; rfl; rfl; omega)
            | (apply opv_sub_in; rfl; rfl; omega)
            | (apply opv_mul_in; rfl; rfl; omega)
            | (apply opv_shl; rfl; rfl; omega)
            | (apply opv_shr; rfl; rfl; omega)
            | (apply opv_quo; rfl; rfl; omega)
            | (apply opv_rem; rfl; rfl; omega)
            | (apply opv_field fld_G0; rfl)
            | (apply opv_field fld_G1; rfl)
            | (apply opv_load_blk 0; (first | exact sc_int | exact sc_ints); rfl; rfl; rfl)
            | (apply opv_load_blk 1; (first | exact sc_int | exact sc_ints); rfl; rfl; rfl)
            | (apply opv_load_blk 2; (first | exact sc_int | exact sc_ints); rfl; rfl; rfl)
            | (apply opv_load_blk 3; (first | exact sc_int | exact sc_ints); rfl; rfl; rfl)
            | (apply opv_load_blk 4; (first | exact sc_int | exact sc_ints); rfl; rfl; rfl)
            | (apply opv_load_ints sc_int; rfl; (first | exact rd_old (by assumption) | exact rd_row 0 rfl | exact rd_row 1 rfl | exact rd_row 2 rfl | exact rd_row 3 rfl | exact rd_row 4 rfl); omega)
            | (apply opv_index_nat (vs := ints _) el_int; rfl; rfl; (first | exact rd_old (by assumption) | exact rd_row 0 rfl | exact rd_row 1 rfl | exact rd_row 2 rfl | exact rd_row 3 rfl | exact rd_row 4 rfl); (first | (simp only [ints_length]; omega) | (simp [ints]; omega)))
            | (apply opv_index (vs := ints _) el_int; rfl; rfl; (first | exact rd_old (by assumption) | exact rd_row 0 rfl | exact rd_row 1 rfl | exact rd_row 2 rfl | exact rd_row 3 rfl | exact rd_row 4 rfl); omega; (first | (simp only [ints_length]; omega) | (simp [ints]; omega)))
            | (apply opv_len_ints el_int; rfl; (first | exact rd_old (by assumption) | exact rd_row 0 rfl | exact rd_row 1 rfl | exact rd_row 2 rfl | exact rd_row 3 rfl | exact rd_row 4 rfl))
            | (apply opv_load_str 0 st_G; rfl; rfl; rfl)
            | (apply opv_load_str 1 st_G; rfl; rfl; rfl)
            | (apply opv_load_str 2 st_G; rfl; rfl; rfl)
            | (apply opv_load_str 3 st_G; rfl; rfl; rfl)
            | (apply opv_load_str 4 st_G; rfl; rfl; rfl)
            | (apply opv_add <;> rfl)
            | (apply opv_sub <;> rfl)
            | (apply opv_mul <;> rfl)
            | (apply opv_eql_bool ty_bool <;> rfl)
            | (apply opv_neq_bool ty_bool <;> rfl)); rfl; rfl)
        | apply px_nil
        | (apply px_skip; rfl; rfl)
        | apply qseq_normal
        | apply qseq_ret
        | apply qseq_exit
        | apply pwp_block
        | apply qblock_normal
        | apply qblock_ret
        | (apply qblock_exit_same; rfl)
        | (apply qblock_exit_other; rfl)
        | apply pwp_skip
        | apply pwp_exit
        | apply pwp_ret
        | apply qround_ret
        | apply qround_exit
        | apply qonce_ret
        | apply qonce_exit
        | (apply pwp_cond_t; rfl)
        | (apply pwp_cond_f; rfl)
        | (apply pwp_region_mix; kernel_rfl; decide +kernel; exact Cl.stable _ _ _)
        | (apply pwp_region_draw; kernel_rfl; kernel_rfl; exact Cl.stable _ _ _)
        | (apply px_guard_ndec; rfl; rfl; rfl; all_goals (intro hc; try (first | contradiction | (exfalso; omega) | (exfalso; simp at hc; done))))
        | (apply px_guard_dec; rfl; rfl; rfl; all_goals (intro hc; try (first | contradiction | (exfalso; omega) | (exfalso; simp at hc; done))))
        | (apply px_guard_not; rfl; rfl; rfl; all_goals (intro hc; try (first | contradiction | (exfalso; omega) | (exfalso; simp at hc; done))))
        | (apply px_guard; rfl; rfl; rfl; all_goals (intro hc; (first | contradiction | (fail_if_success (cases hc); try (first | (exfalso; omega) | (exfalso; simp at hc; done))))))
        | (apply pwp_cond_ndec; rfl; all_goals (intro hc; try (first | contradiction | (exfalso; omega) | (exfalso; simp at hc; done))))
        | (apply pwp_cond_dec; rfl; all_goals (intro hc; try (first | contradiction | (exfalso; omega) | (exfalso; simp at hc; done))))
        | (apply pwp_cond_not; rfl; all_goals (intro hc; try (first | contradiction | (exfalso; omega) | (exfalso; simp at hc; done))))
        | (apply pwp_cond; rfl; all_goals (intro hc; try (first | contradiction | (exfalso; omega) | (exfalso; simp at hc; done))))
        | (apply px_box; rfl; rfl; rfl; rfl; intro bk))
      obtain rfl : k = (modsL size rows).length := by omega
      refine qbody_ret1 (v := .int _ _) rfl rfl ⟨by rw [List.take_length, hme], fun _ h => h.below⟩
  · rw [leastM, if_neg hg]
    repeat' (first
        | apply pwp_seq
        | apply pwp_region
        | (apply px_run; (first
            | (apply opv_move; first | exact hid_int rfl | exact hid_bool rfl | exact hid_ptr rfl | rfl)
            | (apply opv_assign; first | exact hid_int rfl | exact hid_bool rfl | exact hid_ptr rfl | rfl)
            | (apply opv_lss <;> rfl)
            | (apply opv_leq <;> rfl)
            | (apply opv_gtr <;> rfl)
            | (apply opv_geq <;> rfl)
            | (apply opv_eql <;> rfl)
            | (apply opv_neq <;> rfl)
            | (apply opv_and <;> rfl)
            | (apply opv_or <;> rfl)
            | (apply opv_xor <;> rfl)
            | (apply opv_andNot <;> rfl)
            | (apply opv_pick_t <;> rfl)
            | (apply opv_pick_f <;> rfl)
            | (apply opv_not_dec <;> rfl)
            | (apply opv_not <;> rfl)
            | (apply opv_neg <;> rfl)
            | (apply opv_add_in; rfl; rfl; omega)
            | (apply opv_sub_in; rfl; rfl; omega)
            | (apply opv_mul_in; rfl; rfl; omega)
            | (apply opv_shl; rfl; rfl; omega)
            | (apply opv_shr; rfl; rfl; omega)
            | (apply opv_quo; rfl; rfl; omega)
            | (apply opv_rem; rfl; rfl; omega)
            | (apply opv_field fld_G0; rfl)
            | (apply opv_field fld_G1; rfl)
            | (apply opv_load_blk 0; (first | exact sc_int | exact sc_ints); rfl; rfl; rfl)
            | (apply opv_load_blk 1; (first | exact sc_int | exact sc_ints); rfl; rfl; rfl)
            | (apply opv_load_blk 2; (first | exact sc_int | exact sc_ints); rfl; rfl; rfl)
            | (apply opv_load_blk 3; (first | exact sc_int | exact sc_ints); rfl; rfl; rfl)
            | (apply opv_load_blk 4; (first | exact sc_int | exact sc_ints); rfl; rfl; rfl)
            | (apply opv_load_ints sc_int; rfl; (first | exact rd_old (by assumption) | exact rd_row 0 rfl | exact rd_row 1 rfl | exact rd_row 2 rfl | exact rd_row 3 rfl | exact rd_row 4 rfl); omega)
            | (apply opv_index_nat (vs := ints _) el_int; rfl; rfl; (first | exact rd_old (by assumption) | exact rd_row 0 rfl | exact rd_row 1 rfl | exact rd_row 2 rfl | exact rd_row 3 rfl | exact rd_row 4 rfl); (first | (simp only [ints_length]; omega) | (simp [ints]; omega)))
            | (apply opv_index (vs := ints _) el_int; rfl; rfl; (first | exact rd_old (by assumption) | exact rd_row 0 rfl | exact rd_row 1 rfl | exact rd_row 2 rfl | exact rd_row 3 rfl | exact rd_row 4 rfl); omega; (first | (simp only [ints_length]; omega) | (simp [ints]; omega)))
            | (apply opv_len_ints el_int; rfl; (first | exact rd_old (by assumption) | exact rd_row 0 rfl | exact rd_row 1 rfl | exact rd_row 2 rfl | exact rd_row 3 rfl | exact rd_row 4 rfl))
            | (apply opv_load_str 0 st_G; rfl; rfl; rfl)
            | (apply opv_load_str 1 st_G; rfl; rfl; rfl)
            | (apply opv_load_str 2 st_G; rfl; rfl; rfl)
            | (apply opv_load_str 3 st_G; rfl; rfl; rfl)
            | (apply opv_load_str 4 st_G; rfl; rfl; rfl)
            | (apply opv_call; rfl; rfl; exact Cl.stable _ _ _; exact fun w hw => i_IsSet_c _ _ rows _ _ (by first | exact hw.arr (by assumption) | exact hw.rowArr (k := 0) rfl | exact hw.rowArr (k := 1) rfl | exact hw.rowArr (k := 2) rfl | exact hw.rowArr (k := 3) rfl | exact hw.rowArr (k := 4) rfl | exact hw.rowArr (k := 5) rfl | exact hw.rowArr (k := 6) rfl | exact hw.rowArr (k := 7) rfl | exact hw.rowArr (k := 8) rfl | exact hw.rowArr (k := 9) rfl | exact hw.rowArr (k := 10) rfl | exact hw.rowArr (k := 11) rfl | exact hw.rowArr (k := 12) rfl | exact hw.rowArr (k := 13) rfl))
            | (apply opv_add <;> rfl)
            | (apply opv_sub <;> rfl)
            | (apply opv_mul <;> rfl)
            | (apply opv_eql_bool ty_bool <;> rfl)
            | (apply opv_neq_bool ty_bool <;> rfl)); rfl; rfl)
        | apply px_nil
        | (apply px_skip; rfl; rfl)
        | apply qseq_normal
        | apply qseq_ret
        | apply qseq_exit
        | apply pwp_block
        | apply qblock_normal
        | apply qblock_ret
        | (apply qblock_exit_same; rfl)
        | (apply qblock_exit_other; rfl)
        | apply pwp_skip
        | apply pwp_exit
        | apply pwp_ret
        | apply qround_ret
        | apply qround_exit
        | apply qonce_ret
        | apply qonce_exit
        | (apply pwp_cond_t; rfl)
        | (apply pwp_cond_f; rfl)
        | (apply pwp_region_mix; kernel_rfl; decide +kernel; exact Cl.stable _ _ _)
        | (apply pwp_region_draw; kernel_rfl; kernel_rfl; exact Cl.stable _ _ _)
        | (apply px_guard_ndec; rfl; rfl; rfl; all_goals (intro hc; try (first | contradiction | (exfalso; omega) | (exfalso; simp at hc; done))))
        | (apply px_guard_dec; rfl; rfl; rfl; all_goals (intro hc; try (first | contradiction | (exfalso; omega) | (exfalso; simp at hc; done))))
        | (apply px_guard_not; rfl; rfl; rfl; all_goals (intro hc; try (first | contradiction | (exfalso; omega) | (exfalso; simp at hc; done))))
        | (apply px_guard; rfl; rfl; rfl; all_goals (intro hc; (first | contradiction | (fail_if_success (cases hc); try (first | (exfalso; omega) | (exfalso; simp at hc; done))))))
        | (apply pwp_cond_ndec; rfl; all_goals (intro hc; try (first | contradiction | (exfalso; omega) | (exfalso; simp at hc; done))))
        | (apply pwp_cond_dec; rfl; all_goals (intro hc; try (first | contradiction | (exfalso; omega) | (exfalso; simp at hc; done))))
        | (apply pwp_cond_not; rfl; all_goals (intro hc; try (first | contradiction | (exfalso; omega) | (exfalso; simp at hc; done))))
        | (apply pwp_cond; rfl; all_goals (intro hc; try (first | contradiction | (exfalso; omega) | (exfalso; simp at hc; done))))
        | (apply px_box; rfl; rfl; rfl; rfl; intro bk))
    all_goals first
      | exact (hg ⟨by assumption, by assumption⟩).elim
      | (refine qbody_ret1 (v := .int _ _) rfl rfl ⟨rfl, fun _ h => h.below⟩)
theorem en_s_LeastModule : Entry Try.prog 37 := ⟨_, Try.func37, by kernel_rfl, rfl⟩
set_option maxHeartbeats 1600000 in
theorem s_LeastModule_c (size : Int) (gv : Value) (rows : List Int) (s : Int) (w : World) (hr : Arr w gv (ints rows)) :
    Pure Try.prog 37 #[.agg #[.int .i64 size, gv], .int .i64 s] w (.int .i64 (leastM size rows s)) := by
  refine pure_enter (args := [_, _]) en_s_LeastModule Try.func37 rfl Try.ntmps37 rfl ?_
  by_cases hg : (IsG size rows ∧ 0 ≤ s ∧ s < ishl 1 size) ∧ ¬ s = 0
  case neg =>
    rw [leastM, if_neg hg]
    repeat' (first
        | apply pwp_seq
        | apply pwp_region
        | (apply px_run; (first
            | (apply opv_move; first | exact hid_int rfl | exact hid_bool rfl | exact hid_ptr rfl | rfl)
            | (apply opv_assign; first | exact hid_int rfl | exact hid_bool rfl | exact hid_ptr rfl | rfl)
            | (apply opv_lss <;> rfl)
            | (apply opv_leq <;> rfl)
            | (apply opv_gtr <;> rfl)
            | (apply opv_geq <;> rfl)
            | (apply opv_eql <;> rfl)
            | (apply opv_neq <;> rfl)
            | (apply opv_and <;> rfl)
            | (apply opv_or <;> rfl)
            | (apply opv_xor <;> rfl)
            | (apply opv_andNot <;> rfl)
            | (apply opv_pick_t <;> rfl)
            | (apply opv_pick_f <;> rfl)
            | (apply opv_not_dec <;> rfl)
            | (apply opv_not <;> rfl)
            | (apply opv_neg <;> rfl)
            | (apply opv_add_in; rfl; rfl; omega)
            | (apply opv_sub_in; rfl; rfl; omega)
            | (apply opv_mul_in; rfl; rfl; omega)
            | (apply opv_shl; rfl; rfl; omega)
            | (apply opv_shr; rfl; rfl; omega)
            | (apply opv_quo; rfl; rfl; omega)
            | (apply opv_rem; rfl; rfl; omega)
            | (apply opv_field fld_G0; rfl)
            | (apply opv_field fld_G1; rfl)
            | (apply opv_load_blk 0; (first | exact sc_int | exact sc_ints); rfl; rfl; rfl)
            | (apply opv_load_blk 1; (first | exact sc_int | exact sc_ints); rfl; rfl; rfl)
            | (apply opv_load_blk 2; (first | exact sc_int | exact sc_ints); rfl; rfl; rfl)
            | (apply opv_load_blk 3; (first | exact sc_int | exact sc_ints); rfl; rfl; rfl)
            | (apply opv_load_blk 4; (first | exact sc_int | exact sc_ints); rfl; rfl; rfl)
            | (apply opv_load_ints sc_int; rfl; (first | exact rd_old (by assumption) | exact rd_row 0 rfl | exact rd_row 1 rfl | exact rd_row 2 rfl | exact rd_row 3 rfl | exact rd_row 4 rfl); omega)
            | (apply opv_index_nat (vs := ints _) el_int; rfl; rfl; (first | exact rd_old (by assumption) | exact rd_row 0 rfl | exact rd_row 1 rfl | exact rd_row 2 rfl | exact rd_row 3 rfl | exact rd_row 4 rfl); (first | (simp only [ints_length]; omega) | (simp [ints]; omega)))
            | (apply opv_index (vs := ints _) el_int; rfl; rfl; (first | exact rd_old (by assumption) | exact rd_row 0 rfl | exact rd_row 1 rfl | exact rd_row 2 rfl | exact rd_row 3 rfl | exact rd_row 4 rfl); omega; (first | (simp only [ints_length]; omega) | (simp [ints]; omega)))
            | (apply opv_len_ints el_int; rfl; (first | exact rd_old (by assumption) | exact rd_row 0 rfl | exact rd_row 1 rfl | exact rd_row 2 rfl | exact rd_row 3 rfl | exact rd_row 4 rfl))
            | (apply opv_load_str 0 st_G; rfl; rfl; rfl)
            | (apply opv_load_str 1 st_G; rfl; rfl; rfl)
            | (apply opv_load_str 2 st_G; rfl; rfl; rfl)
            | (apply opv_load_str 3 st_G; rfl; rfl; rfl)
            | (apply opv_load_str 4 st_G; rfl; rfl; rfl)
            | (apply opv_call; rfl; rfl; exact Cl.stable _ _ _; exact fun w hw => s_IsSet_c _ _ rows _ _ (by first | exact hw.arr (by assumption) | exact hw.rowArr (k := 0) rfl | exact hw.rowArr (k := 1) rfl | exact hw.rowArr (k := 2) rfl | exact hw.rowArr (k := 3) rfl | exact hw.rowArr (k := 4) rfl | exact hw.rowArr (k := 5) rfl | exact hw.rowArr (k := 6) rfl | exact hw.rowArr (k := 7) rfl | exact hw.rowArr (k := 8) rfl | exact hw.rowArr (k := 9) rfl | exact hw.rowArr (k := 10) rfl | exact hw.rowArr (k := 11) rfl | exact hw.rowArr (k := 12) rfl | exact hw.rowArr (k := 13) rfl))
            | (apply opv_add <;> rfl)
            | (apply opv_sub <;> rfl)
            | (apply opv_mul <;> rfl)
            | (apply opv_eql_bool ty_bool <;> rfl)
            | (apply opv_neq_bool ty_bool <;> rfl)); rfl; rfl)
        | apply px_nil
        | (apply px_skip; rfl; rfl)
        | apply qseq_normal
        | apply qseq_ret
        | apply qseq_exit
        | apply pwp_block
        | apply qblock_normal
        | apply qblock_ret
        | (apply qblock_exit_same; rfl)
        | (apply qblock_exit_other; rfl)
        | apply pwp_skip
        | apply pwp_exit
        | apply pwp_ret
        | apply qround_ret
        | apply qround_exit
        | apply qonce_ret
        | apply qonce_exit
        | (apply pwp_cond_t; rfl)
        | (apply pwp_cond_f; rfl)
        | (apply pwp_region_mix; kernel_rfl; decide +kernel; exact Cl.stable _ _ _)
        | (apply pwp_region_draw; kernel_rfl; kernel_rfl; exact Cl.stable _ _ _)
        | (apply px_guard_ndec; rfl; rfl; rfl; all_goals (intro hc; try (first | contradiction | (exfalso; omega) | (exfalso; simp at hc; done))))
        | (apply px_guard_dec; rfl; rfl; rfl; all_goals (intro hc; try (first | contradiction | (exfalso; omega) | (exfalso; simp at hc; done))))
        | (apply px_guard_not; rfl; rfl; rfl; all_goals (intro hc; try (first | contradiction | (exfalso; omega) | (exfalso; simp at hc; done))))
        | (apply px_guard; rfl; rfl; rfl; all_goals (intro hc; (first | contradiction | (fail_if_success (cases hc); try (first | (exfalso; omega) | (exfalso; simp at hc; done))))))
        | (apply pwp_cond_ndec; rfl; all_goals (intro hc; try (first | contradiction | (exfalso; omega) | (exfalso; simp at hc; done))))
        | (apply pwp_cond_dec; rfl; all_goals (intro hc; try (first | contradiction | (exfalso; omega) | (exfalso; simp at hc; done))))
        | (apply pwp_cond_not; rfl; all_goals (intro hc; try (first | contradiction | (exfalso; omega) | (exfalso; simp at hc; done))))
        | (apply pwp_cond; rfl; all_goals (intro hc; try (first | contradiction | (exfalso; omega) | (exfalso; simp at hc; done))))
        | (apply px_box; rfl; rfl; rfl; rfl; intro bk))
    all_goals first
      | exact (hg ⟨by assumption, by assumption⟩).elim
      | (refine qbody_ret1 (v := .int _ _) rfl rfl ⟨rfl, fun _ h => h.below⟩)
  obtain ⟨⟨hg1, hg2⟩, h0⟩ := id hg
  have hg12 := hg.1
  obtain ⟨n, hn, hrl, hn1, hn7⟩ := isG_size hg1
  obtain ⟨S, rfl, hS, hS'⟩ := set_nat hn hn7 hg2
  have hng := ng_of hg1 hn
  have hp7 := pow_le7 hn7
  have hres : leastM size rows (S : Int) = (lmN (rowN rows) n S n : Nat) := by rw [leastM, if_pos hg, hn]; simp only [Int.toNat_natCast]
  rw [hres]
  generalize hrr : rowN rows = r at *
  repeat' (first
      | apply pwp_seq
      | apply pwp_region
      | (apply px_run; (first
          | (apply opv_move; first | exact hid_int rfl | exact hid_bool rfl | exact hid_ptr rfl | rfl)
          | (apply opv_assign; first | exact hid_int rfl | exact hid_bool rfl | exact hid_ptr rfl | rfl)
          | (apply opv_lss <;> rfl)
          | (apply opv_leq <;> rfl)
          | (apply opv_gtr <;> rfl)
          | (apply opv_geq <;> rfl)
          | (apply opv_eql <;> rfl)
          | (apply opv_neq <;> rfl)
          | (apply opv_and <;> rfl)
          | (apply opv_or <;> rfl)
          | (apply opv_xor <;> rfl)
          | (apply opv_andNot <;> rfl)
          | (apply opv_pick_t <;> rfl)
          | (apply opv_pick_f <;> rfl)
          | (apply opv_not_dec <;> rfl)
          | (apply opv_not <;> rfl)
          | (apply opv_neg <;> rfl)
          | (apply opv_add_in; rfl; rfl; omega)
          | (apply opv_sub_in; rfl; rfl; omega)
          | (apply opv_mul_in; rfl; rfl; omega)
          | (apply opv_shl; rfl; rfl; omega)
          | (apply opv_shr; rfl; rfl; omega)
          | (apply opv_quo; rfl; rfl; omega)
          | (apply opv_rem; rfl; rfl; omega)
          | (apply opv_field fld_G0; rfl)
          | (apply opv_field fld_G1; rfl)
          | (apply opv_load_blk 0; (first | exact sc_int | exact sc_ints); rfl; rfl; rfl)
          | (apply opv_load_blk 1; (first | exact sc_int | exact sc_ints); rfl; rfl; rfl)
          | (apply opv_load_blk 2; (first | exact sc_int | exact sc_ints); rfl; rfl; rfl)
          | (apply opv_load_blk 3; (first | exact sc_int | exact sc_ints); rfl; rfl; rfl)
          | (apply opv_load_blk 4; (first | exact sc_int | exact sc_ints); rfl; rfl; rfl)
          | (apply opv_load_ints sc_int; rfl; (first | exact rd_old (by assumption) | exact rd_row 0 rfl | exact rd_row 1 rfl | exact rd_row 2 rfl | exact rd_row 3 rfl | exact rd_row 4 rfl); omega)
          | (apply opv_index_nat (vs := ints _) el_int; rfl; rfl; (first | exact rd_old (by assumption) | exact rd_row 0 rfl | exact rd_row 1 rfl | exact rd_row 2 rfl | exact rd_row 3 rfl | exact rd_row 4 rfl); (first | (simp only [ints_length]; omega) | (simp [ints]; omega)))
          | (apply opv_index (vs := ints _) el_int; rfl; rfl; (first | exact rd_old (by assumption) | exact rd_row 0 rfl | exact rd_row 1 rfl | exact rd_row 2 rfl | exact rd_row 3 rfl | exact rd_row 4 rfl); omega; (first | (simp only [ints_length]; omega) | (simp [ints]; omega)))
          | (apply opv_len_ints el_int; rfl; (first | exact rd_old (by assumption) | exact rd_row 0 rfl | exact rd_row 1 rfl | exact rd_row 2 rfl | exact rd_row 3 rfl | exact rd_row 4 rfl))
          | (apply opv_load_str 0 st_G; rfl; rfl; rfl)
          | (apply opv_load_str 1 st_G; rfl; rfl; rfl)
          | (apply opv_load_str 2 st_G; rfl; rfl; rfl)
          | (apply opv_load_str 3 st_G; rfl; rfl; rfl)
          | (apply opv_load_str 4 st_G; rfl; rfl; rfl)
          | (apply opv_call; rfl; rfl; exact Cl.stable _ _ _; exact fun w hw => s_IsSet_c _ _ rows _ _ (by first | exact hw.arr (by assumption) | exact hw.rowArr (k := 0) rfl | exact hw.rowArr (k := 1) rfl | exact hw.rowArr (k := 2) rfl | exact hw.rowArr (k := 3) rfl | exact hw.rowArr (k := 4) rfl | exact hw.rowArr (k := 5) rfl | exact hw.rowArr (k := 6) rfl | exact hw.rowArr (k := 7) rfl | exact hw.rowArr (k := 8) rfl | exact hw.rowArr (k := 9) rfl | exact hw.rowArr (k := 10) rfl | exact hw.rowArr (k := 11) rfl | exact hw.rowArr (k := 12) rfl | exact hw.rowArr (k := 13) rfl))
          | (apply opv_add <;> rfl)
          | (apply opv_sub <;> rfl)
          | (apply opv_mul <;> rfl)
          | (apply opv_eql_bool ty_bool <;> rfl)
          | (apply opv_neq_bool ty_bool <;> rfl)); rfl; rfl)
      | apply px_nil
      | (apply px_skip; rfl; rfl)
      | apply qseq_normal
      | apply qseq_ret
      | apply qseq_exit
      | apply pwp_block
      | apply qblock_normal
      | apply qblock_ret
      | (apply qblock_exit_same; rfl)
      | (apply qblock_exit_other; rfl)
      | apply pwp_skip
      | apply pwp_exit
      | apply pwp_ret
      | apply qround_ret
      | apply qround_exit
      | apply qonce_ret
      | apply qonce_exit
      | (apply pwp_cond_t; rfl)
      | (apply pwp_cond_f; rfl)
      | (apply pwp_region_mix; kernel_rfl; decide +kernel; exact Cl.stable _ _ _)
      | (apply pwp_region_draw; kernel_rfl; kernel_rfl; exact Cl.stable _ _ _)
      | (apply px_guard_ndec; rfl; rfl; rfl; all_goals (intro hc; try (first | contradiction | (exfalso; omega) | (exfalso; simp at hc; done))))
      | (apply px_guard_dec; rfl; rfl; rfl; all_goals (intro hc; try (first | contradiction | (exfalso; omega) | (exfalso; simp at hc; done))))
      | (apply px_guard_not; rfl; rfl; rfl; all_goals (intro hc; try (first | contradiction | (exfalso; omega) | (exfalso; simp at hc; done))))
      | (apply px_guard; rfl; rfl; rfl; all_goals (intro hc; (first | contradiction | (fail_if_success (cases hc); try (first | (exfalso; omega) | (exfalso; simp at hc; done))))))
      | (apply pwp_cond_ndec; rfl; all_goals (intro hc; try (first | contradiction | (exfalso; omega) | (exfalso; simp at hc; done))))
      | (apply pwp_cond_dec; rfl; all_goals (intro hc; try (first | contradiction | (exfalso; omega) | (exfalso; simp at hc; done))))
      | (apply pwp_cond_not; rfl; all_goals (intro hc; try (first | contradiction | (exfalso; omega) | (exfalso; simp at hc; done))))
      | (apply pwp_cond; rfl; all_goals (intro hc; try (first | contradiction | (exfalso; omega) | (exfalso; simp at hc; done))))
      | (apply px_box; rfl; rfl; rfl; rfl; intro bk))
  all_goals try exact (h0 hc).elim
  refine pwp_loop (τ := Nat) [(1,1), (5,8), (17,59)] (fun t => [(5, .int .i64 (t : Int)), (1, .int .i64 ((lmN r n S t : Nat) : Int))]) (fun _ => Cl [] w [.blk bk [.int .i64 size, gv]]) (fun t => t ≤ n) (fun t => n - t) 0
    ⟨rfl, rfl, trivial⟩ (Nat.zero_le _) (fun _ h => h) (fun J t ht => ?_)
  by_cases hlt : t < n
  · have hcur := lmN_lt (r := r) hS t
    have hnext : lmN r n S (t + 1) = roundN r (lmN r n S t) n := rfl
    generalize lmN r n S t = D at *
    repeat' (first
        | apply pwp_seq
        | apply pwp_region
        | (apply px_run; (first
            | (apply opv_move; first | exact hid_int rfl | exact hid_bool rfl | exact hid_ptr rfl | rfl)
            | (apply opv_assign; first | exact hid_int rfl | exact hid_bool rfl | exact hid_ptr rfl | rfl)
            | (apply opv_lss <;> rfl)
            | (apply opv_leq <;> rfl)
            | (apply opv_gtr <;> rfl)
            | (apply opv_geq <;> rfl)
            | (apply opv_eql <;> rfl)
            | (apply opv_neq <;> rfl)
            | (apply opv_and <;> rfl)
            | (apply opv_or <;> rfl)
            | (apply opv_xor <;> rfl)
            | (apply opv_andNot <;> rfl)
            | (apply opv_pick_t <;> rfl)
            | (apply opv_pick_f <;> rfl)
            | (apply opv_not_dec <;> rfl)
            | (apply opv_not <;> rfl)
            | (apply opv_neg <;> rfl)
            | (apply opv_add_in; rfl; rfl; omega)
            | (apply opv_sub_in; rfl; rfl; omega)
            | (apply opv_mul_in; rfl; rfl; omega)
            | (apply opv_shl; rfl; rfl; omega)
            | (apply opv_shr; rfl; rfl; omega)
            | (apply opv_quo; rfl; rfl; omega)
            | (apply opv_rem; rfl; rfl; omega)
            | (apply opv_field fld_G0; rfl)
            | (apply opv_field fld_G1; rfl)
            | (apply opv_load_blk 0; (first | exact sc_int | exact sc_ints); rfl; rfl; rfl)
            | (apply opv_load_blk 1; (first | exact sc_int | exact sc_ints); rfl; rfl; rfl)
            | (apply opv_load_blk 2; (first | exact sc_int | exact sc_ints); rfl; rfl; rfl)
            | (apply opv_load_blk 3; (first | exact sc_int | exact sc_ints); rfl; rfl; rfl)
            | (apply opv_load_blk 4; (first | exact sc_int | exact sc_ints); rfl; rfl; rfl)
            | (apply opv_load_ints sc_int; rfl; (first | exact rd_old (by assumption) | exact rd_row 0 rfl | exact rd_row 1 rfl | exact rd_row 2 rfl | exact rd_row 3 rfl | exact rd_row 4 rfl); omega)
            | (apply opv_index_nat (vs := ints _) el_int; rfl; rfl; (first | exact rd_old (by assumption) | exact rd_row 0 rfl | exact rd_row 1 rfl | exact rd_row 2 rfl | exact rd_row 3 rfl | exact rd_row 4 rfl); (first | (simp only [ints_length]; omega) | (simp [ints]; omega)))
            | (apply opv_index (vs := ints _) el_int; rfl; rfl; (first | exact rd_old (by assumption) | exact rd_row 0 rfl | exact rd_row 1 rfl | exact rd_row 2 rfl | exact rd_row 3 rfl | exact rd_row 4 rfl); omega; (first | (simp only [ints_length]; omega) | (simp [ints]; omega)))
            | (apply opv_len_ints el_int; rfl; (first | exact rd_old (by assumption) | exact rd_row 0 rfl | exact rd_row 1 rfl | exact rd_row 2 rfl | exact rd_row 3 rfl | exact rd_row 4 rfl))
            | (apply opv_load_str 0 st_G; rfl; rfl; rfl)
            | (apply opv_load_str 1 st_G; rfl; rfl; rfl)
            | (apply opv_load_str 2 st_G; rfl; rfl; rfl)
            | (apply opv_load_str 3 st_G; rfl; rfl; rfl)
            | (apply opv_load_str 4 st_G; rfl; rfl; rfl)
            | (apply opv_add <;> rfl)
            | (apply opv_sub <;> rfl)
            | (apply opv_mul <;> rfl)
            | (apply opv_eql_bool ty_bool <;> rfl)
            | (apply opv_neq_bool ty_bool <;> rfl)); rfl; rfl)
        | apply px_nil
        | (apply px_skip; rfl; rfl)
        | apply qseq_normal
        | apply qseq_ret
        | apply qseq_exit
        | apply pwp_block
        | apply qblock_normal
        | apply qblock_ret
        | (apply qblock_exit_same; rfl)
        | (apply qblock_exit_other; rfl)
        | apply pwp_skip
        | apply pwp_exit
        | apply pwp_ret
        | apply qround_ret
        | apply qround_exit
        | apply qonce_ret
        | apply qonce_exit
        | (apply pwp_cond_t; rfl)
        | (apply pwp_cond_f; rfl)
        | (apply pwp_region_mix; kernel_rfl; decide +kernel; exact Cl.stable _ _ _)
        | (apply pwp_region_draw; kernel_rfl; kernel_rfl; exact Cl.stable _ _ _)
        | (apply px_guard_ndec; rfl; rfl; rfl; all_goals (intro hc; try (first | contradiction | (exfalso; omega) | (exfalso; simp at hc; done))))
        | (apply px_guard_dec; rfl; rfl; rfl; all_goals (intro hc; try (first | contradiction | (exfalso; omega) | (exfalso; simp at hc; done))))
        | (apply px_guard_not; rfl; rfl; rfl; all_goals (intro hc; try (first | contradiction | (exfalso; omega) | (exfalso; simp at hc; done))))
        | (apply px_guard; rfl; rfl; rfl; all_goals (intro hc; (first | contradiction | (fail_if_success (cases hc); try (first | (exfalso; omega) | (exfalso; simp at hc; done))))))
        | (apply pwp_cond_ndec; rfl; all_goals (intro hc; try (first | contradiction | (exfalso; omega) | (exfalso; simp at hc; done))))
        | (apply pwp_cond_dec; rfl; all_goals (intro hc; try (first | contradiction | (exfalso; omega) | (exfalso; simp at hc; done))))
        | (apply pwp_cond_not; rfl; all_goals (intro hc; try (first | contradiction | (exfalso; omega) | (exfalso; simp at hc; done))))
        | (apply pwp_cond; rfl; all_goals (intro hc; try (first | contradiction | (exfalso; omega) | (exfalso; simp at hc; done))))
        | (apply px_box; rfl; rfl; rfl; rfl; intro bk)
        | (apply px_gives; rfl; rfl; rfl; rfl; rfl; exact fun w hw => s_ListOf_c _ _; rintro sl _ rfl))
    refine pwp_loop (τ := Nat × Value) [(1,1), (6,8), (25,59)] (fun x => [(7, .int .i64 (x.1 : Int)), (1, .int .i64 ((roundN r D x.1 : Nat) : Int)), (6, x.2)]) (fun x => Cl [] w [.row 3 x.2 (ints (listS ((roundN r D x.1 : Nat) : Int))), .blk bk [.int .i64 size, gv]]) (fun x => x.1 ≤ n) (fun x => n - x.1) (0, _)
      ⟨rfl, rfl, rfl, trivial⟩ (Nat.zero_le _) (fun _ h => h) (fun J2 x hx => ?_)
    obtain ⟨v, sl'⟩ := x
    dsimp only at hx ⊢
    by_cases hv : v < n
    · have hD := roundN_lt (r := r) hcur v (by omega)
      have hsucc : roundN r D (v + 1) = stepN r (roundN r D v) v := rfl
      generalize roundN r D v = M at *
      have hR : rows.getD v 0 = (r v : Nat) := by rw [← hrr]; exact rowN_eq hg1 v
      have hRl := hng.lt v
      have hiff := step_iff (R := r v) (S := M) (v := v) (by omega) (by omega) (by omega)
      rw [← hR] at hiff
      have hor : ior ((M : Nat) : Int) (ishl 1 (v : Int)) = ((M ||| 2 ^ v : Nat) : Int) := by rw [ishl_one_nat (by omega), ior_nat (by omega) (by have := Nat.pow_le_pow_right (n := 2) (by omega) (show v ≤ 7 by omega); omega)]
      have hl7 := listS_length ((M : Nat) : Int)
      repeat' (first
          | apply pwp_seq
          | apply pwp_region
          | (apply px_run; (first
              | (apply opv_move; first | exact hid_int rfl | exact hid_bool rfl | exact hid_ptr rfl | rfl)
              | (apply opv_assign; first | exact hid_int rfl | exact hid_bool rfl | exact hid_ptr rfl | rfl)
              | (apply opv_lss <;> rfl)
              | (apply opv_leq <;> rfl)
              | (apply opv_gtr <;> rfl)
              | (apply opv_geq <;> rfl)
              | (apply opv_eql <;> rfl)
              | (apply opv_neq <;> rfl)
              | (apply opv_and <;> rfl)
              | (apply opv_or <;> rfl)
              | (apply opv_xor <;> rfl)
              | (apply opv_andNot <;> rfl)
              | (apply opv_pick_t <;> rfl)
              | (apply opv_pick_f <;> rfl)
              | (apply opv_not_dec <;> rfl)
              | (apply opv_not <;> rfl)
              | (apply opv_neg <;> rfl)
              | (apply opv_add_in; rfl; rfl; omega)
              | (apply opv_sub_in; rfl; rfl; omega)
              | (apply opv_mul_in; rfl; rfl; omega)
              | (apply opv_shl; rfl; rfl; omega)
              | (apply opv_shr; rfl; rfl; omega)
              | (apply opv_quo; rfl; rfl; omega)
              | (apply opv_rem; rfl; rfl; omega)
              | (apply opv_field fld_G0; rfl)
              | (apply opv_field fld_G1; rfl)
              | (apply opv_load_blk 0; (first | exact sc_int | exact sc_ints); rfl; rfl; rfl)
              | (apply opv_load_blk 1; (first | exact sc_int | exact sc_ints); rfl; rfl; rfl)
              | (apply opv_load_blk 2; (first | exact sc_int | exact sc_ints); rfl; rfl; rfl)
              | (apply opv_load_blk 3; (first | exact sc_int | exact sc_ints); rfl; rfl; rfl)
              | (apply opv_load_blk 4; (first | exact sc_int | exact sc_ints); rfl; rfl; rfl)
              | (apply opv_load_ints sc_int; rfl; (first | exact rd_old (by assumption) | exact rd_row 0 rfl | exact rd_row 1 rfl | exact rd_row 2 rfl | exact rd_row 3 rfl | exact rd_row 4 rfl); omega)
              | (apply opv_index_nat (vs := ints _) el_int; rfl; rfl; (first | exact rd_old (by assumption) | exact rd_row 0 rfl | exact rd_row 1 rfl | exact rd_row 2 rfl | exact rd_row 3 rfl | exact rd_row 4 rfl); (first | (simp only [ints_length]; omega) | (simp [ints]; omega)))
              | (apply opv_index (vs := ints _) el_int; rfl; rfl; (first | exact rd_old (by assumption) | exact rd_row 0 rfl | exact rd_row 1 rfl | exact rd_row 2 rfl | exact rd_row 3 rfl | exact rd_row 4 rfl); omega; (first | (simp only [ints_length]; omega) | (simp [ints]; omega)))
              | (apply opv_len_ints el_int; rfl; (first | exact rd_old (by assumption) | exact rd_row 0 rfl | exact rd_row 1 rfl | exact rd_row 2 rfl | exact rd_row 3 rfl | exact rd_row 4 rfl))
              | (apply opv_load_str 0 st_G; rfl; rfl; rfl)
              | (apply opv_load_str 1 st_G; rfl; rfl; rfl)
              | (apply opv_load_str 2 st_G; rfl; rfl; rfl)
              | (apply opv_load_str 3 st_G; rfl; rfl; rfl)
              | (apply opv_load_str 4 st_G; rfl; rfl; rfl)
              | (apply opv_call; rfl; rfl; exact Cl.stable _ _ _; exact fun w hw => s_CountSet_c _ _)
              | (apply opv_add <;> rfl)
              | (apply opv_sub <;> rfl)
              | (apply opv_mul <;> rfl)
              | (apply opv_eql_bool ty_bool <;> rfl)
              | (apply opv_neq_bool ty_bool <;> rfl)); rfl; rfl)
          | apply px_nil
          | (apply px_skip; rfl; rfl)
          | apply qseq_normal
          | apply qseq_ret
          | apply qseq_exit
          | apply pwp_block
          | apply qblock_normal
          | apply qblock_ret
          | (apply qblock_exit_same; rfl)
          | (apply qblock_exit_other; rfl)
          | apply pwp_skip
          | apply pwp_exit
          | apply pwp_ret
          | apply qround_ret
          | apply qround_exit
          | apply qonce_ret
          | apply qonce_exit
          | (apply pwp_cond_t; rfl)
          | (apply pwp_cond_f; rfl)
          | (apply pwp_region_mix; kernel_rfl; decide +kernel; exact Cl.stable _ _ _)
          | (apply pwp_region_draw; kernel_rfl; kernel_rfl; exact Cl.stable _ _ _)
          | (apply px_guard_ndec; rfl; rfl; rfl; all_goals (intro hc; try (first | contradiction | (exfalso; omega) | (exfalso; simp at hc; done))))
          | (apply px_guard_dec; rfl; rfl; rfl; all_goals (intro hc; try (first | contradiction | (exfalso; omega) | (exfalso; simp at hc; done))))
          | (apply px_guard_not; rfl; rfl; rfl; all_goals (intro hc; try (first | contradiction | (exfalso; omega) | (exfalso; simp at hc; done))))
          | (apply px_guard; rfl; rfl; rfl; all_goals (intro hc; (first | contradiction | (fail_if_success (cases hc); try (first | (exfalso; omega) | (exfalso; simp at hc; done))))))
          | (apply pwp_cond_ndec; rfl; all_goals (intro hc; try (first | contradiction | (exfalso; omega) | (exfalso; simp at hc; done))))
          | (apply pwp_cond_dec; rfl; all_goals (intro hc; try (first | contradiction | (exfalso; omega) | (exfalso; simp at hc; done))))
          | (apply pwp_cond_not; rfl; all_goals (intro hc; try (first | contradiction | (exfalso; omega) | (exfalso; simp at hc; done))))
          | (apply pwp_cond; rfl; all_goals (intro hc; try (first | contradiction | (exfalso; omega) | (exfalso; simp at hc; done))))
          | (apply px_box; rfl; rfl; rfl; rfl; intro bk)
          | (apply px_gives; rfl; rfl; rfl; rfl; rfl; exact fun w hw => s_ListOf_c _ _; rintro sl2 _ rfl))
      · refine qround_normal ?_ ⟨(v + 1, _), ⟨rfl, ?_, rfl, trivial⟩, by dsimp only; omega, by dsimp only; omega, fun w' h => ?_⟩
        · repeat (first | exact same_refl | refine same_upd rfl ?_ | refine same_junk rfl ?_)
        · show Value.int .i64 _ = .int .i64 _
          rw [hsucc, stepN, if_pos (hiff.1 ⟨by assumption, by assumption, by assumption⟩), hor]
        · dsimp only
          rw [hsucc, stepN, if_pos (hiff.1 ⟨by assumption, by assumption, by assumption⟩), ← hor]
          exact Cl.sub (by assumption) (by repeat (first | exact List.Sublist.slnil | exact List.Sublist.refl _ | apply List.Sublist.cons_cons | apply List.Sublist.cons))
      all_goals
        have hneg : roundN r D (v + 1) = M := by
          rw [hsucc, stepN, if_neg]
          intro hh
          obtain ⟨q1, q2, q3⟩ := hiff.2 hh
          contradiction
        refine qround_normal ?_ ⟨(v + 1, sl'), ⟨rfl, ?_, rfl, trivial⟩, by dsimp only; omega, by dsimp only; omega, fun w' h => ?_⟩
        · repeat (first | exact same_refl | refine same_upd rfl ?_ | refine same_junk rfl ?_)
        · show Value.int .i64 _ = .int .i64 _
          rw [hneg]
        · dsimp only
          rw [hneg]
          exact Cl.sub (by assumption) (by repeat (first | exact List.Sublist.slnil | exact List.Sublist.refl _ | apply List.Sublist.cons_cons | apply List.Sublist.cons))
    · obtain rfl : v = n := by omega
      repeat' (first
          | apply pwp_seq
          | apply pwp_region
          | (apply px_run; (first
              | (apply opv_move; first | exact hid_int rfl | exact hid_bool rfl | exact hid_ptr rfl | rfl)
              | (apply opv_assign; first | exact hid_int rfl | exact hid_bool rfl | exact hid_ptr rfl | rfl)
              | (apply opv_lss <;> rfl)
              | (apply opv_leq <;> rfl)
              | (apply opv_gtr <;> rfl)
              | (apply opv_geq <;> rfl)
              | (apply opv_eql <;> rfl)
              | (apply opv_neq <;> rfl)
              | (apply opv_and <;> rfl)
              | (apply opv_or <;> rfl)
              | (apply opv_xor <;> rfl)
              | (apply opv_andNot <;> rfl)
              | (apply opv_pick_t <;> rfl)
              | (apply opv_pick_f <;> rfl)
              | (apply opv_not_dec <;> rfl)
              | (apply opv_not <;> rfl)
              | (apply opv_neg <;> rfl)
              | (apply opv_add_in; rfl; rfl; omega)
              | (apply opv_sub_in; rfl; rfl; omega)
              | (apply opv_mul_in; rfl; rfl; omega)
              | (apply opv_shl; rfl; rfl; omega)
              | (apply opv_shr; rfl; rfl; omega)
              | (apply opv_quo; rfl; rfl; omega)
              | (apply opv_rem; rfl; rfl; omega)
              | (apply opv_field fld_G0; rfl)
              | (apply opv_field fld_G1; rfl)
              | (apply opv_load_blk 0; (first | exact sc_int | exact sc_ints); rfl; rfl; rfl)
              | (apply opv_load_blk 1; (first | exact sc_int | exact sc_ints); rfl; rfl; rfl)
              | (apply opv_load_blk 2; (first | exact sc_int | exact sc_ints); rfl; rfl; rfl)
              | (apply opv_load_blk 3; (first | exact sc_int | exact sc_ints); rfl; rfl; rfl)
              | (apply opv_load_blk 4; (first | exact sc_int | exact sc_ints); rfl; rfl; rfl)
              | (apply opv_load_ints sc_int; rfl; (first | exact rd_old (by assumption) | exact rd_row 0 rfl | exact rd_row 1 rfl | exact rd_row 2 rfl | exact rd_row 3 rfl | exact rd_row 4 rfl); omega)
              | (apply opv_index_nat (vs := ints _) el_int; rfl; rfl; (first | exact rd_old (by assumption) | exact rd_row 0 rfl | exact rd_row 1 rfl | exact rd_row 2 rfl | exact rd_row 3 rfl | exact rd_row 4 rfl); (first | (simp only [ints_length]; omega) | (simp [ints]; omega)))
              | (apply opv_index (vs := ints _) el_int; rfl; rfl; (first | exact rd_old (by assumption) | exact rd_row 0 rfl | exact rd_row 1 rfl | exact rd_row 2 rfl | exact rd_row 3 rfl | exact rd_row 4 rfl); omega; (first | (simp only [ints_length]; omega) | (simp [ints]; omega)))
              | (apply opv_len_ints el_int; rfl; (first | exact rd_old (by assumption) | exact rd_row 0 rfl | exact rd_row 1 rfl | exact rd_row 2 rfl | exact rd_row 3 rfl | exact rd_row 4 rfl))
              | (apply opv_load_str 0 st_G; rfl; rfl; rfl)
              | (apply opv_load_str 1 st_G; rfl; rfl; rfl)
              | (apply opv_load_str 2 st_G; rfl; rfl; rfl)
              | (apply opv_load_str 3 st_G; rfl; rfl; rfl)
              | (apply opv_load_str 4 st_G; rfl; rfl; rfl)
              | (apply opv_add <;> rfl)
              | (apply opv_sub <;> rfl)
              | (apply opv_mul <;> rfl)
              | (apply opv_eql_bool ty_bool <;> rfl)
              | (apply opv_neq_bool ty_bool <;> rfl)); rfl; rfl)
          | apply px_nil
          | (apply px_skip; rfl; rfl)
          | apply qseq_normal
          | apply qseq_ret
          | apply qseq_exit
          | apply pwp_block
          | apply qblock_normal
          | apply qblock_ret
          | (apply qblock_exit_same; rfl)
          | (apply qblock_exit_other; rfl)
          | apply pwp_skip
          | apply pwp_exit
          | apply pwp_ret
          | apply qround_ret
          | apply qround_exit
          | apply qonce_ret
          | apply qonce_exit
          | (apply pwp_cond_t; rfl)
          | (apply pwp_cond_f; rfl)
          | (apply pwp_region_mix; kernel_rfl; decide +kernel; exact Cl.stable _ _ _)
          | (apply pwp_region_draw; kernel_rfl; kernel_rfl; exact Cl.stable _ _ _)
          | (apply px_guard_ndec; rfl; rfl; rfl; all_goals (intro hc; try (first | contradiction | (exfalso; omega) | (exfalso; simp at hc; done))))
          | (apply px_guard_dec; rfl; rfl; rfl; all_goals (intro hc; try (first | contradiction | (exfalso; omega) | (exfalso; simp at hc; done))))
          | (apply px_guard_not; rfl; rfl; rfl; all_goals (intro hc; try (first | contradiction | (exfalso; omega) | (exfalso; simp at hc; done))))
          | (apply px_guard; rfl; rfl; rfl; all_goals (intro hc; (first | contradiction | (fail_if_success (cases hc); try (first | (exfalso; omega) | (exfalso; simp at hc; done))))))
          | (apply pwp_cond_ndec; rfl; all_goals (intro hc; try (first | contradiction | (exfalso; omega) | (exfalso; simp at hc; done))))
          | (apply pwp_cond_dec; rfl; all_goals (intro hc; try (first | contradiction | (exfalso; omega) | (exfalso; simp at hc; done))))
          | (apply pwp_cond_not; rfl; all_goals (intro hc; try (first | contradiction | (exfalso; omega) | (exfalso; simp at hc; done))))
          | (apply pwp_cond; rfl; all_goals (intro hc; try (first | contradiction | (exfalso; omega) | (exfalso; simp at hc; done))))
          | (apply px_box; rfl; rfl; rfl; rfl; intro bk))
      refine qround_normal ?_ ⟨t + 1, ⟨rfl, ?_, trivial⟩, by omega, by omega, fun w' h => ?_⟩
      · repeat (first | exact same_refl | refine same_upd rfl ?_ | refine same_junk rfl ?_)
      · show Value.int .i64 _ = .int .i64 _
        rw [hnext]
      · exact Cl.sub (by assumption) (by repeat (first | exact List.Sublist.slnil | exact List.Sublist.refl _ | apply List.Sublist.cons_cons | apply List.Sublist.cons))
  · repeat' (first
      | apply pwp_seq
      | apply pwp_region
      | (apply px_run; (first
          | (apply opv_move; first | exact hid_int rfl | exact hid_bool rfl | exact hid_ptr rfl | rfl)
          | (apply opv_assign; first | exact hid_int rfl | exact hid_bool rfl | exact hid_ptr rfl | rfl)
          | (apply opv_lss <;> rfl)
          | (apply opv_leq <;> rfl)
          | (apply opv_gtr <;> rfl)
          | (apply opv_geq <;> rfl)
          | (apply opv_eql <;> rfl)
          | (apply opv_neq <;> rfl)
          | (apply opv_and <;> rfl)
          | (apply opv_or <;> rfl)
          | (apply opv_xor <;> rfl)
          | (apply opv_andNot <;> rfl)
          | (apply opv_pick_t <;> rfl)
          | (apply opv_pick_f <;> rfl)
          | (apply opv_not_dec <;> rfl)
          | (apply opv_not <;> rfl)
          | (apply opv_neg <;> rfl)
          | (apply opv_add_in; rfl; rfl; omega)
          | (apply opv_sub_in; rfl; rfl; omega)
          | (apply opv_mul_in; rfl; rfl; omega)
          | (apply opv_shl; rfl; rfl; omega)
          | (apply opv_shr; rfl; rfl; omega)
          | (apply opv_quo; rfl; rfl; omega)
          | (apply opv_rem; rfl; rfl; omega)
          | (apply opv_field fld_G0; rfl)
          | (apply opv_field fld_G1; rfl)
          | (apply opv_load_blk 0; (first | exact sc_int | exact sc_ints); rfl; rfl; rfl)
          | (apply opv_load_blk 1; (first | exact sc_int | exact sc_ints); rfl; rfl; rfl)
          | (apply opv_load_blk 2; (first | exact sc_int | exact sc_ints); rfl; rfl; rfl)
          | (apply opv_load_blk 3; (first | exact sc_int | exact sc_ints); rfl; rfl; rfl)
          | (apply opv_load_blk 4; (first | exact sc_int | exact sc_ints); rfl; rfl; rfl)
          | (apply opv_load_ints sc_int; rfl; (first | exact rd_old (by assumption) | exact rd_row 0 rfl | exact rd_row 1 rfl | exact rd_row 2 rfl | exact rd_row 3 rfl | exact rd_row 4 rfl); omega)
          | (apply opv_index_nat (vs := ints _) el_int; rfl; rfl; (first | exact rd_old (by assumption) | exact rd_row 0 rfl | exact rd_row 1 rfl | exact rd_row 2 rfl | exact rd_row 3 rfl | exact rd_row 4 rfl); (first | (simp only [ints_length]; omega) | (simp [ints]; omega)))
          | (apply opv_index (vs := ints _) el_int; rfl; rfl; (first | exact rd_old (by assumption) | exact rd_row 0 rfl | exact rd_row 1 rfl | exact rd_row 2 rfl | exact rd_row 3 rfl | exact rd_row 4 rfl); omega; (first | (simp only [ints_length]; omega) | (simp [ints]; omega)))
          | (apply opv_len_ints el_int; rfl; (first | exact rd_old (by assumption) | exact rd_row 0 rfl | exact rd_row 1 rfl | exact rd_row 2 rfl | exact rd_row 3 rfl | exact rd_row 4 rfl))
          | (apply opv_load_str 0 st_G; rfl; rfl; rfl)
          | (apply opv_load_str 1 st_G; rfl; rfl; rfl)
          | (apply opv_load_str 2 st_G; rfl; rfl; rfl)
          | (apply opv_load_str 3 st_G; rfl; rfl; rfl)
          | (apply opv_load_str 4 st_G; rfl; rfl; rfl)
          | (apply opv_add <;> rfl)
          | (apply opv_sub <;> rfl)
          | (apply opv_mul <;> rfl)
          | (apply opv_eql_bool ty_bool <;> rfl)
          | (apply opv_neq_bool ty_bool <;> rfl)); rfl; rfl)
      | apply px_nil
      | (apply px_skip; rfl; rfl)
      | apply qseq_normal
      | apply qseq_ret
      | apply qseq_exit
      | apply pwp_block
      | apply qblock_normal
      | apply qblock_ret
      | (apply qblock_exit_same; rfl)
      | (apply qblock_exit_other; rfl)
      | apply pwp_skip
      | apply pwp_exit
      | apply pwp_ret
      | apply qround_ret
      | apply qround_exit
      | apply qonce_ret
      | apply qonce_exit
      | (apply pwp_cond_t; rfl)
      | (apply pwp_cond_f; rfl)
      | (apply pwp_region_mix; kernel_rfl; decide +kernel; exact Cl.stable _ _ _)
      | (apply pwp_region_draw; kernel_rfl; kernel_rfl; exact Cl.stable _ _ _)
      | (apply px_guard_ndec; rfl; rfl; rfl; all_goals (intro hc; try (first | contradiction | (exfalso; omega) | (exfalso; simp at hc; done))))
      | (apply px_guard_dec; rfl; rfl; rfl; all_goals (intro hc; try (first | contradiction | (exfalso; omega) | (exfalso; simp at hc; done))))
      | (apply px_guard_not; rfl; rfl; rfl; all_goals (intro hc; try (first | contradiction | (exfalso; omega) | (exfalso; simp at hc; done))))
      | (apply px_guard; rfl; rfl; rfl; all_goals (intro hc; (first | contradiction | (fail_if_success (cases hc); try (first | (exfalso; omega) | (exfalso; simp at hc; done))))))
      | (apply pwp_cond_ndec; rfl; all_goals (intro hc; try (first | contradiction | (exfalso; omega) | (exfalso; simp at hc; done))))
      | (apply pwp_cond_dec; rfl; all_goals (intro hc; try (first | contradiction | (exfalso; omega) | (exfalso; simp at hc; done))))
      | (apply pwp_cond_not; rfl; all_goals (intro hc; try (first | contradiction | (exfalso; omega) | (exfalso; simp at hc; done))))
      | (apply pwp_cond; rfl; all_goals (intro hc; try (first | contradiction | (exfalso; omega) | (exfalso; simp at hc; done))))
      | (apply px_box; rfl; rfl; rfl; rfl; intro bk))
    obtain rfl : t = n := by omega
    refine qbody_ret1 (v := .int _ _) rfl rfl ⟨rfl, fun _ h => h.below⟩
end Go.Proofs.Ytfphghmofeajcaa
