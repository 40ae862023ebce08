/- Slices of slices of ints: copies, sizes, comparisons. -/
import Derived.Test.YtpmeehkabaobkaaLa
import Derived.Test.YtpmeehkabaobkaaPwSS
namespace Go.Proofs.Ytpmeehkabaobkaa
open Go Go.RowKit Go.Pw
theorem en_l_eqIntSS : Entry Try.prog 27 := ⟨_, Try.func27, by kernel_rfl, rfl⟩
theorem eqIntSS_c (sa sb : Value) (A B : List (List Int)) (w : World) (ha : ArrL w sa A) (hb : ArrL w sb B) :
    Pure Try.prog 27 #[sa, sb] w (.bool (decide (A = B))) := by
  have h1 := ha.len
  have h2 := hb.len
  obtain ⟨ps, ⟨pA, pE⟩, rfl⟩ := ha.out
  obtain ⟨qs, ⟨qA, qE⟩, rfl⟩ := hb.out
  simp only [lssOf_length] at h1 h2
  refine pure_enter (args := [_, _]) en_l_eqIntSS Try.func27 rfl Try.ntmps27 rfl ?_
  repeat' (first
      | apply pwp_seq
      | apply pwp_region
      | (apply px_run; (first
          | (apply opv_move; first | exact hid_int rfl | exact hid_bool rfl | exact hid_ptr rfl | rfl)
          | (apply opv_assign; first | exact hid_int rfl | exact hid_bool rfl | exact hid_ptr rfl | rfl)
          | (apply opv_lss <;> rfl)
          | (apply opv_leq <;> rfl)
          | (apply opv_gtr <;> rfl)
          | (apply opv_geq <;> rfl)
          | (apply opv_eql <;> rfl)
          | (apply opv_neq <;> rfl)
          | (apply opv_and <;> rfl)
          | (apply opv_or <;> rfl)
          | (apply opv_xor <;> rfl)
          | (apply opv_andNot <;> rfl)
          | (apply opv_pick_t <;> rfl)
          | (apply opv_pick_f <;> rfl)
          | (apply opv_not_dec <;> rfl)
          | (apply opv_not <;> rfl)
          | (apply opv_neg <;> rfl)
          | (apply opv_add_in; rfl; rfl; omega)
          | (apply opv_sub_in; rfl; rfl; omega)
          | (apply opv_mul_in; rfl; rfl; omega)
          | (apply opv_shl; rfl; rfl; omega)
          | (apply opv_shr; rfl; rfl; omega)
          | (apply opv_quo; rfl; rfl; omega)
          | (apply opv_rem; rfl; rfl; omega)
          | (apply opv_field fld_G0; rfl)
          | (apply opv_field fld_G1; rfl)
          | (apply opv_load_blk 0; (first | with_reducible exact sc_int | with_reducible exact sc_ints); rfl; rfl; rfl)
          | (apply opv_load_blk 1; (first | with_reducible exact sc_int | with_reducible exact sc_ints); rfl; rfl; rfl)
          | (apply opv_load_blk 2; (first | with_reducible exact sc_int | with_reducible exact sc_ints); rfl; rfl; rfl)
          | (apply opv_load_blk 3; (first | with_reducible exact sc_int | with_reducible exact sc_ints); rfl; rfl; rfl)
          | (apply opv_load_blk 4; (first | with_reducible exact sc_int | with_reducible exact sc_ints); rfl; rfl; rfl)
          | (apply opv_load_ints sc_int; rfl; (first | exact rd_old (by assumption) | exact rd_row 0 rfl | exact rd_row 1 rfl | exact rd_row 2 rfl | exact rd_row 3 rfl | exact rd_row 4 rfl); (first | omega | (simp only [List.length_set]; omega)))
          | (apply opv_index_nat (vs := ints _) el_int; rfl; rfl; (first | exact rd_old (by assumption) | exact rd_row 0 rfl | exact rd_row 1 rfl | exact rd_row 2 rfl | exact rd_row 3 rfl | exact rd_row 4 rfl); (first | (simp only [ints_length]; omega) | (simp [ints]; omega)))
          | (apply opv_index (vs := ints _) el_int; rfl; rfl; (first | exact rd_old (by assumption) | exact rd_row 0 rfl | exact rd_row 1 rfl | exact rd_row 2 rfl | exact rd_row 3 rfl | exact rd_row 4 rfl); omega; (first | (simp only [ints_length]; omega) | (simp [ints]; omega)))
          | (apply opv_len_ints el_int; rfl; (first | exact rd_old (by assumption) | exact rd_row 0 rfl | exact rd_row 1 rfl | exact rd_row 2 rfl | exact rd_row 3 rfl | exact rd_row 4 rfl))
          | (apply opv_load_str 0 st_G; rfl; rfl; rfl)
          | (apply opv_load_str 1 st_G; rfl; rfl; rfl)
          | (apply opv_load_str 2 st_G; rfl; rfl; rfl)
          | (apply opv_load_str 3 st_G; rfl; rfl; rfl)
          | (apply opv_load_str 4 st_G; rfl; rfl; rfl)
          | (apply opv_load_svs sc_ints; rfl; (first | exact rd_old (by assumption) | exact rd_row 0 rfl | exact rd_row 1 rfl | exact rd_row 2 rfl | exact rd_row 3 rfl | exact rd_row 4 rfl); omega)
          | (apply opv_index_nat (vs := svsOf _) el_intss; rfl; rfl; (first | exact rd_old (by assumption) | exact rd_row 0 rfl | exact rd_row 1 rfl | exact rd_row 2 rfl | exact rd_row 3 rfl | exact rd_row 4 rfl); (simp only [svsOf_length]; omega))
          | (apply opv_len_svs el_intss; rfl; (first | exact rd_old (by assumption) | exact rd_row 0 rfl | exact rd_row 1 rfl | exact rd_row 2 rfl | exact rd_row 3 rfl | exact rd_row 4 rfl))
          | (apply opv_add <;> rfl)
          | (apply opv_sub <;> rfl)
          | (apply opv_mul <;> rfl)
          | (apply opv_eql_bool ty_bool <;> rfl)
          | (apply opv_neq_bool ty_bool <;> rfl)); rfl; rfl)
      | apply px_nil
      | (apply px_skip; rfl; rfl)
      | apply qseq_normal
      | apply qseq_ret
      | apply qseq_exit
      | apply pwp_block
      | apply qblock_normal
      | apply qblock_ret
      | (apply qblock_exit_same; rfl)
      | (apply qblock_exit_other; rfl)
      | apply pwp_skip
      | apply pwp_exit
      | apply pwp_ret
      | apply qround_ret
      | apply qround_exit
      | apply qonce_ret
      | apply qonce_exit
      | (apply pwp_cond_t; rfl)
      | (apply pwp_cond_f; rfl)
      | (apply pwp_region_mix; kernel_rfl; decide +kernel; exact Cl.stable _ _ _)
      | (apply pwp_region_draw; kernel_rfl; kernel_rfl; exact Cl.stable _ _ _)
      | (apply px_guard_ndec; rfl; rfl; rfl; all_goals (intro hc; try (first | contradiction | (exfalso; omega) | (exfalso; simp at hc; done))))
      | (apply px_guard_dec; rfl; rfl; rfl; all_goals (intro hc; try (first | contradiction | (exfalso; omega) | (exfalso; simp at hc; done))))
      | (apply px_guard_not; rfl; rfl; rfl; all_goals (intro hc; try (first | contradiction | (exfalso; omega) | (exfalso; simp at hc; done))))
      | (apply px_guard; rfl; rfl; rfl; all_goals (intro hc; (first | contradiction | (fail_if_success (cases hc); try (first | (exfalso; omega) | (exfalso; simp at hc; done))))))
      | (apply pwp_cond_ndec; rfl; all_goals (intro hc; try (first | contradiction | (exfalso; omega) | (exfalso; simp at hc; done))))
      | (apply pwp_cond_dec; rfl; all_goals (intro hc; try (first | contradiction | (exfalso; omega) | (exfalso; simp at hc; done))))
      | (apply pwp_cond_not; rfl; all_goals (intro hc; try (first | contradiction | (exfalso; omega) | (exfalso; simp at hc; done))))
      | (apply pwp_cond; rfl; all_goals (intro hc; try (first | contradiction | (exfalso; omega) | (exfalso; simp at hc; done))))
      | (apply px_box; rfl; rfl; rfl; rfl; intro bk))
  · refine qbody_ret1 (v := .bool _) rfl rfl ⟨ret_false rfl fun h => hc (by have := congrArg List.length h; simp at this; omega), fun _ h => h.below⟩
  have hl : ps.length = qs.length := by omega
  refine pwp_loop (τ := Nat) [(4,5), (11,26)] (fun k => [(5, .int .i64 (k : Int))]) (fun _ => Cl [] w []) (fun k => k ≤ ps.length ∧ (lssOf ps).take k = (lssOf qs).take k) (fun k => ps.length - k) 0
    ⟨rfl, trivial⟩ ⟨Nat.zero_le _, by simp⟩ (fun _ h => h) (fun J k hi => ?_)
  obtain ⟨hk, he⟩ := hi
  by_cases hlt : k < ps.length
  · have hrow := pE k hlt
    have hrow' := qE k (by omega)
    have hlt' : k < qs.length := by omega
    repeat' (first
        | apply pwp_seq
        | apply pwp_region
        | (apply px_run; (first
            | (apply opv_move; first | exact hid_int rfl | exact hid_bool rfl | exact hid_ptr rfl | rfl)
            | (apply opv_assign; first | exact hid_int rfl | exact hid_bool rfl | exact hid_ptr rfl | rfl)
            | (apply opv_lss <;> rfl)
            | (apply opv_leq <;> rfl)
            | (apply opv_gtr <;> rfl)
            | (apply opv_geq <;> rfl)
            | (apply opv_eql <;> rfl)
            | (apply opv_neq <;> rfl)
            | (apply opv_and <;> rfl)
            | (apply opv_or <;> rfl)
            | (apply opv_xor <;> rfl)
            | (apply opv_andNot <;> rfl)
            | (apply opv_pick_t <;> rfl)
            | (apply opv_pick_f <;> rfl)
            | (apply opv_not_dec <;> rfl)
            | (apply opv_not <;> rfl)
            | (apply opv_neg <;> rfl)
            | (apply opv_add_in; rfl; rfl; omega)
            | (apply opv_sub_in; rfl; rfl; omega)
            | (apply opv_mul_in; rfl; rfl; omega)
            | (apply opv_shl; rfl; rfl; omega)
            | (apply opv_shr; rfl; rfl; omega)
            | (apply opv_quo; rfl; rfl; omega)
            | (apply opv_rem; rfl; rfl; omega)
            | (apply opv_field fld_G0; rfl)
            | (apply opv_field fld_G1; rfl)
            | (apply opv_load_blk 0; (first | with_reducible exact sc_int | with_reducible exact sc_ints); rfl; rfl; rfl)
            | (apply opv_load_blk 1; (first | with_reducible exact sc_int | with_reducible exact sc_ints); rfl; rfl; rfl)
            | (apply opv_load_blk 2; (first | with_reducible exact sc_int | with_reducible exact sc_ints); rfl; rfl; rfl)
            | (apply opv_load_blk 3; (first | with_reducible exact sc_int | with_reducible exact sc_ints); rfl; rfl; rfl)
            | (apply opv_load_blk 4; (first | with_reducible exact sc_int | with_reducible exact sc_ints); rfl; rfl; rfl)
            | (apply opv_load_ints sc_int; rfl; (first | exact rd_old (by assumption) | exact rd_row 0 rfl | exact rd_row 1 rfl | exact rd_row 2 rfl | exact rd_row 3 rfl | exact rd_row 4 rfl); (first | omega | (simp only [List.length_set]; omega)))
            | (apply opv_index_nat (vs := ints _) el_int; rfl; rfl; (first | exact rd_old (by assumption) | exact rd_row 0 rfl | exact rd_row 1 rfl | exact rd_row 2 rfl | exact rd_row 3 rfl | exact rd_row 4 rfl); (first | (simp only [ints_length]; omega) | (simp [ints]; omega)))
            | (apply opv_index (vs := ints _) el_int; rfl; rfl; (first | exact rd_old (by assumption) | exact rd_row 0 rfl | exact rd_row 1 rfl | exact rd_row 2 rfl | exact rd_row 3 rfl | exact rd_row 4 rfl); omega; (first | (simp only [ints_length]; omega) | (simp [ints]; omega)))
            | (apply opv_len_ints el_int; rfl; (first | exact rd_old (by assumption) | exact rd_row 0 rfl | exact rd_row 1 rfl | exact rd_row 2 rfl | exact rd_row 3 rfl | exact rd_row 4 rfl))
            | (apply opv_load_str 0 st_G; rfl; rfl; rfl)
            | (apply opv_load_str 1 st_G; rfl; rfl; rfl)
            | (apply opv_load_str 2 st_G; rfl; rfl; rfl)
            | (apply opv_load_str 3 st_G; rfl; rfl; rfl)
            | (apply opv_load_str 4 st_G; rfl; rfl; rfl)
            | (apply opv_load_svs sc_ints; rfl; (first | exact rd_old (by assumption) | exact rd_row 0 rfl | exact rd_row 1 rfl | exact rd_row 2 rfl | exact rd_row 3 rfl | exact rd_row 4 rfl); omega)
            | (apply opv_index_nat (vs := svsOf _) el_intss; rfl; rfl; (first | exact rd_old (by assumption) | exact rd_row 0 rfl | exact rd_row 1 rfl | exact rd_row 2 rfl | exact rd_row 3 rfl | exact rd_row 4 rfl); (simp only [svsOf_length]; omega))
            | (apply opv_len_svs el_intss; rfl; (first | exact rd_old (by assumption) | exact rd_row 0 rfl | exact rd_row 1 rfl | exact rd_row 2 rfl | exact rd_row 3 rfl | exact rd_row 4 rfl))
            | (apply opv_call; rfl; rfl; exact Cl.stable _ _ _; exact fun w hw => eqIntS_c _ _ (lsAt ps k) (lsAt qs k) _ (hw.arr hrow) (hw.arr hrow'))
            | (apply opv_add <;> rfl)
            | (apply opv_sub <;> rfl)
            | (apply opv_mul <;> rfl)
            | (apply opv_eql_bool ty_bool <;> rfl)
            | (apply opv_neq_bool ty_bool <;> rfl)); rfl; rfl)
        | apply px_nil
        | (apply px_skip; rfl; rfl)
        | apply qseq_normal
        | apply qseq_ret
        | apply qseq_exit
        | apply pwp_block
        | apply qblock_normal
        | apply qblock_ret
        | (apply qblock_exit_same; rfl)
        | (apply qblock_exit_other; rfl)
        | apply pwp_skip
        | apply pwp_exit
        | apply pwp_ret
        | apply qround_ret
        | apply qround_exit
        | apply qonce_ret
        | apply qonce_exit
        | (apply pwp_cond_t; rfl)
        | (apply pwp_cond_f; rfl)
        | (apply pwp_region_mix; kernel_rfl; decide +kernel; exact Cl.stable _ _ _)
        | (apply pwp_region_draw; kernel_rfl; kernel_rfl; exact Cl.stable _ _ _)
        | (apply px_guard_ndec; rfl; rfl; rfl; all_goals (intro hc; try (first | contradiction | (exfalso; omega) | (exfalso; simp at hc; done))))
        | (apply px_guard_dec; rfl; rfl; rfl; all_goals (intro hc; try (first | contradiction | (exfalso; omega) | (exfalso; simp at hc; done))))
        | (apply px_guard_not; rfl; rfl; rfl; all_goals (intro hc; try (first | contradiction | (exfalso; omega) | (exfalso; simp at hc; done))))
        | (apply px_guard; rfl; rfl; rfl; all_goals (intro hc; (first | contradiction | (fail_if_success (cases hc); try (first | (exfalso; omega) | (exfalso; simp at hc; done))))))
        | (apply pwp_cond_ndec; rfl; all_goals (intro hc; try (first | contradiction | (exfalso; omega) | (exfalso; simp at hc; done))))
        | (apply pwp_cond_dec; rfl; all_goals (intro hc; try (first | contradiction | (exfalso; omega) | (exfalso; simp at hc; done))))
        | (apply pwp_cond_not; rfl; all_goals (intro hc; try (first | contradiction | (exfalso; omega) | (exfalso; simp at hc; done))))
        | (apply pwp_cond; rfl; all_goals (intro hc; try (first | contradiction | (exfalso; omega) | (exfalso; simp at hc; done))))
        | (apply px_box; rfl; rfl; rfl; rfl; intro bk))
    · refine qbody_ret1 (v := .bool _) rfl rfl ⟨ret_false rfl fun h => hc ?_, fun _ h => h.below⟩
      have h3 := lss_get hlt
      rw [h, lss_get hlt'] at h3
      exact (Option.some.inj h3).symm
    · refine qround_normal ?_ ⟨k + 1, ⟨rfl, trivial⟩, ⟨by omega, ?_⟩, by omega, fun _ h => h⟩
      · repeat (first | exact same_refl | refine same_upd rfl ?_ | refine same_junk rfl ?_)
      · rw [lss_take hlt, lss_take hlt', he, hc]
  · repeat' (first
      | apply pwp_seq
      | apply pwp_region
      | (apply px_run; (first
          | (apply opv_move; first | exact hid_int rfl | exact hid_bool rfl | exact hid_ptr rfl | rfl)
          | (apply opv_assign; first | exact hid_int rfl | exact hid_bool rfl | exact hid_ptr rfl | rfl)
          | (apply opv_lss <;> rfl)
          | (apply opv_leq <;> rfl)
          | (apply opv_gtr <;> rfl)
          | (apply opv_geq <;> rfl)
          | (apply opv_eql <;> rfl)
          | (apply opv_neq <;> rfl)
          | (apply opv_and <;> rfl)
          | (apply opv_or <;> rfl)
          | (apply opv_xor <;> rfl)
          | (apply opv_andNot <;> rfl)
          | (apply opv_pick_t <;> rfl)
          | (apply opv_pick_f <;> rfl)
          | (apply opv_not_dec <;> rfl)
          | (apply opv_not <;> rfl)
          | (apply opv_neg <;> rfl)
          | (apply opv_add_in; rfl; rfl; omega)
          | (apply opv_sub_in; rfl; rfl; omega)
          | (apply opv_mul_in; rfl; rfl; omega)
          | (apply opv_shl; rfl; rfl; omega)
          | (apply opv_shr; rfl; rfl; omega)
          | (apply opv_quo; rfl; rfl; omega)
          | (apply opv_rem; rfl; rfl; omega)
          | (apply opv_field fld_G0; rfl)
          | (apply opv_field fld_G1; rfl)
          | (apply opv_load_blk 0; (first | with_reducible exact sc_int | with_reducible exact sc_ints); rfl; rfl; rfl)
          | (apply opv_load_blk 1; (first | with_reducible exact sc_int | with_reducible exact sc_ints); rfl; rfl; rfl)
          | (apply opv_load_blk 2; (first | with_reducible exact sc_int | with_reducible exact sc_ints); rfl; rfl; rfl)
          | (apply opv_load_blk 3; (first | with_reducible exact sc_int | with_reducible exact sc_ints); rfl; rfl; rfl)
          | (apply opv_load_blk 4; (first | with_reducible exact sc_int | with_reducible exact sc_ints); rfl; rfl; rfl)
          | (apply opv_load_ints sc_int; rfl; (first | exact rd_old (by assumption) | exact rd_row 0 rfl | exact rd_row 1 rfl | exact rd_row 2 rfl | exact rd_row 3 rfl | exact rd_row 4 rfl); (first | omega | (simp only [List.length_set]; omega)))
          | (apply opv_index_nat (vs := ints _) el_int; rfl; rfl; (first | exact rd_old (by assumption) | exact rd_row 0 rfl | exact rd_row 1 rfl | exact rd_row 2 rfl | exact rd_row 3 rfl | exact rd_row 4 rfl); (first | (simp only [ints_length]; omega) | (simp [ints]; omega)))
          | (apply opv_index (vs := ints _) el_int; rfl; rfl; (first | exact rd_old (by assumption) | exact rd_row 0 rfl | exact rd_row 1 rfl | exact rd_row 2 rfl | exact rd_row 3 rfl | exact rd_row 4 rfl); omega; (first | (simp only [ints_length]; omega) | (simp [ints]; omega)))
          | (apply opv_len_ints el_int; rfl; (first | exact rd_old (by assumption) | exact rd_row 0 rfl | exact rd_row 1 rfl | exact rd_row 2 rfl | exact rd_row 3 rfl | exact rd_row 4 rfl))
          | (apply opv_load_str 0 st_G; rfl; rfl; rfl)
          | (apply opv_load_str 1 st_G; rfl; rfl; rfl)
          | (apply opv_load_str 2 st_G; rfl; rfl; rfl)
          | (apply opv_load_str 3 st_G; rfl; rfl; rfl)
          | (apply opv_load_str 4 st_G; rfl; rfl; rfl)
          | (apply opv_load_svs sc_ints; rfl; (first | exact rd_old (by assumption) | exact rd_row 0 rfl | exact rd_row 1 rfl | exact rd_row 2 rfl | exact rd_row 3 rfl | exact rd_row 4 rfl); omega)
          | (apply opv_index_nat (vs := svsOf _) el_intss; rfl; rfl; (first | exact rd_old (by assumption) | exact rd_row 0 rfl | exact rd_row 1 rfl | exact rd_row 2 rfl | exact rd_row 3 rfl | exact rd_row 4 rfl); (simp only [svsOf_length]; omega))
          | (apply opv_len_svs el_intss; rfl; (first | exact rd_old (by assumption) | exact rd_row 0 rfl | exact rd_row 1 rfl | exact rd_row 2 rfl | exact rd_row 3 rfl | exact rd_row 4 rfl))
          | (apply opv_add <;> rfl)
          | (apply opv_sub <;> rfl)
          | (apply opv_mul <;> rfl)
          | (apply opv_eql_bool ty_bool <;> rfl)
          | (apply opv_neq_bool ty_bool <;> rfl)); rfl; rfl)
      | apply px_nil
      | (apply px_skip; rfl; rfl)
      | apply qseq_normal
      | apply qseq_ret
      | apply qseq_exit
      | apply pwp_block
      | apply qblock_normal
      | apply qblock_ret
      | (apply qblock_exit_same; rfl)
      | (apply qblock_exit_other; rfl)
      | apply pwp_skip
      | apply pwp_exit
      | apply pwp_ret
      | apply qround_ret
      | apply qround_exit
      | apply qonce_ret
      | apply qonce_exit
      | (apply pwp_cond_t; rfl)
      | (apply pwp_cond_f; rfl)
      | (apply pwp_region_mix; kernel_rfl; decide +kernel; exact Cl.stable _ _ _)
      | (apply pwp_region_draw; kernel_rfl; kernel_rfl; exact Cl.stable _ _ _)
      | (apply px_guard_ndec; rfl; rfl; rfl; all_goals (intro hc; try (first | contradiction | (exfalso; omega) | (exfalso; simp at hc; done))))
      | (apply px_guard_dec; rfl; rfl; rfl; all_goals (intro hc; try (first | contradiction | (exfalso; omega) | (exfalso; simp at hc; done))))
      | (apply px_guard_not; rfl; rfl; rfl; all_goals (intro hc; try (first | contradiction | (exfalso; omega) | (exfalso; simp at hc; done))))
      | (apply px_guard; rfl; rfl; rfl; all_goals (intro hc; (first | contradiction | (fail_if_success (cases hc); try (first | (exfalso; omega) | (exfalso; simp at hc; done))))))
      | (apply pwp_cond_ndec; rfl; all_goals (intro hc; try (first | contradiction | (exfalso; omega) | (exfalso; simp at hc; done))))
      | (apply pwp_cond_dec; rfl; all_goals (intro hc; try (first | contradiction | (exfalso; omega) | (exfalso; simp at hc; done))))
      | (apply pwp_cond_not; rfl; all_goals (intro hc; try (first | contradiction | (exfalso; omega) | (exfalso; simp at hc; done))))
      | (apply pwp_cond; rfl; all_goals (intro hc; try (first | contradiction | (exfalso; omega) | (exfalso; simp at hc; done))))
      | (apply px_box; rfl; rfl; rfl; rfl; intro bk))
    refine qbody_ret1 (v := .bool _) rfl rfl ⟨ret_true rfl ?_, fun _ h => h.below⟩
    obtain rfl : k = ps.length := by omega
    rwa [List.take_of_length_le (by simp), List.take_of_length_le (by simp; omega)] at he
end Go.Proofs.Ytpmeehkabaobkaa
