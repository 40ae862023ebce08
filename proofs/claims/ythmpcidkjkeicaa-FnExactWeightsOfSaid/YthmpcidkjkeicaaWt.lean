/- Threshold weights found. -/
import Derived.Test.YthmpcidkjkeicaaTh
import Derived.Test.YthmpcidkjkeicaaPwPwt
namespace Go.Proofs.Ythmpcidkjkeicaa
open Go Go.RowKit Go.Pw

theorem en_i_WeightsOf : Entry Try.prog 44 := ⟨_, Try.func44, by kernel_rfl, rfl⟩
set_option maxHeartbeats 4000000 in
theorem i_WeightsOf_c (size : Int) (gv : Value) (rows : List Int) (w : World) (hr : Arr w gv (ints rows)) :
    Gives Try.prog 44 #[.agg #[.int .i64 size, gv]] w (fun v objs => ∃ sv, v = .tuple #[sv, .int .i64 (wtL size rows), .bool (thrX size rows).isSome] ∧ objs = [.row 3 sv (ints (wtW size rows))]) := by
  refine gives_enter (args := [_]) en_i_WeightsOf Try.func44 rfl Try.ntmps44 rfl ?_
  cases hX : thrX size rows with
  | none =>
    have hto := fun w' h => i_ThresholdOrder_c size gv rows w' h
    rw [hX] at hto
    have h1 : wtW size rows = [] := by unfold wtW; rw [hX]; rfl
    have h2 : wtL size rows = 0 := by unfold wtL; rw [hX]; rfl
    rw [h1, h2]
    repeat' (first
        | apply pwp_seq
        | apply pwp_region
        | (apply px_run; (first
            | (apply opv_move; first | exact hid_int rfl | exact hid_bool rfl | exact hid_ptr rfl | rfl)
            | (apply opv_assign; first | exact hid_int rfl | exact hid_bool rfl | exact hid_ptr rfl | rfl)
            | (apply opv_lss <;> rfl)
            | (apply opv_leq <;> rfl)
            | (apply opv_gtr <;> rfl)
            | (apply opv_geq <;> rfl)
            | (apply opv_eql <;> rfl)
            | (apply opv_neq <;> rfl)
            | (apply opv_and <;> rfl)
            | (apply opv_or <;> rfl)
            | (apply opv_xor <;> rfl)
            | (apply opv_andNot <;> rfl)
            | (apply opv_pick_t <;> rfl)
            | (apply opv_pick_f <;> rfl)
            | (apply opv_not_dec <;> rfl)
            | (apply opv_not <;> rfl)
            | (apply opv_neg <;> rfl)
            | (apply opv_add_in; rfl; rfl; omega)
            | (apply opv_sub_in; rfl; rfl; omega)
            | (apply opv_mul_in; rfl; rfl; omega)
            | (apply opv_shl; rfl; rfl; omega)
            | (apply opv_shr; rfl; rfl; omega)
            | (apply opv_quo; rfl; rfl; omega)
            | (apply opv_rem; rfl; rfl; omega)
            | (apply opv_field fld_G0; rfl)
            | (apply opv_field fld_G1; rfl)
            | (apply opv_load_blk 0; (first | exact sc_int | exact sc_ints); rfl; rfl; rfl)
            | (apply opv_load_blk 1; (first | exact sc_int | exact sc_ints); rfl; rfl; rfl)
            | (apply opv_load_blk 2; (first | exact sc_int | exact sc_ints); rfl; rfl; rfl)
            | (apply opv_load_blk 3; (first | exact sc_int | exact sc_ints); rfl; rfl; rfl)
            | (apply opv_load_blk 4; (first | exact sc_int | exact sc_ints); rfl; rfl; rfl)
            | (apply opv_load_ints sc_int; rfl; (first | exact rd_old (by assumption) | exact rd_row 0 rfl | exact rd_row 1 rfl | exact rd_row 2 rfl | exact rd_row 3 rfl | exact rd_row 4 rfl); omega)
            | (apply opv_index_nat (vs := ints _) el_int; rfl; rfl; (first | exact rd_old (by assumption) | exact rd_row 0 rfl | exact rd_row 1 rfl | exact rd_row 2 rfl | exact rd_row 3 rfl | exact rd_row 4 rfl); (first | (simp only [ints_length]; omega) | (simp [ints]; omega)))
            | (apply opv_index (vs := ints _) el_int; rfl; rfl; (first | exact rd_old (by assumption) | exact rd_row 0 rfl | exact rd_row 1 rfl | exact rd_row 2 rfl | exact rd_row 3 rfl | exact rd_row 4 rfl); omega; (first | (simp only [ints_length]; omega) | (simp [ints]; omega)))
            | (apply opv_len_ints el_int; rfl; (first | exact rd_old (by assumption) | exact rd_row 0 rfl | exact rd_row 1 rfl | exact rd_row 2 rfl | exact rd_row 3 rfl | exact rd_row 4 rfl))
            | (apply opv_load_str 0 st_G; rfl; rfl; rfl)
            | (apply opv_load_str 1 st_G; rfl; rfl; rfl)
            | (apply opv_load_str 2 st_G; rfl; rfl; rfl)
            | (apply opv_load_str 3 st_G; rfl; rfl; rfl)
            | (apply opv_load_str 4 st_G; rfl; rfl; rfl)
            | (apply opv_extract; rfl; rfl)
            | (apply opv_add <;> rfl)
            | (apply opv_sub <;> rfl)
            | (apply opv_mul <;> rfl)
            | (apply opv_eql_bool ty_bool <;> rfl)
            | (apply opv_neq_bool ty_bool <;> rfl)); rfl; rfl)
        | apply px_nil
        | (apply px_skip; rfl; rfl)
        | apply qseq_normal
        | apply qseq_ret
        | apply qseq_exit
        | apply pwp_block
        | apply qblock_normal
        | apply qblock_ret
        | (apply qblock_exit_same; rfl)
        | (apply qblock_exit_other; rfl)
        | apply pwp_skip
        | apply pwp_exit
        | apply pwp_ret
        | apply qround_ret
        | apply qround_exit
        | apply qonce_ret
        | apply qonce_exit
        | (apply pwp_cond_t; rfl)
        | (apply pwp_cond_f; rfl)
        | (apply pwp_region_mix; kernel_rfl; decide +kernel; exact Cl.stable _ _ _)
        | (apply pwp_region_draw; kernel_rfl; kernel_rfl; exact Cl.stable _ _ _)
        | (apply px_guard_ndec; rfl; rfl; rfl; all_goals (intro hc; try (first | contradiction | (exfalso; omega) | (exfalso; simp at hc; done))))
        | (apply px_guard_dec; rfl; rfl; rfl; all_goals (intro hc; try (first | contradiction | (exfalso; omega) | (exfalso; simp at hc; done))))
        | (apply px_guard_not; rfl; rfl; rfl; all_goals (intro hc; try (first | contradiction | (exfalso; omega) | (exfalso; simp at hc; done))))
        | (apply px_guard; rfl; rfl; rfl; all_goals (intro hc; (first | contradiction | (fail_if_success (cases hc); try (first | (exfalso; omega) | (exfalso; simp at hc; done))))))
        | (apply pwp_cond_ndec; rfl; all_goals (intro hc; try (first | contradiction | (exfalso; omega) | (exfalso; simp at hc; done))))
        | (apply pwp_cond_dec; rfl; all_goals (intro hc; try (first | contradiction | (exfalso; omega) | (exfalso; simp at hc; done))))
        | (apply pwp_cond_not; rfl; all_goals (intro hc; try (first | contradiction | (exfalso; omega) | (exfalso; simp at hc; done))))
        | (apply pwp_cond; rfl; all_goals (intro hc; try (first | contradiction | (exfalso; omega) | (exfalso; simp at hc; done))))
        | (apply px_box; rfl; rfl; rfl; rfl; intro bk)
        | (apply px_gives; rfl; rfl; rfl; rfl; rfl; exact fun w hw => hto _ (by first | exact hw.arr (by assumption) | exact hw.rowArr (k := 0) rfl | exact hw.rowArr (k := 1) rfl | exact hw.rowArr (k := 2) rfl | exact hw.rowArr (k := 3) rfl | exact hw.rowArr (k := 4) rfl | exact hw.rowArr (k := 5) rfl | exact hw.rowArr (k := 6) rfl | exact hw.rowArr (k := 7) rfl | exact hw.rowArr (k := 8) rfl | exact hw.rowArr (k := 9) rfl | exact hw.rowArr (k := 10) rfl | exact hw.rowArr (k := 11) rfl | exact hw.rowArr (k := 12) rfl | exact hw.rowArr (k := 13) rfl | exact hw.rowArr (k := 14) rfl | exact hw.rowArr (k := 15) rfl | exact hw.rowArr (k := 16) rfl | exact hw.rowArr (k := 17) rfl | exact hw.rowArr (k := 18) rfl | exact hw.rowArr (k := 19) rfl); rintro _ _ ⟨s1, s2, rfl, rfl⟩))
    refine qbody_ret3 rfl rfl rfl rfl ⟨_, ⟨_, rfl, rfl⟩, fun w' h => ?_⟩
    exact (h.sub (List.nil_sublist _)).nilRow _
  | some p =>
    have hto := fun w' h => i_ThresholdOrder_c size gv rows w' h
    rw [hX] at hto
    have hg : IsG size rows := by
      apply Classical.byContradiction
      intro hg
      rw [thrX_none hg] at hX; cases hX
    obtain ⟨n, hn, hrl, hn1, hn7⟩ := isG_size hg
    subst hn
    have hn : (n : Int) = n := rfl
    obtain ⟨ho1, ho2, ho3⟩ := thr_order hg hn hX
    have hlen := (thr_lengths (n : Int) rows).1
    have h1 : wtW (n : Int) rows = (wtU n (thrO (n : Int) rows) (thrJ (n : Int) rows) (thrO (n : Int) rows).length).1 := by unfold wtW; rw [hX]; rfl
    have h2 : wtL (n : Int) rows = (wtU n (thrO (n : Int) rows) (thrJ (n : Int) rows) (thrO (n : Int) rows).length).2 := by unfold wtL; rw [hX]; rfl
    rw [h1, h2]
    generalize thrO (n : Int) rows = o at *
    generalize thrJ (n : Int) rows = j at *
    repeat' (first
        | apply pwp_seq
        | apply pwp_region
        | (apply px_run; (first
            | (apply opv_move; first | exact hid_int rfl | exact hid_bool rfl | exact hid_ptr rfl | rfl)
            | (apply opv_assign; first | exact hid_int rfl | exact hid_bool rfl | exact hid_ptr rfl | rfl)
            | (apply opv_lss <;> rfl)
            | (apply opv_leq <;> rfl)
            | (apply opv_gtr <;> rfl)
            | (apply opv_geq <;> rfl)
            | (apply opv_eql <;> rfl)
            | (apply opv_neq <;> rfl)
            | (apply opv_and <;> rfl)
            | (apply opv_or <;> rfl)
            | (apply opv_xor <;> rfl)
            | (apply opv_andNot <;> rfl)
            | (apply opv_pick_t <;> rfl)
            | (apply opv_pick_f <;> rfl)
            | (apply opv_not_dec <;> rfl)
            | (apply opv_not <;> rfl)
            | (apply opv_neg <;> rfl)
            | (apply opv_add_in; rfl; rfl; omega)
            | (apply opv_sub_in; rfl; rfl; omega)
            | (apply opv_mul_in; rfl; rfl; omega)
            | (apply opv_shl; rfl; rfl; omega)
            | (apply opv_shr; rfl; rfl; omega)
            | (apply opv_quo; rfl; rfl; omega)
            | (apply opv_rem; rfl; rfl; omega)
            | (apply opv_field fld_G0; rfl)
            | (apply opv_field fld_G1; rfl)
            | (apply opv_load_blk 0; (first | exact sc_int | exact sc_ints); rfl; rfl; rfl)
            | (apply opv_load_blk 1; (first | exact sc_int | exact sc_ints); rfl; rfl; rfl)
            | (apply opv_load_blk 2; (first | exact sc_int | exact sc_ints); rfl; rfl; rfl)
            | (apply opv_load_blk 3; (first | exact sc_int | exact sc_ints); rfl; rfl; rfl)
            | (apply opv_load_blk 4; (first | exact sc_int | exact sc_ints); rfl; rfl; rfl)
            | (apply opv_load_ints sc_int; rfl; (first | exact rd_old (by assumption) | exact rd_row 0 rfl | exact rd_row 1 rfl | exact rd_row 2 rfl | exact rd_row 3 rfl | exact rd_row 4 rfl); omega)
            | (apply opv_index_nat (vs := ints _) el_int; rfl; rfl; (first | exact rd_old (by assumption) | exact rd_row 0 rfl | exact rd_row 1 rfl | exact rd_row 2 rfl | exact rd_row 3 rfl | exact rd_row 4 rfl); (first | (simp only [ints_length]; omega) | (simp [ints]; omega)))
            | (apply opv_index (vs := ints _) el_int; rfl; rfl; (first | exact rd_old (by assumption) | exact rd_row 0 rfl | exact rd_row 1 rfl | exact rd_row 2 rfl | exact rd_row 3 rfl | exact rd_row 4 rfl); omega; (first | (simp only [ints_length]; omega) | (simp [ints]; omega)))
            | (apply opv_len_ints el_int; rfl; (first | exact rd_old (by assumption) | exact rd_row 0 rfl | exact rd_row 1 rfl | exact rd_row 2 rfl | exact rd_row 3 rfl | exact rd_row 4 rfl))
            | (apply opv_load_str 0 st_G; rfl; rfl; rfl)
            | (apply opv_load_str 1 st_G; rfl; rfl; rfl)
            | (apply opv_load_str 2 st_G; rfl; rfl; rfl)
            | (apply opv_load_str 3 st_G; rfl; rfl; rfl)
            | (apply opv_load_str 4 st_G; rfl; rfl; rfl)
            | (apply opv_extract; rfl; rfl)
            | (apply opv_add <;> rfl)
            | (apply opv_sub <;> rfl)
            | (apply opv_mul <;> rfl)
            | (apply opv_eql_bool ty_bool <;> rfl)
            | (apply opv_neq_bool ty_bool <;> rfl)); rfl; rfl)
        | apply px_nil
        | (apply px_skip; rfl; rfl)
        | apply qseq_normal
        | apply qseq_ret
        | apply qseq_exit
        | apply pwp_block
        | apply qblock_normal
        | apply qblock_ret
        | (apply qblock_exit_same; rfl)
        | (apply qblock_exit_other; rfl)
        | apply pwp_skip
        | apply pwp_exit
        | apply pwp_ret
        | apply qround_ret
        | apply qround_exit
        | apply qonce_ret
        | apply qonce_exit
        | (apply pwp_cond_t; rfl)
        | (apply pwp_cond_f; rfl)
        | (apply pwp_region_mix; kernel_rfl; decide +kernel; exact Cl.stable _ _ _)
        | (apply pwp_region_draw; kernel_rfl; kernel_rfl; exact Cl.stable _ _ _)
        | (apply px_guard_ndec; rfl; rfl; rfl; all_goals (intro hc; try (first | contradiction | (exfalso; omega) | (exfalso; simp at hc; done))))
        | (apply px_guard_dec; rfl; rfl; rfl; all_goals (intro hc; try (first | contradiction | (exfalso; omega) | (exfalso; simp at hc; done))))
        | (apply px_guard_not; rfl; rfl; rfl; all_goals (intro hc; try (first | contradiction | (exfalso; omega) | (exfalso; simp at hc; done))))
        | (apply px_guard; rfl; rfl; rfl; all_goals (intro hc; (first | contradiction | (fail_if_success (cases hc); try (first | (exfalso; omega) | (exfalso; simp at hc; done))))))
        | (apply pwp_cond_ndec; rfl; all_goals (intro hc; try (first | contradiction | (exfalso; omega) | (exfalso; simp at hc; done))))
        | (apply pwp_cond_dec; rfl; all_goals (intro hc; try (first | contradiction | (exfalso; omega) | (exfalso; simp at hc; done))))
        | (apply pwp_cond_not; rfl; all_goals (intro hc; try (first | contradiction | (exfalso; omega) | (exfalso; simp at hc; done))))
        | (apply pwp_cond; rfl; all_goals (intro hc; try (first | contradiction | (exfalso; omega) | (exfalso; simp at hc; done))))
        | (apply px_box; rfl; rfl; rfl; rfl; intro bk)
        | (apply px_make ez_int; rfl; rfl; rfl; rfl; rfl; omega; (simp only [maxLen]; omega); intro sv)
        | (apply px_gives; rfl; rfl; rfl; rfl; rfl; exact fun w hw => hto _ (by first | exact hw.arr (by assumption) | exact hw.rowArr (k := 0) rfl | exact hw.rowArr (k := 1) rfl | exact hw.rowArr (k := 2) rfl | exact hw.rowArr (k := 3) rfl | exact hw.rowArr (k := 4) rfl | exact hw.rowArr (k := 5) rfl | exact hw.rowArr (k := 6) rfl | exact hw.rowArr (k := 7) rfl | exact hw.rowArr (k := 8) rfl | exact hw.rowArr (k := 9) rfl | exact hw.rowArr (k := 10) rfl | exact hw.rowArr (k := 11) rfl | exact hw.rowArr (k := 12) rfl | exact hw.rowArr (k := 13) rfl | exact hw.rowArr (k := 14) rfl | exact hw.rowArr (k := 15) rfl | exact hw.rowArr (k := 16) rfl | exact hw.rowArr (k := 17) rfl | exact hw.rowArr (k := 18) rfl | exact hw.rowArr (k := 19) rfl); rintro _ _ ⟨s1, s2, rfl, rfl⟩))
    refine pwp_loop (τ := Nat) [(9,11), (13,13), (27,58)] (fun i => [(27, .int .i64 (i : Int)), (9, .int .i64 (wtU n o j i).2)]) (fun i => Cl [] w [.row 3 sv (ints (wtU n o j i).1), .row 3 s1 (ints o), .row 4 s2 (bools j), .blk bk [.int .i64 (n : Int), gv]]) (fun i => i ≤ o.length) (fun i => o.length - i) 0
      ⟨rfl, rfl, trivial⟩ (Nat.zero_le _) (fun _ h => by simpa [ints, wtU] using h) (fun J i hi => ?_)
    obtain ⟨hw1, hw2, hw3⟩ := wtU_spec n o j i
    have hi129 : (i : Int) ≤ 129 := by omega
    have hq : (1000 : Int) * i * i ≤ 1000 * 129 * 129 := Int.mul_le_mul (by omega) hi129 (by omega) (by omega)
    by_cases hlt : i < o.length
    · obtain ⟨q1, q2⟩ := ho1 i hlt
      have hsucc : wtU n o j (i + 1) = if j.getD i false = true then ((wtU n o j i).1.set (o.getD i 0).toNat ((wtU n o j i).2 + 1), (wtU n o j i).2) else (incU o (wtU n o j i).1 i, (wtU n o j i).2 + 2) := rfl
      repeat' (first
          | apply pwp_seq
          | apply pwp_region
          | (apply px_run; (first
              | (apply opv_move; first | exact hid_int rfl | exact hid_bool rfl | exact hid_ptr rfl | rfl)
              | (apply opv_assign; first | exact hid_int rfl | exact hid_bool rfl | exact hid_ptr rfl | rfl)
              | (apply opv_lss <;> rfl)
              | (apply opv_leq <;> rfl)
              | (apply opv_gtr <;> rfl)
              | (apply opv_geq <;> rfl)
              | (apply opv_eql <;> rfl)
              | (apply opv_neq <;> rfl)
              | (apply opv_and <;> rfl)
              | (apply opv_or <;> rfl)
              | (apply opv_xor <;> rfl)
              | (apply opv_andNot <;> rfl)
              | (apply opv_pick_t <;> rfl)
              | (apply opv_pick_f <;> rfl)
              | (apply opv_not_dec <;> rfl)
              | (apply opv_not <;> rfl)
              | (apply opv_neg <;> rfl)
              | (apply opv_add_in; rfl; rfl; omega)
              | (apply opv_sub_in; rfl; rfl; omega)
              | (apply opv_mul_in; rfl; rfl; omega)
              | (apply opv_shl; rfl; rfl; omega)
              | (apply opv_shr; rfl; rfl; omega)
              | (apply opv_quo; rfl; rfl; omega)
              | (apply opv_rem; rfl; rfl; omega)
              | (apply opv_field fld_G0; rfl)
              | (apply opv_field fld_G1; rfl)
              | (apply opv_load_blk 0; (first | exact sc_int | exact sc_ints); rfl; rfl; rfl)
              | (apply opv_load_blk 1; (first | exact sc_int | exact sc_ints); rfl; rfl; rfl)
              | (apply opv_load_blk 2; (first | exact sc_int | exact sc_ints); rfl; rfl; rfl)
              | (apply opv_load_blk 3; (first | exact sc_int | exact sc_ints); rfl; rfl; rfl)
              | (apply opv_load_blk 4; (first | exact sc_int | exact sc_ints); rfl; rfl; rfl)
              | (apply opv_load_blk 5; (first | exact sc_int | exact sc_ints); rfl; rfl; rfl)
              | (apply opv_load_ints sc_int; rfl; (first | exact rd_old (by assumption) | exact rd_row 0 rfl | exact rd_row 1 rfl | exact rd_row 2 rfl | exact rd_row 3 rfl | exact rd_row 4 rfl | exact rd_row 5 rfl | exact rd_take (rd_old (by assumption)) (by omega) | exact rd_take (rd_row 0 rfl) (by omega) | exact rd_take (rd_row 1 rfl) (by omega) | exact rd_take (rd_row 2 rfl) (by omega) | exact rd_take (rd_row 3 rfl) (by omega) | exact rd_take (rd_row 4 rfl) (by omega) | exact rd_take (rd_row 5 rfl) (by omega)); omega)
              | (apply opv_index_nat (vs := ints _) el_int; rfl; rfl; (first | exact rd_old (by assumption) | exact rd_row 0 rfl | exact rd_row 1 rfl | exact rd_row 2 rfl | exact rd_row 3 rfl | exact rd_row 4 rfl | exact rd_row 5 rfl | exact rd_take (rd_old (by assumption)) (by omega) | exact rd_take (rd_row 0 rfl) (by omega) | exact rd_take (rd_row 1 rfl) (by omega) | exact rd_take (rd_row 2 rfl) (by omega) | exact rd_take (rd_row 3 rfl) (by omega) | exact rd_take (rd_row 4 rfl) (by omega) | exact rd_take (rd_row 5 rfl) (by omega)); (first | (simp only [ints_length]; omega) | (simp [ints]; omega)))
              | (apply opv_index (vs := ints _) el_int; rfl; rfl; (first | exact rd_old (by assumption) | exact rd_row 0 rfl | exact rd_row 1 rfl | exact rd_row 2 rfl | exact rd_row 3 rfl | exact rd_row 4 rfl | exact rd_row 5 rfl | exact rd_take (rd_old (by assumption)) (by omega) | exact rd_take (rd_row 0 rfl) (by omega) | exact rd_take (rd_row 1 rfl) (by omega) | exact rd_take (rd_row 2 rfl) (by omega) | exact rd_take (rd_row 3 rfl) (by omega) | exact rd_take (rd_row 4 rfl) (by omega) | exact rd_take (rd_row 5 rfl) (by omega)); omega; (first | (simp only [ints_length]; omega) | (simp [ints]; omega)))
              | (apply opv_len_ints el_int; rfl; (first | exact rd_old (by assumption) | exact rd_row 0 rfl | exact rd_row 1 rfl | exact rd_row 2 rfl | exact rd_row 3 rfl | exact rd_row 4 rfl | exact rd_row 5 rfl | exact rd_take (rd_old (by assumption)) (by omega) | exact rd_take (rd_row 0 rfl) (by omega) | exact rd_take (rd_row 1 rfl) (by omega) | exact rd_take (rd_row 2 rfl) (by omega) | exact rd_take (rd_row 3 rfl) (by omega) | exact rd_take (rd_row 4 rfl) (by omega) | exact rd_take (rd_row 5 rfl) (by omega)))
              | (apply opv_load_str 0 st_G; rfl; rfl; rfl)
              | (apply opv_load_str 1 st_G; rfl; rfl; rfl)
              | (apply opv_load_str 2 st_G; rfl; rfl; rfl)
              | (apply opv_load_str 3 st_G; rfl; rfl; rfl)
              | (apply opv_load_str 4 st_G; rfl; rfl; rfl)
              | (apply opv_load_str 5 st_G; rfl; rfl; rfl)
              | (apply opv_load_bools sc_bool; rfl; (first | exact rd_old (by assumption) | exact rd_row 0 rfl | exact rd_row 1 rfl | exact rd_row 2 rfl | exact rd_row 3 rfl | exact rd_row 4 rfl | exact rd_row 5 rfl | exact rd_take (rd_old (by assumption)) (by omega) | exact rd_take (rd_row 0 rfl) (by omega) | exact rd_take (rd_row 1 rfl) (by omega) | exact rd_take (rd_row 2 rfl) (by omega) | exact rd_take (rd_row 3 rfl) (by omega) | exact rd_take (rd_row 4 rfl) (by omega) | exact rd_take (rd_row 5 rfl) (by omega)); (first | omega | (simp only [bools_length] at *; omega)))
              | (apply opv_index_nat (vs := bools _) el_bool; rfl; rfl; (first | exact rd_old (by assumption) | exact rd_row 0 rfl | exact rd_row 1 rfl | exact rd_row 2 rfl | exact rd_row 3 rfl | exact rd_row 4 rfl | exact rd_row 5 rfl | exact rd_take (rd_old (by assumption)) (by omega) | exact rd_take (rd_row 0 rfl) (by omega) | exact rd_take (rd_row 1 rfl) (by omega) | exact rd_take (rd_row 2 rfl) (by omega) | exact rd_take (rd_row 3 rfl) (by omega) | exact rd_take (rd_row 4 rfl) (by omega) | exact rd_take (rd_row 5 rfl) (by omega)); (first | (simp only [bools_length]; omega) | (simp; omega)))
              | (apply opv_index (vs := bools _) el_bool; rfl; rfl; (first | exact rd_old (by assumption) | exact rd_row 0 rfl | exact rd_row 1 rfl | exact rd_row 2 rfl | exact rd_row 3 rfl | exact rd_row 4 rfl | exact rd_row 5 rfl | exact rd_take (rd_old (by assumption)) (by omega) | exact rd_take (rd_row 0 rfl) (by omega) | exact rd_take (rd_row 1 rfl) (by omega) | exact rd_take (rd_row 2 rfl) (by omega) | exact rd_take (rd_row 3 rfl) (by omega) | exact rd_take (rd_row 4 rfl) (by omega) | exact rd_take (rd_row 5 rfl) (by omega)); omega; (first | (simp only [bools_length]; omega) | (simp; omega)))
              | (apply opv_len_bools el_bool; rfl; (first | exact rd_old (by assumption) | exact rd_row 0 rfl | exact rd_row 1 rfl | exact rd_row 2 rfl | exact rd_row 3 rfl | exact rd_row 4 rfl | exact rd_row 5 rfl | exact rd_take (rd_old (by assumption)) (by omega) | exact rd_take (rd_row 0 rfl) (by omega) | exact rd_take (rd_row 1 rfl) (by omega) | exact rd_take (rd_row 2 rfl) (by omega) | exact rd_take (rd_row 3 rfl) (by omega) | exact rd_take (rd_row 4 rfl) (by omega) | exact rd_take (rd_row 5 rfl) (by omega)))
              | (apply opv_take el_int; rfl; rfl; (first | exact rd_old (by assumption) | exact rd_row 0 rfl | exact rd_row 1 rfl | exact rd_row 2 rfl | exact rd_row 3 rfl | exact rd_row 4 rfl | exact rd_row 5 rfl | exact rd_take (rd_old (by assumption)) (by omega) | exact rd_take (rd_row 0 rfl) (by omega) | exact rd_take (rd_row 1 rfl) (by omega) | exact rd_take (rd_row 2 rfl) (by omega) | exact rd_take (rd_row 3 rfl) (by omega) | exact rd_take (rd_row 4 rfl) (by omega) | exact rd_take (rd_row 5 rfl) (by omega)); (first | (simp only [ints_length]; omega) | (simp [ints]; omega)))
              | (apply opv_add <;> rfl)
              | (apply opv_sub <;> rfl)
              | (apply opv_mul <;> rfl)
              | (apply opv_eql_bool ty_bool <;> rfl)
              | (apply opv_neq_bool ty_bool <;> rfl)); rfl; rfl)
          | apply px_nil
          | (apply px_skip; rfl; rfl)
          | apply qseq_normal
          | apply qseq_ret
          | apply qseq_exit
          | apply pwp_block
          | apply qblock_normal
          | apply qblock_ret
          | (apply qblock_exit_same; rfl)
          | (apply qblock_exit_other; rfl)
          | apply pwp_skip
          | apply pwp_exit
          | apply pwp_ret
          | apply qround_ret
          | apply qround_exit
          | apply qonce_ret
          | apply qonce_exit
          | (apply pwp_cond_t; rfl)
          | (apply pwp_cond_f; rfl)
          | (apply pwp_region_mix; kernel_rfl; decide +kernel; exact Cl.stable _ _ _)
          | (apply pwp_region_draw; kernel_rfl; kernel_rfl; exact Cl.stable _ _ _)
          | (apply px_guard_ndec; rfl; rfl; rfl; all_goals (intro hc; try (first | contradiction | (exfalso; omega) | (exfalso; simp at hc; done))))
          | (apply px_guard_dec; rfl; rfl; rfl; all_goals (intro hc; try (first | contradiction | (exfalso; omega) | (exfalso; simp at hc; done))))
          | (apply px_guard_not; rfl; rfl; rfl; all_goals (intro hc; try (first | contradiction | (exfalso; omega) | (exfalso; simp at hc; done))))
          | (apply px_guard; rfl; rfl; rfl; all_goals (intro hc; (first | contradiction | (fail_if_success (cases hc); try (first | (exfalso; omega) | (exfalso; simp at hc; done))))))
          | (apply pwp_cond_ndec; rfl; all_goals (intro hc; try (first | contradiction | (exfalso; omega) | (exfalso; simp at hc; done))))
          | (apply pwp_cond_dec; rfl; all_goals (intro hc; try (first | contradiction | (exfalso; omega) | (exfalso; simp at hc; done))))
          | (apply pwp_cond_not; rfl; all_goals (intro hc; try (first | contradiction | (exfalso; omega) | (exfalso; simp at hc; done))))
          | (apply pwp_cond; rfl; all_goals (intro hc; try (first | contradiction | (exfalso; omega) | (exfalso; simp at hc; done))))
          | (apply px_box; rfl; rfl; rfl; rfl; intro bk)
          | (apply px_store_int 0 co_int; rfl; rfl; rfl; (first | omega | (simp; omega)); rfl)
          | (apply px_store_int 1 co_int; rfl; rfl; rfl; (first | omega | (simp; omega)); rfl)
          | (apply px_store_int 2 co_int; rfl; rfl; rfl; (first | omega | (simp; omega)); rfl)
          | (apply px_store_int 3 co_int; rfl; rfl; rfl; (first | omega | (simp; omega)); rfl)
          | (apply px_store_int 4 co_int; rfl; rfl; rfl; (first | omega | (simp; omega)); rfl))
      · have e : wtU n o j (i + 1) = ((wtU n o j i).1.set (o.getD i 0).toNat ((wtU n o j i).2 + 1), (wtU n o j i).2) := by rw [hsucc, if_pos hc]
        refine qround_normal ?_ ⟨i + 1, ⟨rfl, ?_, trivial⟩, by omega, by omega, fun w' h => ?_⟩
        · repeat (first | exact same_refl | refine same_upd rfl ?_ | refine same_junk rfl ?_)
        · show Value.int .i64 _ = .int .i64 _
          rw [e]
        · rw [e]
          exact Cl.sub (by assumption) (by repeat (first | exact List.Sublist.slnil | exact List.Sublist.refl _ | apply List.Sublist.cons_cons | apply List.Sublist.cons))
      · have e : wtU n o j (i + 1) = (incU o (wtU n o j i).1 i, (wtU n o j i).2 + 2) := by rw [hsucc, if_neg (by rw [hc]; exact Bool.false_ne_true)]
        have htl : (o.take i).length = i := by rw [List.length_take]; omega
        refine pwp_loop (τ := Nat) [(13,13), (45,55)] (fun k => [(45, .int .i64 (k : Int))]) (fun k => Cl [] w [.row 3 sv (ints (incU o (wtU n o j i).1 k)), .row 3 s1 (ints o), .row 4 s2 (bools j), .blk bk [.int .i64 (n : Int), gv]]) (fun k => k ≤ i) (fun k => i - k) 0
          ⟨rfl, trivial⟩ (Nat.zero_le _) (fun _ h => h) (fun J2 k hk => ?_)
        by_cases hki : k < i
        · obtain ⟨q3, q4⟩ := ho1 k (by omega)
          have hgt : (o.take i).getD k 0 = o.getD k 0 := by simp only [List.getD, List.getElem?_take]; rw [if_pos hki]
          have hil := incU_length o (wtU n o j i).1 k
          obtain ⟨q5, q6⟩ := incU_bound o (wtU n o j i).1 (1000 * i * i) hw3 k (o.getD k 0).toNat
          rw [← hgt] at q3 q4 q5 q6
          have hk129 : (k : Int) ≤ 129 := by omega
          have hst : incU o (wtU n o j i).1 (k + 1) = (incU o (wtU n o j i).1 k).set (o.getD k 0).toNat ((incU o (wtU n o j i).1 k).getD (o.getD k 0).toNat 0 + 1) := rfl
          rw [← hgt] at hst
          repeat' (first
              | apply pwp_seq
              | apply pwp_region
              | (apply px_run; (first
                  | (apply opv_move; first | exact hid_int rfl | exact hid_bool rfl | exact hid_ptr rfl | rfl)
                  | (apply opv_assign; first | exact hid_int rfl | exact hid_bool rfl | exact hid_ptr rfl | rfl)
                  | (apply opv_lss <;> rfl)
                  | (apply opv_leq <;> rfl)
                  | (apply opv_gtr <;> rfl)
                  | (apply opv_geq <;> rfl)
                  | (apply opv_eql <;> rfl)
                  | (apply opv_neq <;> rfl)
                  | (apply opv_and <;> rfl)
                  | (apply opv_or <;> rfl)
                  | (apply opv_xor <;> rfl)
                  | (apply opv_andNot <;> rfl)
                  | (apply opv_pick_t <;> rfl)
                  | (apply opv_pick_f <;> rfl)
                  | (apply opv_not_dec <;> rfl)
                  | (apply opv_not <;> rfl)
                  | (apply opv_neg <;> rfl)
                  | (apply opv_add_in; rfl; rfl; omega)
                  | (apply opv_sub_in; rfl; rfl; omega)
                  | (apply opv_mul_in; rfl; rfl; omega)
                  | (apply opv_shl; rfl; rfl; omega)
                  | (apply opv_shr; rfl; rfl; omega)
                  | (apply opv_quo; rfl; rfl; omega)
                  | (apply opv_rem; rfl; rfl; omega)
                  | (apply opv_field fld_G0; rfl)
                  | (apply opv_field fld_G1; rfl)
                  | (apply opv_load_blk 0; (first | exact sc_int | exact sc_ints); rfl; rfl; rfl)
                  | (apply opv_load_blk 1; (first | exact sc_int | exact sc_ints); rfl; rfl; rfl)
                  | (apply opv_load_blk 2; (first | exact sc_int | exact sc_ints); rfl; rfl; rfl)
                  | (apply opv_load_blk 3; (first | exact sc_int | exact sc_ints); rfl; rfl; rfl)
                  | (apply opv_load_blk 4; (first | exact sc_int | exact sc_ints); rfl; rfl; rfl)
                  | (apply opv_load_blk 5; (first | exact sc_int | exact sc_ints); rfl; rfl; rfl)
                  | (apply opv_load_ints sc_int; rfl; (first | exact rd_old (by assumption) | exact rd_row 0 rfl | exact rd_row 1 rfl | exact rd_row 2 rfl | exact rd_row 3 rfl | exact rd_row 4 rfl | exact rd_row 5 rfl | exact rd_take (rd_old (by assumption)) (by omega) | exact rd_take (rd_row 0 rfl) (by omega) | exact rd_take (rd_row 1 rfl) (by omega) | exact rd_take (rd_row 2 rfl) (by omega) | exact rd_take (rd_row 3 rfl) (by omega) | exact rd_take (rd_row 4 rfl) (by omega) | exact rd_take (rd_row 5 rfl) (by omega)); omega)
                  | (apply opv_index_nat (vs := ints _) el_int; rfl; rfl; (first | exact rd_old (by assumption) | exact rd_row 0 rfl | exact rd_row 1 rfl | exact rd_row 2 rfl | exact rd_row 3 rfl | exact rd_row 4 rfl | exact rd_row 5 rfl | exact rd_take (rd_old (by assumption)) (by omega) | exact rd_take (rd_row 0 rfl) (by omega) | exact rd_take (rd_row 1 rfl) (by omega) | exact rd_take (rd_row 2 rfl) (by omega) | exact rd_take (rd_row 3 rfl) (by omega) | exact rd_take (rd_row 4 rfl) (by omega) | exact rd_take (rd_row 5 rfl) (by omega)); (first | (simp only [ints_length]; omega) | (simp [ints]; omega)))
                  | (apply opv_index (vs := ints _) el_int; rfl; rfl; (first | exact rd_old (by assumption) | exact rd_row 0 rfl | exact rd_row 1 rfl | exact rd_row 2 rfl | exact rd_row 3 rfl | exact rd_row 4 rfl | exact rd_row 5 rfl | exact rd_take (rd_old (by assumption)) (by omega) | exact rd_take (rd_row 0 rfl) (by omega) | exact rd_take (rd_row 1 rfl) (by omega) | exact rd_take (rd_row 2 rfl) (by omega) | exact rd_take (rd_row 3 rfl) (by omega) | exact rd_take (rd_row 4 rfl) (by omega) | exact rd_take (rd_row 5 rfl) (by omega)); omega; (first | (simp only [ints_length]; omega) | (simp [ints]; omega)))
                  | (apply opv_len_ints el_int; rfl; (first | exact rd_old (by assumption) | exact rd_row 0 rfl | exact rd_row 1 rfl | exact rd_row 2 rfl | exact rd_row 3 rfl | exact rd_row 4 rfl | exact rd_row 5 rfl | exact rd_take (rd_old (by assumption)) (by omega) | exact rd_take (rd_row 0 rfl) (by omega) | exact rd_take (rd_row 1 rfl) (by omega) | exact rd_take (rd_row 2 rfl) (by omega) | exact rd_take (rd_row 3 rfl) (by omega) | exact rd_take (rd_row 4 rfl) (by omega) | exact rd_take (rd_row 5 rfl) (by omega)))
                  | (apply opv_load_str 0 st_G; rfl; rfl; rfl)
                  | (apply opv_load_str 1 st_G; rfl; rfl; rfl)
                  | (apply opv_load_str 2 st_G; rfl; rfl; rfl)
                  | (apply opv_load_str 3 st_G; rfl; rfl; rfl)
                  | (apply opv_load_str 4 st_G; rfl; rfl; rfl)
                  | (apply opv_load_str 5 st_G; rfl; rfl; rfl)
                  | (apply opv_take el_int; rfl; rfl; (first | exact rd_old (by assumption) | exact rd_row 0 rfl | exact rd_row 1 rfl | exact rd_row 2 rfl | exact rd_row 3 rfl | exact rd_row 4 rfl | exact rd_row 5 rfl | exact rd_take (rd_old (by assumption)) (by omega) | exact rd_take (rd_row 0 rfl) (by omega) | exact rd_take (rd_row 1 rfl) (by omega) | exact rd_take (rd_row 2 rfl) (by omega) | exact rd_take (rd_row 3 rfl) (by omega) | exact rd_take (rd_row 4 rfl) (by omega) | exact rd_take (rd_row 5 rfl) (by omega)); (first | (simp only [ints_length]; omega) | (simp [ints]; omega)))
                  | (apply opv_add <;> rfl)
                  | (apply opv_sub <;> rfl)
                  | (apply opv_mul <;> rfl)
                  | (apply opv_eql_bool ty_bool <;> rfl)
                  | (apply opv_neq_bool ty_bool <;> rfl)); rfl; rfl)
              | apply px_nil
              | (apply px_skip; rfl; rfl)
              | apply qseq_normal
              | apply qseq_ret
              | apply qseq_exit
              | apply pwp_block
              | apply qblock_normal
              | apply qblock_ret
              | (apply qblock_exit_same; rfl)
              | (apply qblock_exit_other; rfl)
              | apply pwp_skip
              | apply pwp_exit
              | apply pwp_ret
              | apply qround_ret
              | apply qround_exit
              | apply qonce_ret
              | apply qonce_exit
              | (apply pwp_cond_t; rfl)
              | (apply pwp_cond_f; rfl)
              | (apply pwp_region_mix; kernel_rfl; decide +kernel; exact Cl.stable _ _ _)
              | (apply pwp_region_draw; kernel_rfl; kernel_rfl; exact Cl.stable _ _ _)
              | (apply px_guard_ndec; rfl; rfl; rfl; all_goals (intro hc; try (first | contradiction | (exfalso; omega) | (exfalso; simp at hc; done))))
              | (apply px_guard_dec; rfl; rfl; rfl; all_goals (intro hc; try (first | contradiction | (exfalso; omega) | (exfalso; simp at hc; done))))
              | (apply px_guard_not; rfl; rfl; rfl; all_goals (intro hc; try (first | contradiction | (exfalso; omega) | (exfalso; simp at hc; done))))
              | (apply px_guard; rfl; rfl; rfl; all_goals (intro hc; (first | contradiction | (fail_if_success (cases hc); try (first | (exfalso; omega) | (exfalso; simp at hc; done))))))
              | (apply pwp_cond_ndec; rfl; all_goals (intro hc; try (first | contradiction | (exfalso; omega) | (exfalso; simp at hc; done))))
              | (apply pwp_cond_dec; rfl; all_goals (intro hc; try (first | contradiction | (exfalso; omega) | (exfalso; simp at hc; done))))
              | (apply pwp_cond_not; rfl; all_goals (intro hc; try (first | contradiction | (exfalso; omega) | (exfalso; simp at hc; done))))
              | (apply pwp_cond; rfl; all_goals (intro hc; try (first | contradiction | (exfalso; omega) | (exfalso; simp at hc; done))))
              | (apply px_box; rfl; rfl; rfl; rfl; intro bk)
              | (apply px_store_int 0 co_int; rfl; rfl; rfl; (first | omega | (simp; omega)); rfl)
              | (apply px_store_int 1 co_int; rfl; rfl; rfl; (first | omega | (simp; omega)); rfl)
              | (apply px_store_int 2 co_int; rfl; rfl; rfl; (first | omega | (simp; omega)); rfl)
              | (apply px_store_int 3 co_int; rfl; rfl; rfl; (first | omega | (simp; omega)); rfl)
              | (apply px_store_int 4 co_int; rfl; rfl; rfl; (first | omega | (simp; omega)); rfl))
          refine qround_normal ?_ ⟨k + 1, ⟨rfl, trivial⟩, by omega, by omega, fun w' h => ?_⟩
          · repeat (first | exact same_refl | refine same_upd rfl ?_ | refine same_junk rfl ?_)
          · rw [hst]; exact h
        · obtain rfl : k = i := by omega
          repeat' (first
              | apply pwp_seq
              | apply pwp_region
              | (apply px_run; (first
                  | (apply opv_move; first | exact hid_int rfl | exact hid_bool rfl | exact hid_ptr rfl | rfl)
                  | (apply opv_assign; first | exact hid_int rfl | exact hid_bool rfl | exact hid_ptr rfl | rfl)
                  | (apply opv_lss <;> rfl)
                  | (apply opv_leq <;> rfl)
                  | (apply opv_gtr <;> rfl)
                  | (apply opv_geq <;> rfl)
                  | (apply opv_eql <;> rfl)
                  | (apply opv_neq <;> rfl)
                  | (apply opv_and <;> rfl)
                  | (apply opv_or <;> rfl)
                  | (apply opv_xor <;> rfl)
                  | (apply opv_andNot <;> rfl)
                  | (apply opv_pick_t <;> rfl)
                  | (apply opv_pick_f <;> rfl)
                  | (apply opv_not_dec <;> rfl)
                  | (apply opv_not <;> rfl)
                  | (apply opv_neg <;> rfl)
                  | (apply opv_add_in; rfl; rfl; omega)
                  | (apply opv_sub_in; rfl; rfl; omega)
                  | (apply opv_mul_in; rfl; rfl; omega)
                  | (apply opv_shl; rfl; rfl; omega)
                  | (apply opv_shr; rfl; rfl; omega)
                  | (apply opv_quo; rfl; rfl; omega)
                  | (apply opv_rem; rfl; rfl; omega)
                  | (apply opv_field fld_G0; rfl)
                  | (apply opv_field fld_G1; rfl)
                  | (apply opv_load_blk 0; (first | exact sc_int | exact sc_ints); rfl; rfl; rfl)
                  | (apply opv_load_blk 1; (first | exact sc_int | exact sc_ints); rfl; rfl; rfl)
                  | (apply opv_load_blk 2; (first | exact sc_int | exact sc_ints); rfl; rfl; rfl)
                  | (apply opv_load_blk 3; (first | exact sc_int | exact sc_ints); rfl; rfl; rfl)
                  | (apply opv_load_blk 4; (first | exact sc_int | exact sc_ints); rfl; rfl; rfl)
                  | (apply opv_load_ints sc_int; rfl; (first | exact rd_old (by assumption) | exact rd_row 0 rfl | exact rd_row 1 rfl | exact rd_row 2 rfl | exact rd_row 3 rfl | exact rd_row 4 rfl | exact rd_take (rd_old (by assumption)) (by omega) | exact rd_take (rd_row 0 rfl) (by omega) | exact rd_take (rd_row 1 rfl) (by omega) | exact rd_take (rd_row 2 rfl) (by omega) | exact rd_take (rd_row 3 rfl) (by omega) | exact rd_take (rd_row 4 rfl) (by omega)); omega)
                  | (apply opv_index_nat (vs := ints _) el_int; rfl; rfl; (first | exact rd_old (by assumption) | exact rd_row 0 rfl | exact rd_row 1 rfl | exact rd_row 2 rfl | exact rd_row 3 rfl | exact rd_row 4 rfl | exact rd_take (rd_old (by assumption)) (by omega) | exact rd_take (rd_row 0 rfl) (by omega) | exact rd_take (rd_row 1 rfl) (by omega) | exact rd_take (rd_row 2 rfl) (by omega) | exact rd_take (rd_row 3 rfl) (by omega) | exact rd_take (rd_row 4 rfl) (by omega)); (first | (simp only [ints_length]; omega) | (simp [ints]; omega)))
                  | (apply opv_index (vs := ints _) el_int; rfl; rfl; (first | exact rd_old (by assumption) | exact rd_row 0 rfl | exact rd_row 1 rfl | exact rd_row 2 rfl | exact rd_row 3 rfl | exact rd_row 4 rfl | exact rd_take (rd_old (by assumption)) (by omega) | exact rd_take (rd_row 0 rfl) (by omega) | exact rd_take (rd_row 1 rfl) (by omega) | exact rd_take (rd_row 2 rfl) (by omega) | exact rd_take (rd_row 3 rfl) (by omega) | exact rd_take (rd_row 4 rfl) (by omega)); omega; (first | (simp only [ints_length]; omega) | (simp [ints]; omega)))
                  | (apply opv_len_ints el_int; rfl; (first | exact rd_old (by assumption) | exact rd_row 0 rfl | exact rd_row 1 rfl | exact rd_row 2 rfl | exact rd_row 3 rfl | exact rd_row 4 rfl | exact rd_take (rd_old (by assumption)) (by omega) | exact rd_take (rd_row 0 rfl) (by omega) | exact rd_take (rd_row 1 rfl) (by omega) | exact rd_take (rd_row 2 rfl) (by omega) | exact rd_take (rd_row 3 rfl) (by omega) | exact rd_take (rd_row 4 rfl) (by omega)))
                  | (apply opv_load_str 0 st_G; rfl; rfl; rfl)
                  | (apply opv_load_str 1 st_G; rfl; rfl; rfl)
                  | (apply opv_load_str 2 st_G; rfl; rfl; rfl)
                  | (apply opv_load_str 3 st_G; rfl; rfl; rfl)
                  | (apply opv_load_str 4 st_G; rfl; rfl; rfl)
                  | (apply opv_take el_int; rfl; rfl; (first | exact rd_old (by assumption) | exact rd_row 0 rfl | exact rd_row 1 rfl | exact rd_row 2 rfl | exact rd_row 3 rfl | exact rd_row 4 rfl | exact rd_take (rd_old (by assumption)) (by omega) | exact rd_take (rd_row 0 rfl) (by omega) | exact rd_take (rd_row 1 rfl) (by omega) | exact rd_take (rd_row 2 rfl) (by omega) | exact rd_take (rd_row 3 rfl) (by omega) | exact rd_take (rd_row 4 rfl) (by omega)); (first | (simp only [ints_length]; omega) | (simp [ints]; omega)))
                  | (apply opv_add <;> rfl)
                  | (apply opv_sub <;> rfl)
                  | (apply opv_mul <;> rfl)
                  | (apply opv_eql_bool ty_bool <;> rfl)
                  | (apply opv_neq_bool ty_bool <;> rfl)); rfl; rfl)
              | apply px_nil
              | (apply px_skip; rfl; rfl)
              | apply qseq_normal
              | apply qseq_ret
              | apply qseq_exit
              | apply pwp_block
              | apply qblock_normal
              | apply qblock_ret
              | (apply qblock_exit_same; rfl)
              | (apply qblock_exit_other; rfl)
              | apply pwp_skip
              | apply pwp_exit
              | apply pwp_ret
              | apply qround_ret
              | apply qround_exit
              | apply qonce_ret
              | apply qonce_exit
              | (apply pwp_cond_t; rfl)
              | (apply pwp_cond_f; rfl)
              | (apply pwp_region_mix; kernel_rfl; decide +kernel; exact Cl.stable _ _ _)
              | (apply pwp_region_draw; kernel_rfl; kernel_rfl; exact Cl.stable _ _ _)
              | (apply px_guard_ndec; rfl; rfl; rfl; all_goals (intro hc; try (first | contradiction | (exfalso; omega) | (exfalso; simp at hc; done))))
              | (apply px_guard_dec; rfl; rfl; rfl; all_goals (intro hc; try (first | contradiction | (exfalso; omega) | (exfalso; simp at hc; done))))
              | (apply px_guard_not; rfl; rfl; rfl; all_goals (intro hc; try (first | contradiction | (exfalso; omega) | (exfalso; simp at hc; done))))
              | (apply px_guard; rfl; rfl; rfl; all_goals (intro hc; (first | contradiction | (fail_if_success (cases hc); try (first | (exfalso; omega) | (exfalso; simp at hc; done))))))
              | (apply pwp_cond_ndec; rfl; all_goals (intro hc; try (first | contradiction | (exfalso; omega) | (exfalso; simp at hc; done))))
              | (apply pwp_cond_dec; rfl; all_goals (intro hc; try (first | contradiction | (exfalso; omega) | (exfalso; simp at hc; done))))
              | (apply pwp_cond_not; rfl; all_goals (intro hc; try (first | contradiction | (exfalso; omega) | (exfalso; simp at hc; done))))
              | (apply pwp_cond; rfl; all_goals (intro hc; try (first | contradiction | (exfalso; omega) | (exfalso; simp at hc; done))))
              | (apply px_box; rfl; rfl; rfl; rfl; intro bk))
          refine qround_normal ?_ ⟨k + 1, ⟨rfl, ?_, trivial⟩, by omega, by omega, fun w' h => ?_⟩
          · repeat (first | exact same_refl | refine same_upd rfl ?_ | refine same_junk rfl ?_)
          · show Value.int .i64 _ = .int .i64 _
            rw [e]
          · rw [e]
            exact Cl.sub (by assumption) (by repeat (first | exact List.Sublist.slnil | exact List.Sublist.refl _ | apply List.Sublist.cons_cons | apply List.Sublist.cons))
    · obtain rfl : i = o.length := by omega
      repeat' (first
          | apply pwp_seq
          | apply pwp_region
          | (apply px_run; (first
              | (apply opv_move; first | exact hid_int rfl | exact hid_bool rfl | exact hid_ptr rfl | rfl)
              | (apply opv_assign; first | exact hid_int rfl | exact hid_bool rfl | exact hid_ptr rfl | rfl)
              | (apply opv_lss <;> rfl)
              | (apply opv_leq <;> rfl)
              | (apply opv_gtr <;> rfl)
              | (apply opv_geq <;> rfl)
              | (apply opv_eql <;> rfl)
              | (apply opv_neq <;> rfl)
              | (apply opv_and <;> rfl)
              | (apply opv_or <;> rfl)
              | (apply opv_xor <;> rfl)
              | (apply opv_andNot <;> rfl)
              | (apply opv_pick_t <;> rfl)
              | (apply opv_pick_f <;> rfl)
              | (apply opv_not_dec <;> rfl)
              | (apply opv_not <;> rfl)
              | (apply opv_neg <;> rfl)
              | (apply opv_add_in; rfl; rfl; omega)
              | (apply opv_sub_in; rfl; rfl; omega)
              | (apply opv_mul_in; rfl; rfl; omega)
              | (apply opv_shl; rfl; rfl; omega)
              | (apply opv_shr; rfl; rfl; omega)
              | (apply opv_quo; rfl; rfl; omega)
              | (apply opv_rem; rfl; rfl; omega)
              | (apply opv_field fld_G0; rfl)
              | (apply opv_field fld_G1; rfl)
              | (apply opv_load_blk 0; (first | exact sc_int | exact sc_ints); rfl; rfl; rfl)
              | (apply opv_load_blk 1; (first | exact sc_int | exact sc_ints); rfl; rfl; rfl)
              | (apply opv_load_blk 2; (first | exact sc_int | exact sc_ints); rfl; rfl; rfl)
              | (apply opv_load_blk 3; (first | exact sc_int | exact sc_ints); rfl; rfl; rfl)
              | (apply opv_load_blk 4; (first | exact sc_int | exact sc_ints); rfl; rfl; rfl)
              | (apply opv_load_ints sc_int; rfl; (first | exact rd_old (by assumption) | exact rd_row 0 rfl | exact rd_row 1 rfl | exact rd_row 2 rfl | exact rd_row 3 rfl | exact rd_row 4 rfl); omega)
              | (apply opv_index_nat (vs := ints _) el_int; rfl; rfl; (first | exact rd_old (by assumption) | exact rd_row 0 rfl | exact rd_row 1 rfl | exact rd_row 2 rfl | exact rd_row 3 rfl | exact rd_row 4 rfl); (first | (simp only [ints_length]; omega) | (simp [ints]; omega)))
              | (apply opv_index (vs := ints _) el_int; rfl; rfl; (first | exact rd_old (by assumption) | exact rd_row 0 rfl | exact rd_row 1 rfl | exact rd_row 2 rfl | exact rd_row 3 rfl | exact rd_row 4 rfl); omega; (first | (simp only [ints_length]; omega) | (simp [ints]; omega)))
              | (apply opv_len_ints el_int; rfl; (first | exact rd_old (by assumption) | exact rd_row 0 rfl | exact rd_row 1 rfl | exact rd_row 2 rfl | exact rd_row 3 rfl | exact rd_row 4 rfl))
              | (apply opv_load_str 0 st_G; rfl; rfl; rfl)
              | (apply opv_load_str 1 st_G; rfl; rfl; rfl)
              | (apply opv_load_str 2 st_G; rfl; rfl; rfl)
              | (apply opv_load_str 3 st_G; rfl; rfl; rfl)
              | (apply opv_load_str 4 st_G; rfl; rfl; rfl)
              | (apply opv_add <;> rfl)
              | (apply opv_sub <;> rfl)
              | (apply opv_mul <;> rfl)
              | (apply opv_eql_bool ty_bool <;> rfl)
              | (apply opv_neq_bool ty_bool <;> rfl)); rfl; rfl)
          | apply px_nil
          | (apply px_skip; rfl; rfl)
          | apply qseq_normal
          | apply qseq_ret
          | apply qseq_exit
          | apply pwp_block
          | apply qblock_normal
          | apply qblock_ret
          | (apply qblock_exit_same; rfl)
          | (apply qblock_exit_other; rfl)
          | apply pwp_skip
          | apply pwp_exit
          | apply pwp_ret
          | apply qround_ret
          | apply qround_exit
          | apply qonce_ret
          | apply qonce_exit
          | (apply pwp_cond_t; rfl)
          | (apply pwp_cond_f; rfl)
          | (apply pwp_region_mix; kernel_rfl; decide +kernel; exact Cl.stable _ _ _)
          | (apply pwp_region_draw; kernel_rfl; kernel_rfl; exact Cl.stable _ _ _)
          | (apply px_guard_ndec; rfl; rfl; rfl; all_goals (intro hc; try (first | contradiction | (exfalso; omega) | (exfalso; simp at hc; done))))
          | (apply px_guard_dec; rfl; rfl; rfl; all_goals (intro hc; try (first | contradiction | (exfalso; omega) | (exfalso; simp at hc; done))))
          | (apply px_guard_not; rfl; rfl; rfl; all_goals (intro hc; try (first | contradiction | (exfalso; omega) | (exfalso; simp at hc; done))))
          | (apply px_guard; rfl; rfl; rfl; all_goals (intro hc; (first | contradiction | (fail_if_success (cases hc); try (first | (exfalso; omega) | (exfalso; simp at hc; done))))))
          | (apply pwp_cond_ndec; rfl; all_goals (intro hc; try (first | contradiction | (exfalso; omega) | (exfalso; simp at hc; done))))
          | (apply pwp_cond_dec; rfl; all_goals (intro hc; try (first | contradiction | (exfalso; omega) | (exfalso; simp at hc; done))))
          | (apply pwp_cond_not; rfl; all_goals (intro hc; try (first | contradiction | (exfalso; omega) | (exfalso; simp at hc; done))))
          | (apply pwp_cond; rfl; all_goals (intro hc; try (first | contradiction | (exfalso; omega) | (exfalso; simp at hc; done))))
          | (apply px_box; rfl; rfl; rfl; rfl; intro bk))
      refine qbody_ret3 rfl rfl rfl rfl ⟨_, ⟨_, rfl, rfl⟩, fun w' h => ?_⟩
      exact Cl.sub (by assumption) (by repeat (first | exact List.Sublist.slnil | exact List.Sublist.refl _ | apply List.Sublist.cons_cons | apply List.Sublist.cons))
theorem en_s_WeightsOf : Entry Try.prog 43 := ⟨_, Try.func43, by kernel_rfl, rfl⟩
set_option maxHeartbeats 4000000 in
theorem s_WeightsOf_c (size : Int) (gv : Value) (rows : List Int) (w : World) (hr : Arr w gv (ints rows)) :
    Gives Try.prog 43 #[.agg #[.int .i64 size, gv]] w (fun v objs => ∃ sv, v = .tuple #[sv, .int .i64 (wtL size rows), .bool (thrX size rows).isSome] ∧ objs = [.row 3 sv (ints (wtW size rows))]) := by
  refine gives_enter (args := [_]) en_s_WeightsOf Try.func43 rfl Try.ntmps43 rfl ?_
  cases hX : thrX size rows with
  | none =>
    have hto := fun w' h => s_ThresholdOrder_c size gv rows w' h
    rw [hX] at hto
    have h1 : wtW size rows = [] := by unfold wtW; rw [hX]; rfl
    have h2 : wtL size rows = 0 := by unfold wtL; rw [hX]; rfl
    rw [h1, h2]
    repeat' (first
        | apply pwp_seq
        | apply pwp_region
        | (apply px_run; (first
            | (apply opv_move; first | exact hid_int rfl | exact hid_bool rfl | exact hid_ptr rfl | rfl)
            | (apply opv_assign; first | exact hid_int rfl | exact hid_bool rfl | exact hid_ptr rfl | rfl)
            | (apply opv_lss <;> rfl)
            | (apply opv_leq <;> rfl)
            | (apply opv_gtr <;> rfl)
            | (apply opv_geq <;> rfl)
            | (apply opv_eql <;> rfl)
            | (apply opv_neq <;> rfl)
            | (apply opv_and <;> rfl)
            | (apply opv_or <;> rfl)
            | (apply opv_xor <;> rfl)
            | (apply opv_andNot <;> rfl)
            | (apply opv_pick_t <;> rfl)
            | (apply opv_pick_f <;> rfl)
            | (apply opv_not_dec <;> rfl)
            | (apply opv_not <;> rfl)
            | (apply opv_neg <;> rfl)
            | (apply opv_add_in; rfl; rfl; omega)
            | (apply opv_sub_in; rfl; rfl; omega)
            | (apply opv_mul_in; rfl; rfl; omega)
            | (apply opv_shl; rfl; rfl; omega)
            | (apply opv_shr; rfl; rfl; omega)
            | (apply opv_quo; rfl; rfl; omega)
            | (apply opv_rem; rfl; rfl; omega)
            | (apply opv_field fld_G0; rfl)
            | (apply opv_field fld_G1; rfl)
            | (apply opv_load_blk 0; (first | exact sc_int | exact sc_ints); rfl; rfl; rfl)
            | (apply opv_load_blk 1; (first | exact sc_int | exact sc_ints); rfl; rfl; rfl)
            | (apply opv_load_blk 2; (first | exact sc_int | exact sc_ints); rfl; rfl; rfl)
            | (apply opv_load_blk 3; (first | exact sc_int | exact sc_ints); rfl; rfl; rfl)
            | (apply opv_load_blk 4; (first | exact sc_int | exact sc_ints); rfl; rfl; rfl)
            | (apply opv_load_ints sc_int; rfl; (first | exact rd_old (by assumption) | exact rd_row 0 rfl | exact rd_row 1 rfl | exact rd_row 2 rfl | exact rd_row 3 rfl | exact rd_row 4 rfl); omega)
            | (apply opv_index_nat (vs := ints _) el_int; rfl; rfl; (first | exact rd_old (by assumption) | exact rd_row 0 rfl | exact rd_row 1 rfl | exact rd_row 2 rfl | exact rd_row 3 rfl | exact rd_row 4 rfl); (first | (simp only [ints_length]; omega) | (simp [ints]; omega)))
            | (apply opv_index (vs := ints _) el_int; rfl; rfl; (first | exact rd_old (by assumption) | exact rd_row 0 rfl | exact rd_row 1 rfl | exact rd_row 2 rfl | exact rd_row 3 rfl | exact rd_row 4 rfl); omega; (first | (simp only [ints_length]; omega) | (simp [ints]; omega)))
            | (apply opv_len_ints el_int; rfl; (first | exact rd_old (by assumption) | exact rd_row 0 rfl | exact rd_row 1 rfl | exact rd_row 2 rfl | exact rd_row 3 rfl | exact rd_row 4 rfl))
            | (apply opv_load_str 0 st_G; rfl; rfl; rfl)
            | (apply opv_load_str 1 st_G; rfl; rfl; rfl)
            | (apply opv_load_str 2 st_G; rfl; rfl; rfl)
            | (apply opv_load_str 3 st_G; rfl; rfl; rfl)
            | (apply opv_load_str 4 st_G; rfl; rfl; rfl)
            | (apply opv_extract; rfl; rfl)
            | (apply opv_add <;> rfl)
            | (apply opv_sub <;> rfl)
            | (apply opv_mul <;> rfl)
            | (apply opv_eql_bool ty_bool <;> rfl)
            | (apply opv_neq_bool ty_bool <;> rfl)); rfl; rfl)
        | apply px_nil
        | (apply px_skip; rfl; rfl)
        | apply qseq_normal
        | apply qseq_ret
        | apply qseq_exit
        | apply pwp_block
        | apply qblock_normal
        | apply qblock_ret
        | (apply qblock_exit_same; rfl)
        | (apply qblock_exit_other; rfl)
        | apply pwp_skip
        | apply pwp_exit
        | apply pwp_ret
        | apply qround_ret
        | apply qround_exit
        | apply qonce_ret
        | apply qonce_exit
        | (apply pwp_cond_t; rfl)
        | (apply pwp_cond_f; rfl)
        | (apply pwp_region_mix; kernel_rfl; decide +kernel; exact Cl.stable _ _ _)
        | (apply pwp_region_draw; kernel_rfl; kernel_rfl; exact Cl.stable _ _ _)
        | (apply px_guard_ndec; rfl; rfl; rfl; all_goals (intro hc; try (first | contradiction | (exfalso; omega) | (exfalso; simp at hc; done))))
        | (apply px_guard_dec; rfl; rfl; rfl; all_goals (intro hc; try (first | contradiction | (exfalso; omega) | (exfalso; simp at hc; done))))
        | (apply px_guard_not; rfl; rfl; rfl; all_goals (intro hc; try (first | contradiction | (exfalso; omega) | (exfalso; simp at hc; done))))
        | (apply px_guard; rfl; rfl; rfl; all_goals (intro hc; (first | contradiction | (fail_if_success (cases hc); try (first | (exfalso; omega) | (exfalso; simp at hc; done))))))
        | (apply pwp_cond_ndec; rfl; all_goals (intro hc; try (first | contradiction | (exfalso; omega) | (exfalso; simp at hc; done))))
        | (apply pwp_cond_dec; rfl; all_goals (intro hc; try (first | contradiction | (exfalso; omega) | (exfalso; simp at hc; done))))
        | (apply pwp_cond_not; rfl; all_goals (intro hc; try (first | contradiction | (exfalso; omega) | (exfalso; simp at hc; done))))
        | (apply pwp_cond; rfl; all_goals (intro hc; try (first | contradiction | (exfalso; omega) | (exfalso; simp at hc; done))))
        | (apply px_box; rfl; rfl; rfl; rfl; intro bk)
        | (apply px_lit0 ez_int; rfl; rfl; rfl; intro sv)
        | (apply px_gives; rfl; rfl; rfl; rfl; rfl; exact fun w hw => hto _ (by first | exact hw.arr (by assumption) | exact hw.rowArr (k := 0) rfl | exact hw.rowArr (k := 1) rfl | exact hw.rowArr (k := 2) rfl | exact hw.rowArr (k := 3) rfl | exact hw.rowArr (k := 4) rfl | exact hw.rowArr (k := 5) rfl | exact hw.rowArr (k := 6) rfl | exact hw.rowArr (k := 7) rfl | exact hw.rowArr (k := 8) rfl | exact hw.rowArr (k := 9) rfl | exact hw.rowArr (k := 10) rfl | exact hw.rowArr (k := 11) rfl | exact hw.rowArr (k := 12) rfl | exact hw.rowArr (k := 13) rfl | exact hw.rowArr (k := 14) rfl | exact hw.rowArr (k := 15) rfl | exact hw.rowArr (k := 16) rfl | exact hw.rowArr (k := 17) rfl | exact hw.rowArr (k := 18) rfl | exact hw.rowArr (k := 19) rfl); rintro _ _ ⟨s1, s2, rfl, rfl⟩))
    refine qbody_ret3 rfl rfl rfl rfl ⟨_, ⟨_, rfl, rfl⟩, fun w' h => ?_⟩
    exact Cl.sub (by assumption) (by repeat (first | exact List.Sublist.slnil | exact List.Sublist.refl _ | apply List.Sublist.cons_cons | apply List.Sublist.cons))
  | some p =>
    have hto := fun w' h => s_ThresholdOrder_c size gv rows w' h
    rw [hX] at hto
    have hg : IsG size rows := by
      apply Classical.byContradiction
      intro hg
      rw [thrX_none hg] at hX; cases hX
    obtain ⟨n, hn, hrl, hn1, hn7⟩ := isG_size hg
    subst hn
    have hn : (n : Int) = n := rfl
    obtain ⟨ho1, ho2, ho3⟩ := thr_order hg hn hX
    have hlen := (thr_lengths (n : Int) rows).1
    have h1 : wtW (n : Int) rows = (wtU n (thrO (n : Int) rows) (thrJ (n : Int) rows) (thrO (n : Int) rows).length).1 := by unfold wtW; rw [hX]; rfl
    have h2 : wtL (n : Int) rows = (wtU n (thrO (n : Int) rows) (thrJ (n : Int) rows) (thrO (n : Int) rows).length).2 := by unfold wtL; rw [hX]; rfl
    rw [h1, h2]
    generalize thrO (n : Int) rows = o at *
    generalize thrJ (n : Int) rows = j at *
    repeat' (first
        | apply pwp_seq
        | apply pwp_region
        | (apply px_run; (first
            | (apply opv_move; first | exact hid_int rfl | exact hid_bool rfl | exact hid_ptr rfl | rfl)
            | (apply opv_assign; first | exact hid_int rfl | exact hid_bool rfl | exact hid_ptr rfl | rfl)
            | (apply opv_lss <;> rfl)
            | (apply opv_leq <;> rfl)
            | (apply opv_gtr <;> rfl)
            | (apply opv_geq <;> rfl)
            | (apply opv_eql <;> rfl)
            | (apply opv_neq <;> rfl)
            | (apply opv_and <;> rfl)
            | (apply opv_or <;> rfl)
            | (apply opv_xor <;> rfl)
            | (apply opv_andNot <;> rfl)
            | (apply opv_pick_t <;> rfl)
            | (apply opv_pick_f <;> rfl)
            | (apply opv_not_dec <;> rfl)
            | (apply opv_not <;> rfl)
            | (apply opv_neg <;> rfl)
            | (apply opv_add_in; rfl; rfl; omega)
            | (apply opv_sub_in; rfl; rfl; omega)
            | (apply opv_mul_in; rfl; rfl; omega)
            | (apply opv_shl; rfl; rfl; omega)
            | (apply opv_shr; rfl; rfl; omega)
            | (apply opv_quo; rfl; rfl; omega)
            | (apply opv_rem; rfl; rfl; omega)
            | (apply opv_field fld_G0; rfl)
            | (apply opv_field fld_G1; rfl)
            | (apply opv_load_blk 0; (first | exact sc_int | exact sc_ints); rfl; rfl; rfl)
            | (apply opv_load_blk 1; (first | exact sc_int | exact sc_ints); rfl; rfl; rfl)
            | (apply opv_load_blk 2; (first | exact sc_int | exact sc_ints); rfl; rfl; rfl)
            | (apply opv_load_blk 3; (first | exact sc_int | exact sc_ints); rfl; rfl; rfl)
            | (apply opv_load_blk 4; (first | exact sc_int | exact sc_ints); rfl; rfl; rfl)
            | (apply opv_load_ints sc_int; rfl; (first | exact rd_old (by assumption) | exact rd_row 0 rfl | exact rd_row 1 rfl | exact rd_row 2 rfl | exact rd_row 3 rfl | exact rd_row 4 rfl); omega)
            | (apply opv_index_nat (vs := ints _) el_int; rfl; rfl; (first | exact rd_old (by assumption) | exact rd_row 0 rfl | exact rd_row 1 rfl | exact rd_row 2 rfl | exact rd_row 3 rfl | exact rd_row 4 rfl); (first | (simp only [ints_length]; omega) | (simp [ints]; omega)))
            | (apply opv_index (vs := ints _) el_int; rfl; rfl; (first | exact rd_old (by assumption) | exact rd_row 0 rfl | exact rd_row 1 rfl | exact rd_row 2 rfl | exact rd_row 3 rfl | exact rd_row 4 rfl); omega; (first | (simp only [ints_length]; omega) | (simp [ints]; omega)))
            | (apply opv_len_ints el_int; rfl; (first | exact rd_old (by assumption) | exact rd_row 0 rfl | exact rd_row 1 rfl | exact rd_row 2 rfl | exact rd_row 3 rfl | exact rd_row 4 rfl))
            | (apply opv_load_str 0 st_G; rfl; rfl; rfl)
            | (apply opv_load_str 1 st_G; rfl; rfl; rfl)
            | (apply opv_load_str 2 st_G; rfl; rfl; rfl)
            | (apply opv_load_str 3 st_G; rfl; rfl; rfl)
            | (apply opv_load_str 4 st_G; rfl; rfl; rfl)
            | (apply opv_extract; rfl; rfl)
            | (apply opv_add <;> rfl)
            | (apply opv_sub <;> rfl)
            | (apply opv_mul <;> rfl)
            | (apply opv_eql_bool ty_bool <;> rfl)
            | (apply opv_neq_bool ty_bool <;> rfl)); rfl; rfl)
        | apply px_nil
        | (apply px_skip; rfl; rfl)
        | apply qseq_normal
        | apply qseq_ret
        | apply qseq_exit
        | apply pwp_block
        | apply qblock_normal
        | apply qblock_ret
        | (apply qblock_exit_same; rfl)
        | (apply qblock_exit_other; rfl)
        | apply pwp_skip
        | apply pwp_exit
        | apply pwp_ret
        | apply qround_ret
        | apply qround_exit
        | apply qonce_ret
        | apply qonce_exit
        | (apply pwp_cond_t; rfl)
        | (apply pwp_cond_f; rfl)
        | (apply pwp_region_mix; kernel_rfl; decide +kernel; exact Cl.stable _ _ _)
        | (apply pwp_region_draw; kernel_rfl; kernel_rfl; exact Cl.stable _ _ _)
        | (apply px_guard_ndec; rfl; rfl; rfl; all_goals (intro hc; try (first | contradiction | (exfalso; omega) | (exfalso; simp at hc; done))))
        | (apply px_guard_dec; rfl; rfl; rfl; all_goals (intro hc; try (first | contradiction | (exfalso; omega) | (exfalso; simp at hc; done))))
        | (apply px_guard_not; rfl; rfl; rfl; all_goals (intro hc; try (first | contradiction | (exfalso; omega) | (exfalso; simp at hc; done))))
        | (apply px_guard; rfl; rfl; rfl; all_goals (intro hc; (first | contradiction | (fail_if_success (cases hc); try (first | (exfalso; omega) | (exfalso; simp at hc; done))))))
        | (apply pwp_cond_ndec; rfl; all_goals (intro hc; try (first | contradiction | (exfalso; omega) | (exfalso; simp at hc; done))))
        | (apply pwp_cond_dec; rfl; all_goals (intro hc; try (first | contradiction | (exfalso; omega) | (exfalso; simp at hc; done))))
        | (apply pwp_cond_not; rfl; all_goals (intro hc; try (first | contradiction | (exfalso; omega) | (exfalso; simp at hc; done))))
        | (apply pwp_cond; rfl; all_goals (intro hc; try (first | contradiction | (exfalso; omega) | (exfalso; simp at hc; done))))
        | (apply px_box; rfl; rfl; rfl; rfl; intro bk)
        | (apply px_make ez_int; rfl; rfl; rfl; rfl; rfl; omega; (simp only [maxLen]; omega); intro sv)
        | (apply px_gives; rfl; rfl; rfl; rfl; rfl; exact fun w hw => hto _ (by first | exact hw.arr (by assumption) | exact hw.rowArr (k := 0) rfl | exact hw.rowArr (k := 1) rfl | exact hw.rowArr (k := 2) rfl | exact hw.rowArr (k := 3) rfl | exact hw.rowArr (k := 4) rfl | exact hw.rowArr (k := 5) rfl | exact hw.rowArr (k := 6) rfl | exact hw.rowArr (k := 7) rfl | exact hw.rowArr (k := 8) rfl | exact hw.rowArr (k := 9) rfl | exact hw.rowArr (k := 10) rfl | exact hw.rowArr (k := 11) rfl | exact hw.rowArr (k := 12) rfl | exact hw.rowArr (k := 13) rfl | exact hw.rowArr (k := 14) rfl | exact hw.rowArr (k := 15) rfl | exact hw.rowArr (k := 16) rfl | exact hw.rowArr (k := 17) rfl | exact hw.rowArr (k := 18) rfl | exact hw.rowArr (k := 19) rfl); rintro _ _ ⟨s1, s2, rfl, rfl⟩))
    refine pwp_loop (τ := Nat) [(9,11), (24,68)] (fun i => [(10, .int .i64 (i : Int)), (9, .int .i64 (wtU n o j i).2)]) (fun i => Cl [] w [.row 3 sv (ints (wtU n o j i).1), .row 3 s1 (ints o), .row 4 s2 (bools j), .blk bk [.int .i64 (n : Int), gv]]) (fun i => i ≤ o.length) (fun i => o.length - i) 0
      ⟨rfl, rfl, trivial⟩ (Nat.zero_le _) (fun _ h => by simpa [ints, wtU] using h) (fun J i hi => ?_)
    obtain ⟨hw1, hw2, hw3⟩ := wtU_spec n o j i
    have hi129 : (i : Int) ≤ 129 := by omega
    have hq : (1000 : Int) * i * i ≤ 1000 * 129 * 129 := Int.mul_le_mul (by omega) hi129 (by omega) (by omega)
    by_cases hlt : i < o.length
    · obtain ⟨q1, q2⟩ := ho1 i hlt
      have hsucc : wtU n o j (i + 1) = if j.getD i false = true then ((wtU n o j i).1.set (o.getD i 0).toNat ((wtU n o j i).2 + 1), (wtU n o j i).2) else (incU o (wtU n o j i).1 i, (wtU n o j i).2 + 2) := rfl
      repeat' (first
          | apply pwp_seq
          | apply pwp_region
          | (apply px_run; (first
              | (apply opv_move; first | exact hid_int rfl | exact hid_bool rfl | exact hid_ptr rfl | rfl)
              | (apply opv_assign; first | exact hid_int rfl | exact hid_bool rfl | exact hid_ptr rfl | rfl)
              | (apply opv_lss <;> rfl)
              | (apply opv_leq <;> rfl)
              | (apply opv_gtr <;> rfl)
              | (apply opv_geq <;> rfl)
              | (apply opv_eql <;> rfl)
              | (apply opv_neq <;> rfl)
              | (apply opv_and <;> rfl)
              | (apply opv_or <;> rfl)
              | (apply opv_xor <;> rfl)
              | (apply opv_andNot <;> rfl)
              | (apply opv_pick_t <;> rfl)
              | (apply opv_pick_f <;> rfl)
              | (apply opv_not_dec <;> rfl)
              | (apply opv_not <;> rfl)
              | (apply opv_neg <;> rfl)
              | (apply opv_add_in; rfl; rfl; omega)
              | (apply opv_sub_in; rfl; rfl; omega)
              | (apply opv_mul_in; rfl; rfl; omega)
              | (apply opv_shl; rfl; rfl; omega)
              | (apply opv_shr; rfl; rfl; omega)
              | (apply opv_quo; rfl; rfl; omega)
              | (apply opv_rem; rfl; rfl; omega)
              | (apply opv_field fld_G0; rfl)
              | (apply opv_field fld_G1; rfl)
              | (apply opv_load_blk 0; (first | exact sc_int | exact sc_ints); rfl; rfl; rfl)
              | (apply opv_load_blk 1; (first | exact sc_int | exact sc_ints); rfl; rfl; rfl)
              | (apply opv_load_blk 2; (first | exact sc_int | exact sc_ints); rfl; rfl; rfl)
              | (apply opv_load_blk 3; (first | exact sc_int | exact sc_ints); rfl; rfl; rfl)
              | (apply opv_load_blk 4; (first | exact sc_int | exact sc_ints); rfl; rfl; rfl)
              | (apply opv_load_blk 5; (first | exact sc_int | exact sc_ints); rfl; rfl; rfl)
              | (apply opv_load_ints sc_int; rfl; (first | exact rd_old (by assumption) | exact rd_row 0 rfl | exact rd_row 1 rfl | exact rd_row 2 rfl | exact rd_row 3 rfl | exact rd_row 4 rfl | exact rd_row 5 rfl); omega)
              | (apply opv_index_nat (vs := ints _) el_int; rfl; rfl; (first | exact rd_old (by assumption) | exact rd_row 0 rfl | exact rd_row 1 rfl | exact rd_row 2 rfl | exact rd_row 3 rfl | exact rd_row 4 rfl | exact rd_row 5 rfl); (first | (simp only [ints_length]; omega) | (simp [ints]; omega)))
              | (apply opv_index (vs := ints _) el_int; rfl; rfl; (first | exact rd_old (by assumption) | exact rd_row 0 rfl | exact rd_row 1 rfl | exact rd_row 2 rfl | exact rd_row 3 rfl | exact rd_row 4 rfl | exact rd_row 5 rfl); omega; (first | (simp only [ints_length]; omega) | (simp [ints]; omega)))
              | (apply opv_len_ints el_int; rfl; (first | exact rd_old (by assumption) | exact rd_row 0 rfl | exact rd_row 1 rfl | exact rd_row 2 rfl | exact rd_row 3 rfl | exact rd_row 4 rfl | exact rd_row 5 rfl))
              | (apply opv_load_str 0 st_G; rfl; rfl; rfl)
              | (apply opv_load_str 1 st_G; rfl; rfl; rfl)
              | (apply opv_load_str 2 st_G; rfl; rfl; rfl)
              | (apply opv_load_str 3 st_G; rfl; rfl; rfl)
              | (apply opv_load_str 4 st_G; rfl; rfl; rfl)
              | (apply opv_load_str 5 st_G; rfl; rfl; rfl)
              | (apply opv_load_bools sc_bool; rfl; (first | exact rd_old (by assumption) | exact rd_row 0 rfl | exact rd_row 1 rfl | exact rd_row 2 rfl | exact rd_row 3 rfl | exact rd_row 4 rfl | exact rd_row 5 rfl); (first | omega | (simp only [bools_length] at *; omega)))
              | (apply opv_index_nat (vs := bools _) el_bool; rfl; rfl; (first | exact rd_old (by assumption) | exact rd_row 0 rfl | exact rd_row 1 rfl | exact rd_row 2 rfl | exact rd_row 3 rfl | exact rd_row 4 rfl | exact rd_row 5 rfl); (first | (simp only [bools_length]; omega) | (simp; omega)))
              | (apply opv_index (vs := bools _) el_bool; rfl; rfl; (first | exact rd_old (by assumption) | exact rd_row 0 rfl | exact rd_row 1 rfl | exact rd_row 2 rfl | exact rd_row 3 rfl | exact rd_row 4 rfl | exact rd_row 5 rfl); omega; (first | (simp only [bools_length]; omega) | (simp; omega)))
              | (apply opv_len_bools el_bool; rfl; (first | exact rd_old (by assumption) | exact rd_row 0 rfl | exact rd_row 1 rfl | exact rd_row 2 rfl | exact rd_row 3 rfl | exact rd_row 4 rfl | exact rd_row 5 rfl))
              | (apply opv_add <;> rfl)
              | (apply opv_sub <;> rfl)
              | (apply opv_mul <;> rfl)
              | (apply opv_eql_bool ty_bool <;> rfl)
              | (apply opv_neq_bool ty_bool <;> rfl)); rfl; rfl)
          | apply px_nil
          | (apply px_skip; rfl; rfl)
          | apply qseq_normal
          | apply qseq_ret
          | apply qseq_exit
          | apply pwp_block
          | apply qblock_normal
          | apply qblock_ret
          | (apply qblock_exit_same; rfl)
          | (apply qblock_exit_other; rfl)
          | apply pwp_skip
          | apply pwp_exit
          | apply pwp_ret
          | apply qround_ret
          | apply qround_exit
          | apply qonce_ret
          | apply qonce_exit
          | (apply pwp_cond_t; rfl)
          | (apply pwp_cond_f; rfl)
          | (apply pwp_region_mix; kernel_rfl; decide +kernel; exact Cl.stable _ _ _)
          | (apply pwp_region_draw; kernel_rfl; kernel_rfl; exact Cl.stable _ _ _)
          | (apply px_guard_ndec; rfl; rfl; rfl; all_goals (intro hc; try (first | contradiction | (exfalso; omega) | (exfalso; simp at hc; done))))
          | (apply px_guard_dec; rfl; rfl; rfl; all_goals (intro hc; try (first | contradiction | (exfalso; omega) | (exfalso; simp at hc; done))))
          | (apply px_guard_not; rfl; rfl; rfl; all_goals (intro hc; try (first | contradiction | (exfalso; omega) | (exfalso; simp at hc; done))))
          | (apply px_guard; rfl; rfl; rfl; all_goals (intro hc; (first | contradiction | (fail_if_success (cases hc); try (first | (exfalso; omega) | (exfalso; simp at hc; done))))))
          | (apply pwp_cond_ndec; rfl; all_goals (intro hc; try (first | contradiction | (exfalso; omega) | (exfalso; simp at hc; done))))
          | (apply pwp_cond_dec; rfl; all_goals (intro hc; try (first | contradiction | (exfalso; omega) | (exfalso; simp at hc; done))))
          | (apply pwp_cond_not; rfl; all_goals (intro hc; try (first | contradiction | (exfalso; omega) | (exfalso; simp at hc; done))))
          | (apply pwp_cond; rfl; all_goals (intro hc; try (first | contradiction | (exfalso; omega) | (exfalso; simp at hc; done))))
          | (apply px_box; rfl; rfl; rfl; rfl; intro bk)
          | (apply px_store_int 0 co_int; rfl; rfl; rfl; (first | omega | (simp; omega)); rfl)
          | (apply px_store_int 1 co_int; rfl; rfl; rfl; (first | omega | (simp; omega)); rfl)
          | (apply px_store_int 2 co_int; rfl; rfl; rfl; (first | omega | (simp; omega)); rfl)
          | (apply px_store_int 3 co_int; rfl; rfl; rfl; (first | omega | (simp; omega)); rfl)
          | (apply px_store_int 4 co_int; rfl; rfl; rfl; (first | omega | (simp; omega)); rfl))
      · have e : wtU n o j (i + 1) = ((wtU n o j i).1.set (o.getD i 0).toNat ((wtU n o j i).2 + 1), (wtU n o j i).2) := by rw [hsucc, if_pos hc]
        refine qround_normal ?_ ⟨i + 1, ⟨rfl, ?_, trivial⟩, by omega, by omega, fun w' h => ?_⟩
        · repeat (first | exact same_refl | refine same_upd rfl ?_ | refine same_junk rfl ?_)
        · show Value.int .i64 _ = .int .i64 _
          rw [e]
        · rw [e]
          exact Cl.sub (by assumption) (by repeat (first | exact List.Sublist.slnil | exact List.Sublist.refl _ | apply List.Sublist.cons_cons | apply List.Sublist.cons))
      · have e : wtU n o j (i + 1) = (incU o (wtU n o j i).1 i, (wtU n o j i).2 + 2) := by rw [hsucc, if_neg (by rw [hc]; exact Bool.false_ne_true)]
        repeat' (first
            | apply pwp_seq
            | apply pwp_region
            | (apply px_run; (first
                | (apply opv_move; first | exact hid_int rfl | exact hid_bool rfl | exact hid_ptr rfl | rfl)
                | (apply opv_assign; first | exact hid_int rfl | exact hid_bool rfl | exact hid_ptr rfl | rfl)
                | (apply opv_lss <;> rfl)
                | (apply opv_leq <;> rfl)
                | (apply opv_gtr <;> rfl)
                | (apply opv_geq <;> rfl)
                | (apply opv_eql <;> rfl)
                | (apply opv_neq <;> rfl)
                | (apply opv_and <;> rfl)
                | (apply opv_or <;> rfl)
                | (apply opv_xor <;> rfl)
                | (apply opv_andNot <;> rfl)
                | (apply opv_pick_t <;> rfl)
                | (apply opv_pick_f <;> rfl)
                | (apply opv_not_dec <;> rfl)
                | (apply opv_not <;> rfl)
                | (apply opv_neg <;> rfl)
                | (apply opv_add_in; rfl; rfl; omega)
                | (apply opv_sub_in; rfl; rfl; omega)
                | (apply opv_mul_in; rfl; rfl; omega)
                | (apply opv_shl; rfl; rfl; omega)
                | (apply opv_shr; rfl; rfl; omega)
                | (apply opv_quo; rfl; rfl; omega)
                | (apply opv_rem; rfl; rfl; omega)
                | (apply opv_field fld_G0; rfl)
                | (apply opv_field fld_G1; rfl)
                | (apply opv_load_blk 0; (first | exact sc_int | exact sc_ints); rfl; rfl; rfl)
                | (apply opv_load_blk 1; (first | exact sc_int | exact sc_ints); rfl; rfl; rfl)
                | (apply opv_load_blk 2; (first | exact sc_int | exact sc_ints); rfl; rfl; rfl)
                | (apply opv_load_blk 3; (first | exact sc_int | exact sc_ints); rfl; rfl; rfl)
                | (apply opv_load_blk 4; (first | exact sc_int | exact sc_ints); rfl; rfl; rfl)
                | (apply opv_load_ints sc_int; rfl; (first | exact rd_old (by assumption) | exact rd_row 0 rfl | exact rd_row 1 rfl | exact rd_row 2 rfl | exact rd_row 3 rfl | exact rd_row 4 rfl); omega)
                | (apply opv_index_nat (vs := ints _) el_int; rfl; rfl; (first | exact rd_old (by assumption) | exact rd_row 0 rfl | exact rd_row 1 rfl | exact rd_row 2 rfl | exact rd_row 3 rfl | exact rd_row 4 rfl); (first | (simp only [ints_length]; omega) | (simp [ints]; omega)))
                | (apply opv_index (vs := ints _) el_int; rfl; rfl; (first | exact rd_old (by assumption) | exact rd_row 0 rfl | exact rd_row 1 rfl | exact rd_row 2 rfl | exact rd_row 3 rfl | exact rd_row 4 rfl); omega; (first | (simp only [ints_length]; omega) | (simp [ints]; omega)))
                | (apply opv_len_ints el_int; rfl; (first | exact rd_old (by assumption) | exact rd_row 0 rfl | exact rd_row 1 rfl | exact rd_row 2 rfl | exact rd_row 3 rfl | exact rd_row 4 rfl))
                | (apply opv_load_str 0 st_G; rfl; rfl; rfl)
                | (apply opv_load_str 1 st_G; rfl; rfl; rfl)
                | (apply opv_load_str 2 st_G; rfl; rfl; rfl)
                | (apply opv_load_str 3 st_G; rfl; rfl; rfl)
                | (apply opv_load_str 4 st_G; rfl; rfl; rfl)
                | (apply opv_add <;> rfl)
                | (apply opv_sub <;> rfl)
                | (apply opv_mul <;> rfl)
                | (apply opv_eql_bool ty_bool <;> rfl)
                | (apply opv_neq_bool ty_bool <;> rfl)); rfl; rfl)
            | apply px_nil
            | (apply px_skip; rfl; rfl)
            | apply qseq_normal
            | apply qseq_ret
            | apply qseq_exit
            | apply pwp_block
            | apply qblock_normal
            | apply qblock_ret
            | (apply qblock_exit_same; rfl)
            | (apply qblock_exit_other; rfl)
            | apply pwp_skip
            | apply pwp_exit
            | apply pwp_ret
            | apply qround_ret
            | apply qround_exit
            | apply qonce_ret
            | apply qonce_exit
            | (apply pwp_cond_t; rfl)
            | (apply pwp_cond_f; rfl)
            | (apply pwp_region_mix; kernel_rfl; decide +kernel; exact Cl.stable _ _ _)
            | (apply pwp_region_draw; kernel_rfl; kernel_rfl; exact Cl.stable _ _ _)
            | (apply px_guard_ndec; rfl; rfl; rfl; all_goals (intro hc; try (first | contradiction | (exfalso; omega) | (exfalso; simp at hc; done))))
            | (apply px_guard_dec; rfl; rfl; rfl; all_goals (intro hc; try (first | contradiction | (exfalso; omega) | (exfalso; simp at hc; done))))
            | (apply px_guard_not; rfl; rfl; rfl; all_goals (intro hc; try (first | contradiction | (exfalso; omega) | (exfalso; simp at hc; done))))
            | (apply px_guard; rfl; rfl; rfl; all_goals (intro hc; (first | contradiction | (fail_if_success (cases hc); try (first | (exfalso; omega) | (exfalso; simp at hc; done))))))
            | (apply pwp_cond_ndec; rfl; all_goals (intro hc; try (first | contradiction | (exfalso; omega) | (exfalso; simp at hc; done))))
            | (apply pwp_cond_dec; rfl; all_goals (intro hc; try (first | contradiction | (exfalso; omega) | (exfalso; simp at hc; done))))
            | (apply pwp_cond_not; rfl; all_goals (intro hc; try (first | contradiction | (exfalso; omega) | (exfalso; simp at hc; done))))
            | (apply pwp_cond; rfl; all_goals (intro hc; try (first | contradiction | (exfalso; omega) | (exfalso; simp at hc; done))))
            | (apply px_box; rfl; rfl; rfl; rfl; intro bk))
        refine pwp_loop (τ := Nat) [(11,11), (42,60)] (fun k => [(11, .int .i64 (k : Int))]) (fun k => Cl [] w [.row 3 sv (ints (incU o (wtU n o j i).1 k)), .row 3 s1 (ints o), .row 4 s2 (bools j), .blk bk [.int .i64 (n : Int), gv]]) (fun k => k ≤ i) (fun k => i - k) 0
          ⟨rfl, trivial⟩ (Nat.zero_le _) (fun _ h => h) (fun J2 k hk => ?_)
        by_cases hki : k < i
        · obtain ⟨q3, q4⟩ := ho1 k (by omega)
          have hil := incU_length o (wtU n o j i).1 k
          obtain ⟨q5, q6⟩ := incU_bound o (wtU n o j i).1 (1000 * i * i) hw3 k (o.getD k 0).toNat
          have hk129 : (k : Int) ≤ 129 := by omega
          have hst : incU o (wtU n o j i).1 (k + 1) = (incU o (wtU n o j i).1 k).set (o.getD k 0).toNat ((incU o (wtU n o j i).1 k).getD (o.getD k 0).toNat 0 + 1) := rfl
          repeat' (first
              | apply pwp_seq
              | apply pwp_region
              | (apply px_run; (first
                  | (apply opv_move; first | exact hid_int rfl | exact hid_bool rfl | exact hid_ptr rfl | rfl)
                  | (apply opv_assign; first | exact hid_int rfl | exact hid_bool rfl | exact hid_ptr rfl | rfl)
                  | (apply opv_lss <;> rfl)
                  | (apply opv_leq <;> rfl)
                  | (apply opv_gtr <;> rfl)
                  | (apply opv_geq <;> rfl)
                  | (apply opv_eql <;> rfl)
                  | (apply opv_neq <;> rfl)
                  | (apply opv_and <;> rfl)
                  | (apply opv_or <;> rfl)
                  | (apply opv_xor <;> rfl)
                  | (apply opv_andNot <;> rfl)
                  | (apply opv_pick_t <;> rfl)
                  | (apply opv_pick_f <;> rfl)
                  | (apply opv_not_dec <;> rfl)
                  | (apply opv_not <;> rfl)
                  | (apply opv_neg <;> rfl)
                  | (apply opv_add_in; rfl; rfl; omega)
                  | (apply opv_sub_in; rfl; rfl; omega)
                  | (apply opv_mul_in; rfl; rfl; omega)
                  | (apply opv_shl; rfl; rfl; omega)
                  | (apply opv_shr; rfl; rfl; omega)
                  | (apply opv_quo; rfl; rfl; omega)
                  | (apply opv_rem; rfl; rfl; omega)
                  | (apply opv_field fld_G0; rfl)
                  | (apply opv_field fld_G1; rfl)
                  | (apply opv_load_blk 0; (first | exact sc_int | exact sc_ints); rfl; rfl; rfl)
                  | (apply opv_load_blk 1; (first | exact sc_int | exact sc_ints); rfl; rfl; rfl)
                  | (apply opv_load_blk 2; (first | exact sc_int | exact sc_ints); rfl; rfl; rfl)
                  | (apply opv_load_blk 3; (first | exact sc_int | exact sc_ints); rfl; rfl; rfl)
                  | (apply opv_load_blk 4; (first | exact sc_int | exact sc_ints); rfl; rfl; rfl)
                  | (apply opv_load_blk 5; (first | exact sc_int | exact sc_ints); rfl; rfl; rfl)
                  | (apply opv_load_ints sc_int; rfl; (first | exact rd_old (by assumption) | exact rd_row 0 rfl | exact rd_row 1 rfl | exact rd_row 2 rfl | exact rd_row 3 rfl | exact rd_row 4 rfl | exact rd_row 5 rfl); omega)
                  | (apply opv_index_nat (vs := ints _) el_int; rfl; rfl; (first | exact rd_old (by assumption) | exact rd_row 0 rfl | exact rd_row 1 rfl | exact rd_row 2 rfl | exact rd_row 3 rfl | exact rd_row 4 rfl | exact rd_row 5 rfl); (first | (simp only [ints_length]; omega) | (simp [ints]; omega)))
                  | (apply opv_index (vs := ints _) el_int; rfl; rfl; (first | exact rd_old (by assumption) | exact rd_row 0 rfl | exact rd_row 1 rfl | exact rd_row 2 rfl | exact rd_row 3 rfl | exact rd_row 4 rfl | exact rd_row 5 rfl); omega; (first | (simp only [ints_length]; omega) | (simp [ints]; omega)))
                  | (apply opv_len_ints el_int; rfl; (first | exact rd_old (by assumption) | exact rd_row 0 rfl | exact rd_row 1 rfl | exact rd_row 2 rfl | exact rd_row 3 rfl | exact rd_row 4 rfl | exact rd_row 5 rfl))
                  | (apply opv_load_str 0 st_G; rfl; rfl; rfl)
                  | (apply opv_load_str 1 st_G; rfl; rfl; rfl)
                  | (apply opv_load_str 2 st_G; rfl; rfl; rfl)
                  | (apply opv_load_str 3 st_G; rfl; rfl; rfl)
                  | (apply opv_load_str 4 st_G; rfl; rfl; rfl)
                  | (apply opv_load_str 5 st_G; rfl; rfl; rfl)
                  | (apply opv_add <;> rfl)
                  | (apply opv_sub <;> rfl)
                  | (apply opv_mul <;> rfl)
                  | (apply opv_eql_bool ty_bool <;> rfl)
                  | (apply opv_neq_bool ty_bool <;> rfl)); rfl; rfl)
              | apply px_nil
              | (apply px_skip; rfl; rfl)
              | apply qseq_normal
              | apply qseq_ret
              | apply qseq_exit
              | apply pwp_block
              | apply qblock_normal
              | apply qblock_ret
              | (apply qblock_exit_same; rfl)
              | (apply qblock_exit_other; rfl)
              | apply pwp_skip
              | apply pwp_exit
              | apply pwp_ret
              | apply qround_ret
              | apply qround_exit
              | apply qonce_ret
              | apply qonce_exit
              | (apply pwp_cond_t; rfl)
              | (apply pwp_cond_f; rfl)
              | (apply pwp_region_any [0, 1, 2, 3, 4, 5, 6, 7, 8, 9, 10, 11, 12, 13] [14] 1 (Cl [] w [.row 3 sv (ints (incU o (wtU n o j i).1 k)), .row 3 s1 (ints o), .row 4 s2 (bools j), .blk bk [.int .i64 (n : Int), gv]]); kernel_rfl; decide +kernel; exact Cl.stable _ _ _; exact fun w h => h.sub (by repeat (first | exact List.Sublist.slnil | exact List.Sublist.refl _ | apply List.Sublist.cons_cons | apply List.Sublist.cons)))
              | apply qlooks_normal
              | (apply qstep_out; decide +kernel)
              | (apply qstep_in; exact fun w h => h.sub (by repeat (first | exact List.Sublist.slnil | exact List.Sublist.refl _ | apply List.Sublist.cons_cons | apply List.Sublist.cons)))
              | (apply pxa_nil; decide +kernel)
              | (apply pxa_one 14; decide +kernel; rfl)
              | (apply pwp_region_mix; kernel_rfl; decide +kernel; exact Cl.stable _ _ _)
              | (apply pwp_region_draw; kernel_rfl; kernel_rfl; exact Cl.stable _ _ _)
              | (apply px_guard_ndec; rfl; rfl; rfl; all_goals (intro hc; try (first | contradiction | (exfalso; omega) | (exfalso; simp at hc; done))))
              | (apply px_guard_dec; rfl; rfl; rfl; all_goals (intro hc; try (first | contradiction | (exfalso; omega) | (exfalso; simp at hc; done))))
              | (apply px_guard_not; rfl; rfl; rfl; all_goals (intro hc; try (first | contradiction | (exfalso; omega) | (exfalso; simp at hc; done))))
              | (apply px_guard; rfl; rfl; rfl; all_goals (intro hc; (first | contradiction | (fail_if_success (cases hc); try (first | (exfalso; omega) | (exfalso; simp at hc; done))))))
              | (apply pwp_cond_ndec; rfl; all_goals (intro hc; try (first | contradiction | (exfalso; omega) | (exfalso; simp at hc; done))))
              | (apply pwp_cond_dec; rfl; all_goals (intro hc; try (first | contradiction | (exfalso; omega) | (exfalso; simp at hc; done))))
              | (apply pwp_cond_not; rfl; all_goals (intro hc; try (first | contradiction | (exfalso; omega) | (exfalso; simp at hc; done))))
              | (apply pwp_cond; rfl; all_goals (intro hc; try (first | contradiction | (exfalso; omega) | (exfalso; simp at hc; done))))
              | (apply px_box; rfl; rfl; rfl; rfl; intro bk)
              | (apply px_store_int 0 co_int; rfl; rfl; rfl; (first | omega | (simp; omega)); rfl)
              | (apply px_store_int 1 co_int; rfl; rfl; rfl; (first | omega | (simp; omega)); rfl)
              | (apply px_store_int 2 co_int; rfl; rfl; rfl; (first | omega | (simp; omega)); rfl)
              | (apply px_store_int 3 co_int; rfl; rfl; rfl; (first | omega | (simp; omega)); rfl)
              | (apply px_store_int 4 co_int; rfl; rfl; rfl; (first | omega | (simp; omega)); rfl))
          refine qround_normal ?_ ⟨k + 1, ⟨rfl, trivial⟩, by omega, by omega, fun w' h => ?_⟩
          · repeat (first | exact same_refl | refine same_upd rfl ?_ | refine same_junk rfl ?_)
          · rw [hst]; exact h
        · obtain rfl : k = i := by omega
          have hz : (incU o (wtU n o j k).1 k).getD (o.getD k 0).toNat 0 = 0 := by
            have hne : ∀ m, m < k → (o.getD m 0).toNat ≠ (o.getD k 0).toNat := fun m hm e => by
              have := ho2 k hlt m hm
              have := ho1 m (by omega)
              omega
            rw [incU_same _ _ _ _ hne]
            exact wtU_zero n o j _ k hne
          have hil := incU_length o (wtU n o j k).1 k
          have hss := set_same (incU o (wtU n o j k).1 k) (o.getD k 0).toNat hz (by omega)
          repeat' (first
              | apply pwp_seq
              | apply pwp_region
              | (apply px_run; (first
                  | (apply opv_move; first | exact hid_int rfl | exact hid_bool rfl | exact hid_ptr rfl | rfl)
                  | (apply opv_assign; first | exact hid_int rfl | exact hid_bool rfl | exact hid_ptr rfl | rfl)
                  | (apply opv_lss <;> rfl)
                  | (apply opv_leq <;> rfl)
                  | (apply opv_gtr <;> rfl)
                  | (apply opv_geq <;> rfl)
                  | (apply opv_eql <;> rfl)
                  | (apply opv_neq <;> rfl)
                  | (apply opv_and <;> rfl)
                  | (apply opv_or <;> rfl)
                  | (apply opv_xor <;> rfl)
                  | (apply opv_andNot <;> rfl)
                  | (apply opv_pick_t <;> rfl)
                  | (apply opv_pick_f <;> rfl)
                  | (apply opv_not_dec <;> rfl)
                  | (apply opv_not <;> rfl)
                  | (apply opv_neg <;> rfl)
                  | (apply opv_add_in; rfl; rfl; omega)
                  | (apply opv_sub_in; rfl; rfl; omega)
                  | (apply opv_mul_in; rfl; rfl; omega)
                  | (apply opv_shl; rfl; rfl; omega)
                  | (apply opv_shr; rfl; rfl; omega)
                  | (apply opv_quo; rfl; rfl; omega)
                  | (apply opv_rem; rfl; rfl; omega)
                  | (apply opv_field fld_G0; rfl)
                  | (apply opv_field fld_G1; rfl)
                  | (apply opv_load_blk 0; (first | exact sc_int | exact sc_ints); rfl; rfl; rfl)
                  | (apply opv_load_blk 1; (first | exact sc_int | exact sc_ints); rfl; rfl; rfl)
                  | (apply opv_load_blk 2; (first | exact sc_int | exact sc_ints); rfl; rfl; rfl)
                  | (apply opv_load_blk 3; (first | exact sc_int | exact sc_ints); rfl; rfl; rfl)
                  | (apply opv_load_blk 4; (first | exact sc_int | exact sc_ints); rfl; rfl; rfl)
                  | (apply opv_load_blk 5; (first | exact sc_int | exact sc_ints); rfl; rfl; rfl)
                  | (apply opv_load_ints sc_int; rfl; (first | exact rd_old (by assumption) | exact rd_row 0 rfl | exact rd_row 1 rfl | exact rd_row 2 rfl | exact rd_row 3 rfl | exact rd_row 4 rfl | exact rd_row 5 rfl); omega)
                  | (apply opv_index_nat (vs := ints _) el_int; rfl; rfl; (first | exact rd_old (by assumption) | exact rd_row 0 rfl | exact rd_row 1 rfl | exact rd_row 2 rfl | exact rd_row 3 rfl | exact rd_row 4 rfl | exact rd_row 5 rfl); (first | (simp only [ints_length]; omega) | (simp [ints]; omega)))
                  | (apply opv_index (vs := ints _) el_int; rfl; rfl; (first | exact rd_old (by assumption) | exact rd_row 0 rfl | exact rd_row 1 rfl | exact rd_row 2 rfl | exact rd_row 3 rfl | exact rd_row 4 rfl | exact rd_row 5 rfl); omega; (first | (simp only [ints_length]; omega) | (simp [ints]; omega)))
                  | (apply opv_len_ints el_int; rfl; (first | exact rd_old (by assumption) | exact rd_row 0 rfl | exact rd_row 1 rfl | exact rd_row 2 rfl | exact rd_row 3 rfl | exact rd_row 4 rfl | exact rd_row 5 rfl))
                  | (apply opv_load_str 0 st_G; rfl; rfl; rfl)
                  | (apply opv_load_str 1 st_G; rfl; rfl; rfl)
                  | (apply opv_load_str 2 st_G; rfl; rfl; rfl)
                  | (apply opv_load_str 3 st_G; rfl; rfl; rfl)
                  | (apply opv_load_str 4 st_G; rfl; rfl; rfl)
                  | (apply opv_load_str 5 st_G; rfl; rfl; rfl)
                  | (apply opv_add <;> rfl)
                  | (apply opv_sub <;> rfl)
                  | (apply opv_mul <;> rfl)
                  | (apply opv_eql_bool ty_bool <;> rfl)
                  | (apply opv_neq_bool ty_bool <;> rfl)); rfl; rfl)
              | apply px_nil
              | (apply px_skip; rfl; rfl)
              | apply qseq_normal
              | apply qseq_ret
              | apply qseq_exit
              | apply pwp_block
              | apply qblock_normal
              | apply qblock_ret
              | (apply qblock_exit_same; rfl)
              | (apply qblock_exit_other; rfl)
              | apply pwp_skip
              | apply pwp_exit
              | apply pwp_ret
              | apply qround_ret
              | apply qround_exit
              | apply qonce_ret
              | apply qonce_exit
              | (apply pwp_cond_t; rfl)
              | (apply pwp_cond_f; rfl)
              | (apply pwp_region_mix; kernel_rfl; decide +kernel; exact Cl.stable _ _ _)
              | (apply pwp_region_draw; kernel_rfl; kernel_rfl; exact Cl.stable _ _ _)
              | (apply px_guard_ndec; rfl; rfl; rfl; all_goals (intro hc; try (first | contradiction | (exfalso; omega) | (exfalso; simp at hc; done))))
              | (apply px_guard_dec; rfl; rfl; rfl; all_goals (intro hc; try (first | contradiction | (exfalso; omega) | (exfalso; simp at hc; done))))
              | (apply px_guard_not; rfl; rfl; rfl; all_goals (intro hc; try (first | contradiction | (exfalso; omega) | (exfalso; simp at hc; done))))
              | (apply px_guard; rfl; rfl; rfl; all_goals (intro hc; (first | contradiction | (fail_if_success (cases hc); try (first | (exfalso; omega) | (exfalso; simp at hc; done))))))
              | (apply pwp_cond_ndec; rfl; all_goals (intro hc; try (first | contradiction | (exfalso; omega) | (exfalso; simp at hc; done))))
              | (apply pwp_cond_dec; rfl; all_goals (intro hc; try (first | contradiction | (exfalso; omega) | (exfalso; simp at hc; done))))
              | (apply pwp_cond_not; rfl; all_goals (intro hc; try (first | contradiction | (exfalso; omega) | (exfalso; simp at hc; done))))
              | (apply pwp_cond; rfl; all_goals (intro hc; try (first | contradiction | (exfalso; omega) | (exfalso; simp at hc; done))))
              | (apply px_box; rfl; rfl; rfl; rfl; intro bk)
              | (apply px_store_int 0 co_int; rfl; rfl; rfl; (first | omega | (simp; omega)); rfl)
              | (apply px_store_int 1 co_int; rfl; rfl; rfl; (first | omega | (simp; omega)); rfl)
              | (apply px_store_int 2 co_int; rfl; rfl; rfl; (first | omega | (simp; omega)); rfl)
              | (apply px_store_int 3 co_int; rfl; rfl; rfl; (first | omega | (simp; omega)); rfl)
              | (apply px_store_int 4 co_int; rfl; rfl; rfl; (first | omega | (simp; omega)); rfl))
          refine qround_normal ?_ ⟨k + 1, ⟨rfl, ?_, trivial⟩, by omega, by omega, fun w' h => ?_⟩
          · repeat (first | exact same_refl | refine same_upd rfl ?_ | refine same_junk rfl ?_)
          · show Value.int .i64 _ = .int .i64 _
            rw [e]
          · rw [e, ← hss]
            exact Cl.sub (by assumption) (by repeat (first | exact List.Sublist.slnil | exact List.Sublist.refl _ | apply List.Sublist.cons_cons | apply List.Sublist.cons))
    · obtain rfl : i = o.length := by omega
      repeat' (first
          | apply pwp_seq
          | apply pwp_region
          | (apply px_run; (first
              | (apply opv_move; first | exact hid_int rfl | exact hid_bool rfl | exact hid_ptr rfl | rfl)
              | (apply opv_assign; first | exact hid_int rfl | exact hid_bool rfl | exact hid_ptr rfl | rfl)
              | (apply opv_lss <;> rfl)
              | (apply opv_leq <;> rfl)
              | (apply opv_gtr <;> rfl)
              | (apply opv_geq <;> rfl)
              | (apply opv_eql <;> rfl)
              | (apply opv_neq <;> rfl)
              | (apply opv_and <;> rfl)
              | (apply opv_or <;> rfl)
              | (apply opv_xor <;> rfl)
              | (apply opv_andNot <;> rfl)
              | (apply opv_pick_t <;> rfl)
              | (apply opv_pick_f <;> rfl)
              | (apply opv_not_dec <;> rfl)
              | (apply opv_not <;> rfl)
              | (apply opv_neg <;> rfl)
              | (apply opv_add_in; rfl; rfl; omega)
              | (apply opv_sub_in; rfl; rfl; omega)
              | (apply opv_mul_in; rfl; rfl; omega)
              | (apply opv_shl; rfl; rfl; omega)
              | (apply opv_shr; rfl; rfl; omega)
              | (apply opv_quo; rfl; rfl; omega)
              | (apply opv_rem; rfl; rfl; omega)
              | (apply opv_field fld_G0; rfl)
              | (apply opv_field fld_G1; rfl)
              | (apply opv_load_blk 0; (first | exact sc_int | exact sc_ints); rfl; rfl; rfl)
              | (apply opv_load_blk 1; (first | exact sc_int | exact sc_ints); rfl; rfl; rfl)
              | (apply opv_load_blk 2; (first | exact sc_int | exact sc_ints); rfl; rfl; rfl)
              | (apply opv_load_blk 3; (first | exact sc_int | exact sc_ints); rfl; rfl; rfl)
              | (apply opv_load_blk 4; (first | exact sc_int | exact sc_ints); rfl; rfl; rfl)
              | (apply opv_load_ints sc_int; rfl; (first | exact rd_old (by assumption) | exact rd_row 0 rfl | exact rd_row 1 rfl | exact rd_row 2 rfl | exact rd_row 3 rfl | exact rd_row 4 rfl); omega)
              | (apply opv_index_nat (vs := ints _) el_int; rfl; rfl; (first | exact rd_old (by assumption) | exact rd_row 0 rfl | exact rd_row 1 rfl | exact rd_row 2 rfl | exact rd_row 3 rfl | exact rd_row 4 rfl); (first | (simp only [ints_length]; omega) | (simp [ints]; omega)))
              | (apply opv_index (vs := ints _) el_int; rfl; rfl; (first | exact rd_old (by assumption) | exact rd_row 0 rfl | exact rd_row 1 rfl | exact rd_row 2 rfl | exact rd_row 3 rfl | exact rd_row 4 rfl); omega; (first | (simp only [ints_length]; omega) | (simp [ints]; omega)))
              | (apply opv_len_ints el_int; rfl; (first | exact rd_old (by assumption) | exact rd_row 0 rfl | exact rd_row 1 rfl | exact rd_row 2 rfl | exact rd_row 3 rfl | exact rd_row 4 rfl))
              | (apply opv_load_str 0 st_G; rfl; rfl; rfl)
              | (apply opv_load_str 1 st_G; rfl; rfl; rfl)
              | (apply opv_load_str 2 st_G; rfl; rfl; rfl)
              | (apply opv_load_str 3 st_G; rfl; rfl; rfl)
              | (apply opv_load_str 4 st_G; rfl; rfl; rfl)
              | (apply opv_add <;> rfl)
              | (apply opv_sub <;> rfl)
              | (apply opv_mul <;> rfl)
              | (apply opv_eql_bool ty_bool <;> rfl)
              | (apply opv_neq_bool ty_bool <;> rfl)); rfl; rfl)
          | apply px_nil
          | (apply px_skip; rfl; rfl)
          | apply qseq_normal
          | apply qseq_ret
          | apply qseq_exit
          | apply pwp_block
          | apply qblock_normal
          | apply qblock_ret
          | (apply qblock_exit_same; rfl)
          | (apply qblock_exit_other; rfl)
          | apply pwp_skip
          | apply pwp_exit
          | apply pwp_ret
          | apply qround_ret
          | apply qround_exit
          | apply qonce_ret
          | apply qonce_exit
          | (apply pwp_cond_t; rfl)
          | (apply pwp_cond_f; rfl)
          | (apply pwp_region_mix; kernel_rfl; decide +kernel; exact Cl.stable _ _ _)
          | (apply pwp_region_draw; kernel_rfl; kernel_rfl; exact Cl.stable _ _ _)
          | (apply px_guard_ndec; rfl; rfl; rfl; all_goals (intro hc; try (first | contradiction | (exfalso; omega) | (exfalso; simp at hc; done))))
          | (apply px_guard_dec; rfl; rfl; rfl; all_goals (intro hc; try (first | contradiction | (exfalso; omega) | (exfalso; simp at hc; done))))
          | (apply px_guard_not; rfl; rfl; rfl; all_goals (intro hc; try (first | contradiction | (exfalso; omega) | (exfalso; simp at hc; done))))
          | (apply px_guard; rfl; rfl; rfl; all_goals (intro hc; (first | contradiction | (fail_if_success (cases hc); try (first | (exfalso; omega) | (exfalso; simp at hc; done))))))
          | (apply pwp_cond_ndec; rfl; all_goals (intro hc; try (first | contradiction | (exfalso; omega) | (exfalso; simp at hc; done))))
          | (apply pwp_cond_dec; rfl; all_goals (intro hc; try (first | contradiction | (exfalso; omega) | (exfalso; simp at hc; done))))
          | (apply pwp_cond_not; rfl; all_goals (intro hc; try (first | contradiction | (exfalso; omega) | (exfalso; simp at hc; done))))
          | (apply pwp_cond; rfl; all_goals (intro hc; try (first | contradiction | (exfalso; omega) | (exfalso; simp at hc; done))))
          | (apply px_box; rfl; rfl; rfl; rfl; intro bk))
      refine qbody_ret3 rfl rfl rfl rfl ⟨_, ⟨_, rfl, rfl⟩, fun w' h => ?_⟩
      exact Cl.sub (by assumption) (by repeat (first | exact List.Sublist.slnil | exact List.Sublist.refl _ | apply List.Sublist.cons_cons | apply List.Sublist.cons))
end Go.Proofs.Ythmpcidkjkeicaa
