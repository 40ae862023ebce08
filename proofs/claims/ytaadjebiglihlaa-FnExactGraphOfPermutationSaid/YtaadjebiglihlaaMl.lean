/- Fewest covers; lists of modules; primes; twins. -/
import Derived.Test.YtaadjebiglihlaaCq
import Derived.Test.YtaadjebiglihlaaMo
namespace Go.Proofs.Ytaadjebiglihlaa
open Go Go.RowKit Go.Pw

theorem en_i_ModulesOf : Entry Try.prog 85 := ⟨_, Try.func85, by kernel_rfl, rfl⟩
set_option maxHeartbeats 800000 in
theorem i_ModulesOf_c (size : Int) (gv : Value) (rows : List Int) (w : World) (hr : Arr w gv (ints rows)) :
    Gives Try.prog 85 #[.agg #[.int .i64 size, gv]] w (fun v objs => objs = [.row 3 v (ints (modsL size rows))]) := by
  refine gives_enter (args := [_]) en_i_ModulesOf Try.func85 rfl Try.ntmps85 rfl ?_
  by_cases hg : IsG size rows
  · have hsz : 0 ≤ size ∧ size ≤ 7 := ⟨by have := hg.1; omega, hg.1.2⟩
    obtain ⟨N, hN, hN', hN1, hN2⟩ := shl_nat hg
    rw [modsL, if_pos hg, hN']
    repeat' (first
        | apply pwp_seq
        | apply pwp_region
        | (apply px_run; (first
            | (apply opv_move; first | exact hid_int rfl | exact hid_bool rfl | exact hid_ptr rfl | rfl)
            | (apply opv_assign; first | exact hid_int rfl | exact hid_bool rfl | exact hid_ptr rfl | rfl)
            | (apply opv_lss <;> rfl)
            | (apply opv_leq <;> rfl)
            | (apply opv_gtr <;> rfl)
            | (apply opv_geq <;> rfl)
            | (apply opv_eql <;> rfl)
            | (apply opv_neq <;> rfl)
            | (apply opv_and <;> rfl)
            | (apply opv_or <;> rfl)
            | (apply opv_xor <;> rfl)
            | (apply opv_andNot <;> rfl)
            | (apply opv_pick_t <;> rfl)
            | (apply opv_pick_f <;> rfl)
            | (apply opv_not_dec <;> rfl)
            | (apply opv_not <;> rfl)
            | (apply opv_neg <;> rfl)
            | (apply opv_add_in; rfl; rfl; omega)
            | (apply opv_sub_in; rfl; rfl; omega)
            | (apply opv_mul_in; rfl; rfl; omega)
            | (apply opv_shl; rfl; rfl; omega)
            | (apply opv_shr; rfl; rfl; omega)
            | (apply opv_quo; rfl; rfl; omega)
            | (apply opv_rem; rfl; rfl; omega)
            | (apply opv_field fld_G0; rfl)
            | (apply opv_field fld_G1; rfl)
            | (apply opv_load_blk 0; (first | with_reducible exact sc_int | with_reducible exact sc_ints); rfl; rfl; rfl)
            | (apply opv_load_blk 1; (first | with_reducible exact sc_int | with_reducible exact sc_ints); rfl; rfl; rfl)
            | (apply opv_load_blk 2; (first | with_reducible exact sc_int | with_reducible exact sc_ints); rfl; rfl; rfl)
            | (apply opv_load_blk 3; (first | with_reducible exact sc_int | with_reducible exact sc_ints); rfl; rfl; rfl)
            | (apply opv_load_blk 4; (first | with_reducible exact sc_int | with_reducible exact sc_ints); rfl; rfl; rfl)
            | (apply opv_load_ints sc_int; rfl; (first | exact rd_old (by assumption) | exact rd_row 0 rfl | exact rd_row 1 rfl | exact rd_row 2 rfl | exact rd_row 3 rfl | exact rd_row 4 rfl); (first | omega | (simp only [List.length_set]; omega)))
            | (apply opv_index_nat (vs := ints _) el_int; rfl; rfl; (first | exact rd_old (by assumption) | exact rd_row 0 rfl | exact rd_row 1 rfl | exact rd_row 2 rfl | exact rd_row 3 rfl | exact rd_row 4 rfl); (first | (simp only [ints_length]; omega) | (simp [ints]; omega)))
            | (apply opv_index (vs := ints _) el_int; rfl; rfl; (first | exact rd_old (by assumption) | exact rd_row 0 rfl | exact rd_row 1 rfl | exact rd_row 2 rfl | exact rd_row 3 rfl | exact rd_row 4 rfl); omega; (first | (simp only [ints_length]; omega) | (simp [ints]; omega)))
            | (apply opv_len_ints el_int; rfl; (first | exact rd_old (by assumption) | exact rd_row 0 rfl | exact rd_row 1 rfl | exact rd_row 2 rfl | exact rd_row 3 rfl | exact rd_row 4 rfl))
            | (apply opv_load_str 0 st_G; rfl; rfl; rfl)
            | (apply opv_load_str 1 st_G; rfl; rfl; rfl)
            | (apply opv_load_str 2 st_G; rfl; rfl; rfl)
            | (apply opv_load_str 3 st_G; rfl; rfl; rfl)
            | (apply opv_load_str 4 st_G; rfl; rfl; rfl)
            | (apply opv_call; rfl; rfl; exact Cl.stable _ _ _; exact fun w hw => i_IsGraph_c _ _ rows _ (by first | exact hw.arr (by assumption) | exact hw.rowArr (k := 0) rfl | exact hw.rowArr (k := 1) rfl | exact hw.rowArr (k := 2) rfl | exact hw.rowArr (k := 3) rfl | exact hw.rowArr (k := 4) rfl | exact hw.rowArr (k := 5) rfl | exact hw.rowArr (k := 6) rfl | exact hw.rowArr (k := 7) rfl | exact hw.rowArr (k := 8) rfl | exact hw.rowArr (k := 9) rfl | exact hw.rowArr (k := 10) rfl | exact hw.rowArr (k := 11) rfl | exact hw.rowArr (k := 12) rfl | exact hw.rowArr (k := 13) rfl | exact hw.rowArr (k := 14) rfl | exact hw.rowArr (k := 15) rfl | exact hw.rowArr (k := 16) rfl | exact hw.rowArr (k := 17) rfl | exact hw.rowArr (k := 18) rfl | exact hw.rowArr (k := 19) rfl))
            | (apply opv_add <;> rfl)
            | (apply opv_sub <;> rfl)
            | (apply opv_mul <;> rfl)
            | (apply opv_eql_bool ty_bool <;> rfl)
            | (apply opv_neq_bool ty_bool <;> rfl)); rfl; rfl)
        | apply px_nil
        | (apply px_skip; rfl; rfl)
        | apply qseq_normal
        | apply qseq_ret
        | apply qseq_exit
        | apply pwp_block
        | apply qblock_normal
        | apply qblock_ret
        | (apply qblock_exit_same; rfl)
        | (apply qblock_exit_other; rfl)
        | apply pwp_skip
        | apply pwp_exit
        | apply pwp_ret
        | apply qround_ret
        | apply qround_exit
        | apply qonce_ret
        | apply qonce_exit
        | (apply pwp_cond_t; rfl)
        | (apply pwp_cond_f; rfl)
        | (apply pwp_region_mix; kernel_rfl; decide +kernel; exact Cl.stable _ _ _)
        | (apply pwp_region_draw; kernel_rfl; kernel_rfl; exact Cl.stable _ _ _)
        | (apply px_guard_ndec; rfl; rfl; rfl; all_goals (intro hc; try (first | contradiction | (exfalso; omega) | (exfalso; simp at hc; done))))
        | (apply px_guard_dec; rfl; rfl; rfl; all_goals (intro hc; try (first | contradiction | (exfalso; omega) | (exfalso; simp at hc; done))))
        | (apply px_guard_not; rfl; rfl; rfl; all_goals (intro hc; try (first | contradiction | (exfalso; omega) | (exfalso; simp at hc; done))))
        | (apply px_guard; rfl; rfl; rfl; all_goals (intro hc; (first | contradiction | (fail_if_success (cases hc); try (first | (exfalso; omega) | (exfalso; simp at hc; done))))))
        | (apply pwp_cond_ndec; rfl; all_goals (intro hc; try (first | contradiction | (exfalso; omega) | (exfalso; simp at hc; done))))
        | (apply pwp_cond_dec; rfl; all_goals (intro hc; try (first | contradiction | (exfalso; omega) | (exfalso; simp at hc; done))))
        | (apply pwp_cond_not; rfl; all_goals (intro hc; try (first | contradiction | (exfalso; omega) | (exfalso; simp at hc; done))))
        | (apply pwp_cond; rfl; all_goals (intro hc; try (first | contradiction | (exfalso; omega) | (exfalso; simp at hc; done))))
        | (apply px_box; rfl; rfl; rfl; rfl; intro bk)
        | (apply px_lit0 ez_int; rfl; rfl; rfl; intro sv))
    refine pwp_loop (τ := Nat × Value) [(3,4), (10,22)] (fun x => [(4, .int .i64 (x.1 : Int)), (3, x.2)]) (fun x => Cl [] w [.row 3 x.2 (ints (modsU rows x.1)), .blk bk [.int .i64 size, gv]]) (fun x => 1 ≤ x.1 ∧ x.1 ≤ N) (fun x => N - x.1) (1, sv)
      ⟨rfl, rfl, trivial⟩ ⟨Nat.le_refl _, hN1⟩ (fun _ h => by dsimp only; rw [modsU_one]; exact h) (fun J x hk => ?_)
    obtain ⟨k, so⟩ := x
    obtain ⟨hk1, hk⟩ := hk
    have hl := modsU_length rows k
    dsimp only at hk hk1 ⊢
    by_cases hlt : k < N
    · have hsucc := modsU_succ rows k
      repeat' (first
          | apply pwp_seq
          | apply pwp_region
          | (apply px_run; (first
              | (apply opv_move; first | exact hid_int rfl | exact hid_bool rfl | exact hid_ptr rfl | rfl)
              | (apply opv_assign; first | exact hid_int rfl | exact hid_bool rfl | exact hid_ptr rfl | rfl)
              | (apply opv_lss <;> rfl)
              | (apply opv_leq <;> rfl)
              | (apply opv_gtr <;> rfl)
              | (apply opv_geq <;> rfl)
              | (apply opv_eql <;> rfl)
              | (apply opv_neq <;> rfl)
              | (apply opv_and <;> rfl)
              | (apply opv_or <;> rfl)
              | (apply opv_xor <;> rfl)
              | (apply opv_andNot <;> rfl)
              | (apply opv_pick_t <;> rfl)
              | (apply opv_pick_f <;> rfl)
              | (apply opv_not_dec <;> rfl)
              | (apply opv_not <;> rfl)
              | (apply opv_neg <;> rfl)
              | (apply opv_add_in; rfl; rfl; omega)
              | (apply opv_sub_in; rfl; rfl; omega)
              | (apply opv_mul_in; rfl; rfl; omega)
              | (apply opv_shl; rfl; rfl; omega)
              | (apply opv_shr; rfl; rfl; omega)
              | (apply opv_quo; rfl; rfl; omega)
              | (apply opv_rem; rfl; rfl; omega)
              | (apply opv_field fld_G0; rfl)
              | (apply opv_field fld_G1; rfl)
              | (apply opv_load_blk 0; (first | with_reducible exact sc_int | with_reducible exact sc_ints); rfl; rfl; rfl)
              | (apply opv_load_blk 1; (first | with_reducible exact sc_int | with_reducible exact sc_ints); rfl; rfl; rfl)
              | (apply opv_load_blk 2; (first | with_reducible exact sc_int | with_reducible exact sc_ints); rfl; rfl; rfl)
              | (apply opv_load_blk 3; (first | with_reducible exact sc_int | with_reducible exact sc_ints); rfl; rfl; rfl)
              | (apply opv_load_blk 4; (first | with_reducible exact sc_int | with_reducible exact sc_ints); rfl; rfl; rfl)
              | (apply opv_load_ints sc_int; rfl; (first | exact rd_old (by assumption) | exact rd_row 0 rfl | exact rd_row 1 rfl | exact rd_row 2 rfl | exact rd_row 3 rfl | exact rd_row 4 rfl); (first | omega | (simp only [List.length_set]; omega)))
              | (apply opv_index_nat (vs := ints _) el_int; rfl; rfl; (first | exact rd_old (by assumption) | exact rd_row 0 rfl | exact rd_row 1 rfl | exact rd_row 2 rfl | exact rd_row 3 rfl | exact rd_row 4 rfl); (first | (simp only [ints_length]; omega) | (simp [ints]; omega)))
              | (apply opv_index (vs := ints _) el_int; rfl; rfl; (first | exact rd_old (by assumption) | exact rd_row 0 rfl | exact rd_row 1 rfl | exact rd_row 2 rfl | exact rd_row 3 rfl | exact rd_row 4 rfl); omega; (first | (simp only [ints_length]; omega) | (simp [ints]; omega)))
              | (apply opv_len_ints el_int; rfl; (first | exact rd_old (by assumption) | exact rd_row 0 rfl | exact rd_row 1 rfl | exact rd_row 2 rfl | exact rd_row 3 rfl | exact rd_row 4 rfl))
              | (apply opv_load_str 0 st_G; rfl; rfl; rfl)
              | (apply opv_load_str 1 st_G; rfl; rfl; rfl)
              | (apply opv_load_str 2 st_G; rfl; rfl; rfl)
              | (apply opv_load_str 3 st_G; rfl; rfl; rfl)
              | (apply opv_load_str 4 st_G; rfl; rfl; rfl)
              | (apply opv_call; rfl; rfl; exact Cl.stable _ _ _; exact fun w hw => i_all_c _ _ _ hsz)
              | (apply opv_call; rfl; rfl; exact Cl.stable _ _ _; exact fun w hw => i_isModule_c _ _ rows _ _ (by first | exact hw.arr (by assumption) | exact hw.rowArr (k := 0) rfl | exact hw.rowArr (k := 1) rfl | exact hw.rowArr (k := 2) rfl | exact hw.rowArr (k := 3) rfl | exact hw.rowArr (k := 4) rfl | exact hw.rowArr (k := 5) rfl | exact hw.rowArr (k := 6) rfl | exact hw.rowArr (k := 7) rfl | exact hw.rowArr (k := 8) rfl | exact hw.rowArr (k := 9) rfl | exact hw.rowArr (k := 10) rfl | exact hw.rowArr (k := 11) rfl | exact hw.rowArr (k := 12) rfl | exact hw.rowArr (k := 13) rfl | exact hw.rowArr (k := 14) rfl | exact hw.rowArr (k := 15) rfl | exact hw.rowArr (k := 16) rfl | exact hw.rowArr (k := 17) rfl | exact hw.rowArr (k := 18) rfl | exact hw.rowArr (k := 19) rfl) hg ⟨by omega, by omega⟩)
              | (apply opv_add <;> rfl)
              | (apply opv_sub <;> rfl)
              | (apply opv_mul <;> rfl)
              | (apply opv_eql_bool ty_bool <;> rfl)
              | (apply opv_neq_bool ty_bool <;> rfl)); rfl; rfl)
          | apply px_nil
          | (apply px_skip; rfl; rfl)
          | apply qseq_normal
          | apply qseq_ret
          | apply qseq_exit
          | apply pwp_block
          | apply qblock_normal
          | apply qblock_ret
          | (apply qblock_exit_same; rfl)
          | (apply qblock_exit_other; rfl)
          | apply pwp_skip
          | apply pwp_exit
          | apply pwp_ret
          | apply qround_ret
          | apply qround_exit
          | apply qonce_ret
          | apply qonce_exit
          | (apply pwp_cond_t; rfl)
          | (apply pwp_cond_f; rfl)
          | (apply pwp_region_mix; kernel_rfl; decide +kernel; exact Cl.stable _ _ _)
          | (apply pwp_region_draw; kernel_rfl; kernel_rfl; exact Cl.stable _ _ _)
          | (apply px_guard_ndec; rfl; rfl; rfl; all_goals (intro hc; try (first | contradiction | (exfalso; omega) | (exfalso; simp at hc; done))))
          | (apply px_guard_dec; rfl; rfl; rfl; all_goals (intro hc; try (first | contradiction | (exfalso; omega) | (exfalso; simp at hc; done))))
          | (apply px_guard_not; rfl; rfl; rfl; all_goals (intro hc; try (first | contradiction | (exfalso; omega) | (exfalso; simp at hc; done))))
          | (apply px_guard; rfl; rfl; rfl; all_goals (intro hc; (first | contradiction | (fail_if_success (cases hc); try (first | (exfalso; omega) | (exfalso; simp at hc; done))))))
          | (apply pwp_cond_ndec; rfl; all_goals (intro hc; try (first | contradiction | (exfalso; omega) | (exfalso; simp at hc; done))))
          | (apply pwp_cond_dec; rfl; all_goals (intro hc; try (first | contradiction | (exfalso; omega) | (exfalso; simp at hc; done))))
          | (apply pwp_cond_not; rfl; all_goals (intro hc; try (first | contradiction | (exfalso; omega) | (exfalso; simp at hc; done))))
          | (apply pwp_cond; rfl; all_goals (intro hc; try (first | contradiction | (exfalso; omega) | (exfalso; simp at hc; done))))
          | (apply px_box; rfl; rfl; rfl; rfl; intro bk)
          | (apply px_lit1 ez_int; rfl; (intro w hw; (first | rfl | assumption | exact stor_row 0 hw rfl | exact stor_row 1 hw rfl | exact stor_row 2 hw rfl | exact stor_row 3 hw rfl | exact stor_row 4 hw rfl | exact stor_arr (by assumption) | exact stor_mem hw (by repeat (first | assumption | apply List.mem_cons_of_mem | apply List.mem_append_right)))); rfl; rfl; rfl; intro sv)
          | (apply px_append 0 ez_int; rfl; rfl; rfl; (first | exact rd_old (by assumption) | exact rd_row 0 rfl | exact rd_row 1 rfl | exact rd_row 2 rfl | exact rd_row 3 rfl); (first | exact fun _ _ => stor_ints | (intro _ _ u hu; simp at hu; subst hu; rfl)); (simp [ints]; omega); decide; rfl; rfl; intro sv)
          | (apply px_append 1 ez_int; rfl; rfl; rfl; (first | exact rd_old (by assumption) | exact rd_row 0 rfl | exact rd_row 1 rfl | exact rd_row 2 rfl | exact rd_row 3 rfl); (first | exact fun _ _ => stor_ints | (intro _ _ u hu; simp at hu; subst hu; rfl)); (simp [ints]; omega); decide; rfl; rfl; intro sv)
          | (apply px_append 2 ez_int; rfl; rfl; rfl; (first | exact rd_old (by assumption) | exact rd_row 0 rfl | exact rd_row 1 rfl | exact rd_row 2 rfl | exact rd_row 3 rfl); (first | exact fun _ _ => stor_ints | (intro _ _ u hu; simp at hu; subst hu; rfl)); (simp [ints]; omega); decide; rfl; rfl; intro sv)
          | (apply px_append 3 ez_int; rfl; rfl; rfl; (first | exact rd_old (by assumption) | exact rd_row 0 rfl | exact rd_row 1 rfl | exact rd_row 2 rfl | exact rd_row 3 rfl); (first | exact fun _ _ => stor_ints | (intro _ _ u hu; simp at hu; subst hu; rfl)); (simp [ints]; omega); decide; rfl; rfl; intro sv)
          | (apply px_append 4 ez_int; rfl; rfl; rfl; (first | exact rd_old (by assumption) | exact rd_row 0 rfl | exact rd_row 1 rfl | exact rd_row 2 rfl | exact rd_row 3 rfl); (first | exact fun _ _ => stor_ints | (intro _ _ u hu; simp at hu; subst hu; rfl)); (simp [ints]; omega); decide; rfl; rfl; intro sv))
      · refine qround_normal ?_ ⟨(k + 1, _), ⟨rfl, rfl, trivial⟩, ⟨by dsimp only; omega, by dsimp only; omega⟩, by dsimp only; omega, fun w' h => ?_⟩
        · repeat (first | exact same_refl | refine same_upd rfl ?_ | refine same_junk rfl ?_)
        · rw [if_pos hc] at hsucc
          dsimp only
          rw [hsucc, ← ints_snoc]
          exact Cl.sub (by assumption) (by repeat (first | exact List.Sublist.slnil | exact List.Sublist.refl _ | apply List.Sublist.cons_cons | apply List.Sublist.cons))
      · refine qround_normal ?_ ⟨(k + 1, so), ⟨rfl, rfl, trivial⟩, ⟨by dsimp only; omega, by dsimp only; omega⟩, by dsimp only; omega, fun w' h => ?_⟩
        · repeat (first | exact same_refl | refine same_upd rfl ?_ | refine same_junk rfl ?_)
        · rw [if_neg hc] at hsucc
          dsimp only
          rw [hsucc]
          exact Cl.sub (by assumption) (by repeat (first | exact List.Sublist.slnil | exact List.Sublist.refl _ | apply List.Sublist.cons_cons | apply List.Sublist.cons))
    · obtain rfl : k = N := by omega
      repeat' (first
          | apply pwp_seq
          | apply pwp_region
          | (apply px_run; (first
              | (apply opv_move; first | exact hid_int rfl | exact hid_bool rfl | exact hid_ptr rfl | rfl)
              | (apply opv_assign; first | exact hid_int rfl | exact hid_bool rfl | exact hid_ptr rfl | rfl)
              | (apply opv_lss <;> rfl)
              | (apply opv_leq <;> rfl)
              | (apply opv_gtr <;> rfl)
              | (apply opv_geq <;> rfl)
              | (apply opv_eql <;> rfl)
              | (apply opv_neq <;> rfl)
              | (apply opv_and <;> rfl)
              | (apply opv_or <;> rfl)
              | (apply opv_xor <;> rfl)
              | (apply opv_andNot <;> rfl)
              | (apply opv_pick_t <;> rfl)
              | (apply opv_pick_f <;> rfl)
              | (apply opv_not_dec <;> rfl)
              | (apply opv_not <;> rfl)
              | (apply opv_neg <;> rfl)
              | (apply opv_add_in; rfl; rfl; omega)
              | (apply opv_sub_in; rfl; rfl; omega)
              | (apply opv_mul_in; rfl; rfl; omega)
              | (apply opv_shl; rfl; rfl; omega)
              | (apply opv_shr; rfl; rfl; omega)
              | (apply opv_quo; rfl; rfl; omega)
              | (apply opv_rem; rfl; rfl; omega)
              | (apply opv_field fld_G0; rfl)
              | (apply opv_field fld_G1; rfl)
              | (apply opv_load_blk 0; (first | with_reducible exact sc_int | with_reducible exact sc_ints); rfl; rfl; rfl)
              | (apply opv_load_blk 1; (first | with_reducible exact sc_int | with_reducible exact sc_ints); rfl; rfl; rfl)
              | (apply opv_load_blk 2; (first | with_reducible exact sc_int | with_reducible exact sc_ints); rfl; rfl; rfl)
              | (apply opv_load_blk 3; (first | with_reducible exact sc_int | with_reducible exact sc_ints); rfl; rfl; rfl)
              | (apply opv_load_blk 4; (first | with_reducible exact sc_int | with_reducible exact sc_ints); rfl; rfl; rfl)
              | (apply opv_load_ints sc_int; rfl; (first | exact rd_old (by assumption) | exact rd_row 0 rfl | exact rd_row 1 rfl | exact rd_row 2 rfl | exact rd_row 3 rfl | exact rd_row 4 rfl); (first | omega | (simp only [List.length_set]; omega)))
              | (apply opv_index_nat (vs := ints _) el_int; rfl; rfl; (first | exact rd_old (by assumption) | exact rd_row 0 rfl | exact rd_row 1 rfl | exact rd_row 2 rfl | exact rd_row 3 rfl | exact rd_row 4 rfl); (first | (simp only [ints_length]; omega) | (simp [ints]; omega)))
              | (apply opv_index (vs := ints _) el_int; rfl; rfl; (first | exact rd_old (by assumption) | exact rd_row 0 rfl | exact rd_row 1 rfl | exact rd_row 2 rfl | exact rd_row 3 rfl | exact rd_row 4 rfl); omega; (first | (simp only [ints_length]; omega) | (simp [ints]; omega)))
              | (apply opv_len_ints el_int; rfl; (first | exact rd_old (by assumption) | exact rd_row 0 rfl | exact rd_row 1 rfl | exact rd_row 2 rfl | exact rd_row 3 rfl | exact rd_row 4 rfl))
              | (apply opv_load_str 0 st_G; rfl; rfl; rfl)
              | (apply opv_load_str 1 st_G; rfl; rfl; rfl)
              | (apply opv_load_str 2 st_G; rfl; rfl; rfl)
              | (apply opv_load_str 3 st_G; rfl; rfl; rfl)
              | (apply opv_load_str 4 st_G; rfl; rfl; rfl)
              | (apply opv_call; rfl; rfl; exact Cl.stable _ _ _; exact fun w hw => i_all_c _ _ _ hsz)
              | (apply opv_add <;> rfl)
              | (apply opv_sub <;> rfl)
              | (apply opv_mul <;> rfl)
              | (apply opv_eql_bool ty_bool <;> rfl)
              | (apply opv_neq_bool ty_bool <;> rfl)); rfl; rfl)
          | apply px_nil
          | (apply px_skip; rfl; rfl)
          | apply qseq_normal
          | apply qseq_ret
          | apply qseq_exit
          | apply pwp_block
          | apply qblock_normal
          | apply qblock_ret
          | (apply qblock_exit_same; rfl)
          | (apply qblock_exit_other; rfl)
          | apply pwp_skip
          | apply pwp_exit
          | apply pwp_ret
          | apply qround_ret
          | apply qround_exit
          | apply qonce_ret
          | apply qonce_exit
          | (apply pwp_cond_t; rfl)
          | (apply pwp_cond_f; rfl)
          | (apply pwp_region_mix; kernel_rfl; decide +kernel; exact Cl.stable _ _ _)
          | (apply pwp_region_draw; kernel_rfl; kernel_rfl; exact Cl.stable _ _ _)
          | (apply px_guard_ndec; rfl; rfl; rfl; all_goals (intro hc; try (first | contradiction | (exfalso; omega) | (exfalso; simp at hc; done))))
          | (apply px_guard_dec; rfl; rfl; rfl; all_goals (intro hc; try (first | contradiction | (exfalso; omega) | (exfalso; simp at hc; done))))
          | (apply px_guard_not; rfl; rfl; rfl; all_goals (intro hc; try (first | contradiction | (exfalso; omega) | (exfalso; simp at hc; done))))
          | (apply px_guard; rfl; rfl; rfl; all_goals (intro hc; (first | contradiction | (fail_if_success (cases hc); try (first | (exfalso; omega) | (exfalso; simp at hc; done))))))
          | (apply pwp_cond_ndec; rfl; all_goals (intro hc; try (first | contradiction | (exfalso; omega) | (exfalso; simp at hc; done))))
          | (apply pwp_cond_dec; rfl; all_goals (intro hc; try (first | contradiction | (exfalso; omega) | (exfalso; simp at hc; done))))
          | (apply pwp_cond_not; rfl; all_goals (intro hc; try (first | contradiction | (exfalso; omega) | (exfalso; simp at hc; done))))
          | (apply pwp_cond; rfl; all_goals (intro hc; try (first | contradiction | (exfalso; omega) | (exfalso; simp at hc; done))))
          | (apply px_box; rfl; rfl; rfl; rfl; intro bk))
      refine qbody_ret1 (v := so) rfl rfl ⟨_, rfl, fun w' h => ?_⟩
      exact Cl.sub (by assumption) (by repeat (first | exact List.Sublist.slnil | exact List.Sublist.refl _ | apply List.Sublist.cons_cons | apply List.Sublist.cons))
  · repeat' (first
      | apply pwp_seq
      | apply pwp_region
      | (apply px_run; (first
          | (apply opv_move; first | exact hid_int rfl | exact hid_bool rfl | exact hid_ptr rfl | rfl)
          | (apply opv_assign; first | exact hid_int rfl | exact hid_bool rfl | exact hid_ptr rfl | rfl)
          | (apply opv_lss <;> rfl)
          | (apply opv_leq <;> rfl)
          | (apply opv_gtr <;> rfl)
          | (apply opv_geq <;> rfl)
          | (apply opv_eql <;> rfl)
          | (apply opv_neq <;> rfl)
          | (apply opv_and <;> rfl)
          | (apply opv_or <;> rfl)
          | (apply opv_xor <;> rfl)
          | (apply opv_andNot <;> rfl)
          | (apply opv_pick_t <;> rfl)
          | (apply opv_pick_f <;> rfl)
          | (apply opv_not_dec <;> rfl)
          | (apply opv_not <;> rfl)
          | (apply opv_neg <;> rfl)
          | (apply opv_add_in; rfl; rfl; omega)
          | (apply opv_sub_in; rfl; rfl; omega)
          | (apply opv_mul_in; rfl; rfl; omega)
          | (apply opv_shl; rfl; rfl; omega)
          | (apply opv_shr; rfl; rfl; omega)
          | (apply opv_quo; rfl; rfl; omega)
          | (apply opv_rem; rfl; rfl; omega)
          | (apply opv_field fld_G0; rfl)
          | (apply opv_field fld_G1; rfl)
          | (apply opv_load_blk 0; (first | with_reducible exact sc_int | with_reducible exact sc_ints); rfl; rfl; rfl)
          | (apply opv_load_blk 1; (first | with_reducible exact sc_int | with_reducible exact sc_ints); rfl; rfl; rfl)
          | (apply opv_load_blk 2; (first | with_reducible exact sc_int | with_reducible exact sc_ints); rfl; rfl; rfl)
          | (apply opv_load_blk 3; (first | with_reducible exact sc_int | with_reducible exact sc_ints); rfl; rfl; rfl)
          | (apply opv_load_blk 4; (first | with_reducible exact sc_int | with_reducible exact sc_ints); rfl; rfl; rfl)
          | (apply opv_load_ints sc_int; rfl; (first | exact rd_old (by assumption) | exact rd_row 0 rfl | exact rd_row 1 rfl | exact rd_row 2 rfl | exact rd_row 3 rfl | exact rd_row 4 rfl); (first | omega | (simp only [List.length_set]; omega)))
          | (apply opv_index_nat (vs := ints _) el_int; rfl; rfl; (first | exact rd_old (by assumption) | exact rd_row 0 rfl | exact rd_row 1 rfl | exact rd_row 2 rfl | exact rd_row 3 rfl | exact rd_row 4 rfl); (first | (simp only [ints_length]; omega) | (simp [ints]; omega)))
          | (apply opv_index (vs := ints _) el_int; rfl; rfl; (first | exact rd_old (by assumption) | exact rd_row 0 rfl | exact rd_row 1 rfl | exact rd_row 2 rfl | exact rd_row 3 rfl | exact rd_row 4 rfl); omega; (first | (simp only [ints_length]; omega) | (simp [ints]; omega)))
          | (apply opv_len_ints el_int; rfl; (first | exact rd_old (by assumption) | exact rd_row 0 rfl | exact rd_row 1 rfl | exact rd_row 2 rfl | exact rd_row 3 rfl | exact rd_row 4 rfl))
          | (apply opv_load_str 0 st_G; rfl; rfl; rfl)
          | (apply opv_load_str 1 st_G; rfl; rfl; rfl)
          | (apply opv_load_str 2 st_G; rfl; rfl; rfl)
          | (apply opv_load_str 3 st_G; rfl; rfl; rfl)
          | (apply opv_load_str 4 st_G; rfl; rfl; rfl)
          | (apply opv_call; rfl; rfl; exact Cl.stable _ _ _; exact fun w hw => i_IsGraph_c _ _ rows _ (by first | exact hw.arr (by assumption) | exact hw.rowArr (k := 0) rfl | exact hw.rowArr (k := 1) rfl | exact hw.rowArr (k := 2) rfl | exact hw.rowArr (k := 3) rfl | exact hw.rowArr (k := 4) rfl | exact hw.rowArr (k := 5) rfl | exact hw.rowArr (k := 6) rfl | exact hw.rowArr (k := 7) rfl | exact hw.rowArr (k := 8) rfl | exact hw.rowArr (k := 9) rfl | exact hw.rowArr (k := 10) rfl | exact hw.rowArr (k := 11) rfl | exact hw.rowArr (k := 12) rfl | exact hw.rowArr (k := 13) rfl | exact hw.rowArr (k := 14) rfl | exact hw.rowArr (k := 15) rfl | exact hw.rowArr (k := 16) rfl | exact hw.rowArr (k := 17) rfl | exact hw.rowArr (k := 18) rfl | exact hw.rowArr (k := 19) rfl))
          | (apply opv_add <;> rfl)
          | (apply opv_sub <;> rfl)
          | (apply opv_mul <;> rfl)
          | (apply opv_eql_bool ty_bool <;> rfl)
          | (apply opv_neq_bool ty_bool <;> rfl)); rfl; rfl)
      | apply px_nil
      | (apply px_skip; rfl; rfl)
      | apply qseq_normal
      | apply qseq_ret
      | apply qseq_exit
      | apply pwp_block
      | apply qblock_normal
      | apply qblock_ret
      | (apply qblock_exit_same; rfl)
      | (apply qblock_exit_other; rfl)
      | apply pwp_skip
      | apply pwp_exit
      | apply pwp_ret
      | apply qround_ret
      | apply qround_exit
      | apply qonce_ret
      | apply qonce_exit
      | (apply pwp_cond_t; rfl)
      | (apply pwp_cond_f; rfl)
      | (apply pwp_region_mix; kernel_rfl; decide +kernel; exact Cl.stable _ _ _)
      | (apply pwp_region_draw; kernel_rfl; kernel_rfl; exact Cl.stable _ _ _)
      | (apply px_guard_ndec; rfl; rfl; rfl; all_goals (intro hc; try (first | contradiction | (exfalso; omega) | (exfalso; simp at hc; done))))
      | (apply px_guard_dec; rfl; rfl; rfl; all_goals (intro hc; try (first | contradiction | (exfalso; omega) | (exfalso; simp at hc; done))))
      | (apply px_guard_not; rfl; rfl; rfl; all_goals (intro hc; try (first | contradiction | (exfalso; omega) | (exfalso; simp at hc; done))))
      | (apply px_guard; rfl; rfl; rfl; all_goals (intro hc; (first | contradiction | (fail_if_success (cases hc); try (first | (exfalso; omega) | (exfalso; simp at hc; done))))))
      | (apply pwp_cond_ndec; rfl; all_goals (intro hc; try (first | contradiction | (exfalso; omega) | (exfalso; simp at hc; done))))
      | (apply pwp_cond_dec; rfl; all_goals (intro hc; try (first | contradiction | (exfalso; omega) | (exfalso; simp at hc; done))))
      | (apply pwp_cond_not; rfl; all_goals (intro hc; try (first | contradiction | (exfalso; omega) | (exfalso; simp at hc; done))))
      | (apply pwp_cond; rfl; all_goals (intro hc; try (first | contradiction | (exfalso; omega) | (exfalso; simp at hc; done))))
      | (apply px_box; rfl; rfl; rfl; rfl; intro bk)
      | (apply px_lit0 ez_int; rfl; rfl; rfl; intro sv))
    refine qbody_ret1 rfl rfl ⟨_, rfl, fun w' h => ?_⟩
    rw [modsL, if_neg hg]
    exact Cl.sub (by assumption) (by repeat (first | exact List.Sublist.slnil | exact List.Sublist.refl _ | apply List.Sublist.cons_cons | apply List.Sublist.cons))
theorem en_s_ModulesOf : Entry Try.prog 81 := ⟨_, Try.func81, by kernel_rfl, rfl⟩
set_option maxHeartbeats 800000 in
theorem s_ModulesOf_c (size : Int) (gv : Value) (rows : List Int) (w : World) (hr : Arr w gv (ints rows)) :
    Gives Try.prog 81 #[.agg #[.int .i64 size, gv]] w (fun v objs => objs = [.row 3 v (ints (modsL size rows))]) := by
  refine gives_enter (args := [_]) en_s_ModulesOf Try.func81 rfl Try.ntmps81 rfl ?_
  by_cases hg : IsG size rows
  · have hsz : 0 ≤ size ∧ size ≤ 7 := ⟨by have := hg.1; omega, hg.1.2⟩
    obtain ⟨hz1, hz2⟩ := hsz
    obtain ⟨N, hN, hN', hN1, hN2⟩ := shl_nat hg
    rw [modsL, if_pos hg, hN']
    repeat' (first
        | apply pwp_seq
        | apply pwp_region
        | (apply px_run; (first
            | (apply opv_move; first | exact hid_int rfl | exact hid_bool rfl | exact hid_ptr rfl | rfl)
            | (apply opv_assign; first | exact hid_int rfl | exact hid_bool rfl | exact hid_ptr rfl | rfl)
            | (apply opv_lss <;> rfl)
            | (apply opv_leq <;> rfl)
            | (apply opv_gtr <;> rfl)
            | (apply opv_geq <;> rfl)
            | (apply opv_eql <;> rfl)
            | (apply opv_neq <;> rfl)
            | (apply opv_and <;> rfl)
            | (apply opv_or <;> rfl)
            | (apply opv_xor <;> rfl)
            | (apply opv_andNot <;> rfl)
            | (apply opv_pick_t <;> rfl)
            | (apply opv_pick_f <;> rfl)
            | (apply opv_not_dec <;> rfl)
            | (apply opv_not <;> rfl)
            | (apply opv_neg <;> rfl)
            | (apply opv_add_in; rfl; rfl; omega)
            | (apply opv_sub_in; rfl; rfl; omega)
            | (apply opv_mul_in; rfl; rfl; omega)
            | (apply opv_shl; rfl; rfl; omega)
            | (apply opv_shr; rfl; rfl; omega)
            | (apply opv_quo; rfl; rfl; omega)
            | (apply opv_rem; rfl; rfl; omega)
            | (apply opv_field fld_G0; rfl)
            | (apply opv_field fld_G1; rfl)
            | (apply opv_load_blk 0; (first | with_reducible exact sc_int | with_reducible exact sc_ints); rfl; rfl; rfl)
            | (apply opv_load_blk 1; (first | with_reducible exact sc_int | with_reducible exact sc_ints); rfl; rfl; rfl)
            | (apply opv_load_blk 2; (first | with_reducible exact sc_int | with_reducible exact sc_ints); rfl; rfl; rfl)
            | (apply opv_load_blk 3; (first | with_reducible exact sc_int | with_reducible exact sc_ints); rfl; rfl; rfl)
            | (apply opv_load_blk 4; (first | with_reducible exact sc_int | with_reducible exact sc_ints); rfl; rfl; rfl)
            | (apply opv_load_ints sc_int; rfl; (first | exact rd_old (by assumption) | exact rd_row 0 rfl | exact rd_row 1 rfl | exact rd_row 2 rfl | exact rd_row 3 rfl | exact rd_row 4 rfl); (first | omega | (simp only [List.length_set]; omega)))
            | (apply opv_index_nat (vs := ints _) el_int; rfl; rfl; (first | exact rd_old (by assumption) | exact rd_row 0 rfl | exact rd_row 1 rfl | exact rd_row 2 rfl | exact rd_row 3 rfl | exact rd_row 4 rfl); (first | (simp only [ints_length]; omega) | (simp [ints]; omega)))
            | (apply opv_index (vs := ints _) el_int; rfl; rfl; (first | exact rd_old (by assumption) | exact rd_row 0 rfl | exact rd_row 1 rfl | exact rd_row 2 rfl | exact rd_row 3 rfl | exact rd_row 4 rfl); omega; (first | (simp only [ints_length]; omega) | (simp [ints]; omega)))
            | (apply opv_len_ints el_int; rfl; (first | exact rd_old (by assumption) | exact rd_row 0 rfl | exact rd_row 1 rfl | exact rd_row 2 rfl | exact rd_row 3 rfl | exact rd_row 4 rfl))
            | (apply opv_load_str 0 st_G; rfl; rfl; rfl)
            | (apply opv_load_str 1 st_G; rfl; rfl; rfl)
            | (apply opv_load_str 2 st_G; rfl; rfl; rfl)
            | (apply opv_load_str 3 st_G; rfl; rfl; rfl)
            | (apply opv_load_str 4 st_G; rfl; rfl; rfl)
            | (apply opv_add <;> rfl)
            | (apply opv_sub <;> rfl)
            | (apply opv_mul <;> rfl)
            | (apply opv_eql_bool ty_bool <;> rfl)
            | (apply opv_neq_bool ty_bool <;> rfl)); rfl; rfl)
        | apply px_nil
        | (apply px_skip; rfl; rfl)
        | apply qseq_normal
        | apply qseq_ret
        | apply qseq_exit
        | apply pwp_block
        | apply qblock_normal
        | apply qblock_ret
        | (apply qblock_exit_same; rfl)
        | (apply qblock_exit_other; rfl)
        | apply pwp_skip
        | apply pwp_exit
        | apply pwp_ret
        | apply qround_ret
        | apply qround_exit
        | apply qonce_ret
        | apply qonce_exit
        | (apply pwp_cond_t; rfl)
        | (apply pwp_cond_f; rfl)
        | (apply pwp_region_mix; kernel_rfl; decide +kernel; exact Cl.stable _ _ _)
        | (apply pwp_region_draw; kernel_rfl; kernel_rfl; exact Cl.stable _ _ _)
        | (apply px_guard_ndec; rfl; rfl; rfl; all_goals (intro hc; try (first | contradiction | (exfalso; omega) | (exfalso; simp at hc; done))))
        | (apply px_guard_dec; rfl; rfl; rfl; all_goals (intro hc; try (first | contradiction | (exfalso; omega) | (exfalso; simp at hc; done))))
        | (apply px_guard_not; rfl; rfl; rfl; all_goals (intro hc; try (first | contradiction | (exfalso; omega) | (exfalso; simp at hc; done))))
        | (apply px_guard; rfl; rfl; rfl; all_goals (intro hc; (first | contradiction | (fail_if_success (cases hc); try (first | (exfalso; omega) | (exfalso; simp at hc; done))))))
        | (apply pwp_cond_ndec; rfl; all_goals (intro hc; try (first | contradiction | (exfalso; omega) | (exfalso; simp at hc; done))))
        | (apply pwp_cond_dec; rfl; all_goals (intro hc; try (first | contradiction | (exfalso; omega) | (exfalso; simp at hc; done))))
        | (apply pwp_cond_not; rfl; all_goals (intro hc; try (first | contradiction | (exfalso; omega) | (exfalso; simp at hc; done))))
        | (apply pwp_cond; rfl; all_goals (intro hc; try (first | contradiction | (exfalso; omega) | (exfalso; simp at hc; done))))
        | (apply px_box; rfl; rfl; rfl; rfl; intro bk)
        | (apply px_lit0 ez_int; rfl; rfl; rfl; intro sv))
    refine pwp_loop (τ := Nat × Value) [(3,4), (6,23)] (fun x => [(4, .int .i64 (x.1 : Int)), (3, x.2)]) (fun x => Cl [] w [.row 3 x.2 (ints (modsU rows x.1)), .blk bk [.int .i64 size, gv]]) (fun x => 1 ≤ x.1 ∧ x.1 ≤ N) (fun x => N - x.1) (1, sv)
      ⟨rfl, rfl, trivial⟩ ⟨Nat.le_refl _, hN1⟩ (fun _ h => by dsimp only; rw [modsU_one]; exact h) (fun J x hk => ?_)
    obtain ⟨k, so⟩ := x
    obtain ⟨hk1, hk⟩ := hk
    have hl := modsU_length rows k
    dsimp only at hk hk1 ⊢
    by_cases hlt : k < N
    · have hsucc := modsU_succ rows k
      have hmod : modP size rows (k : Nat) ↔ modQ rows (k : Nat) := ⟨fun h => h.2, fun h => ⟨⟨hg, by omega, by omega⟩, h⟩⟩
      repeat' (first
          | apply pwp_seq
          | apply pwp_region
          | (apply px_run; (first
              | (apply opv_move; first | exact hid_int rfl | exact hid_bool rfl | exact hid_ptr rfl | rfl)
              | (apply opv_assign; first | exact hid_int rfl | exact hid_bool rfl | exact hid_ptr rfl | rfl)
              | (apply opv_lss <;> rfl)
              | (apply opv_leq <;> rfl)
              | (apply opv_gtr <;> rfl)
              | (apply opv_geq <;> rfl)
              | (apply opv_eql <;> rfl)
              | (apply opv_neq <;> rfl)
              | (apply opv_and <;> rfl)
              | (apply opv_or <;> rfl)
              | (apply opv_xor <;> rfl)
              | (apply opv_andNot <;> rfl)
              | (apply opv_pick_t <;> rfl)
              | (apply opv_pick_f <;> rfl)
              | (apply opv_not_dec <;> rfl)
              | (apply opv_not <;> rfl)
              | (apply opv_neg <;> rfl)
              | (apply opv_add_in; rfl; rfl; omega)
              | (apply opv_sub_in; rfl; rfl; omega)
              | (apply opv_mul_in; rfl; rfl; omega)
              | (apply opv_shl; rfl; rfl; omega)
              | (apply opv_shr; rfl; rfl; omega)
              | (apply opv_quo; rfl; rfl; omega)
              | (apply opv_rem; rfl; rfl; omega)
              | (apply opv_field fld_G0; rfl)
              | (apply opv_field fld_G1; rfl)
              | (apply opv_load_blk 0; (first | with_reducible exact sc_int | with_reducible exact sc_ints); rfl; rfl; rfl)
              | (apply opv_load_blk 1; (first | with_reducible exact sc_int | with_reducible exact sc_ints); rfl; rfl; rfl)
              | (apply opv_load_blk 2; (first | with_reducible exact sc_int | with_reducible exact sc_ints); rfl; rfl; rfl)
              | (apply opv_load_blk 3; (first | with_reducible exact sc_int | with_reducible exact sc_ints); rfl; rfl; rfl)
              | (apply opv_load_blk 4; (first | with_reducible exact sc_int | with_reducible exact sc_ints); rfl; rfl; rfl)
              | (apply opv_load_ints sc_int; rfl; (first | exact rd_old (by assumption) | exact rd_row 0 rfl | exact rd_row 1 rfl | exact rd_row 2 rfl | exact rd_row 3 rfl | exact rd_row 4 rfl); (first | omega | (simp only [List.length_set]; omega)))
              | (apply opv_index_nat (vs := ints _) el_int; rfl; rfl; (first | exact rd_old (by assumption) | exact rd_row 0 rfl | exact rd_row 1 rfl | exact rd_row 2 rfl | exact rd_row 3 rfl | exact rd_row 4 rfl); (first | (simp only [ints_length]; omega) | (simp [ints]; omega)))
              | (apply opv_index (vs := ints _) el_int; rfl; rfl; (first | exact rd_old (by assumption) | exact rd_row 0 rfl | exact rd_row 1 rfl | exact rd_row 2 rfl | exact rd_row 3 rfl | exact rd_row 4 rfl); omega; (first | (simp only [ints_length]; omega) | (simp [ints]; omega)))
              | (apply opv_len_ints el_int; rfl; (first | exact rd_old (by assumption) | exact rd_row 0 rfl | exact rd_row 1 rfl | exact rd_row 2 rfl | exact rd_row 3 rfl | exact rd_row 4 rfl))
              | (apply opv_load_str 0 st_G; rfl; rfl; rfl)
              | (apply opv_load_str 1 st_G; rfl; rfl; rfl)
              | (apply opv_load_str 2 st_G; rfl; rfl; rfl)
              | (apply opv_load_str 3 st_G; rfl; rfl; rfl)
              | (apply opv_load_str 4 st_G; rfl; rfl; rfl)
              | (apply opv_call; rfl; rfl; exact Cl.stable _ _ _; exact fun w hw => s_IsGraph_c _ _ rows _ (by first | exact hw.arr (by assumption) | exact hw.rowArr (k := 0) rfl | exact hw.rowArr (k := 1) rfl | exact hw.rowArr (k := 2) rfl | exact hw.rowArr (k := 3) rfl | exact hw.rowArr (k := 4) rfl | exact hw.rowArr (k := 5) rfl | exact hw.rowArr (k := 6) rfl | exact hw.rowArr (k := 7) rfl | exact hw.rowArr (k := 8) rfl | exact hw.rowArr (k := 9) rfl | exact hw.rowArr (k := 10) rfl | exact hw.rowArr (k := 11) rfl | exact hw.rowArr (k := 12) rfl | exact hw.rowArr (k := 13) rfl | exact hw.rowArr (k := 14) rfl | exact hw.rowArr (k := 15) rfl | exact hw.rowArr (k := 16) rfl | exact hw.rowArr (k := 17) rfl | exact hw.rowArr (k := 18) rfl | exact hw.rowArr (k := 19) rfl))
              | (apply opv_call; rfl; rfl; exact Cl.stable _ _ _; exact fun w hw => s_IsModule_c _ _ rows _ _ (by first | exact hw.arr (by assumption) | exact hw.rowArr (k := 0) rfl | exact hw.rowArr (k := 1) rfl | exact hw.rowArr (k := 2) rfl | exact hw.rowArr (k := 3) rfl | exact hw.rowArr (k := 4) rfl | exact hw.rowArr (k := 5) rfl | exact hw.rowArr (k := 6) rfl | exact hw.rowArr (k := 7) rfl | exact hw.rowArr (k := 8) rfl | exact hw.rowArr (k := 9) rfl | exact hw.rowArr (k := 10) rfl | exact hw.rowArr (k := 11) rfl | exact hw.rowArr (k := 12) rfl | exact hw.rowArr (k := 13) rfl | exact hw.rowArr (k := 14) rfl | exact hw.rowArr (k := 15) rfl | exact hw.rowArr (k := 16) rfl | exact hw.rowArr (k := 17) rfl | exact hw.rowArr (k := 18) rfl | exact hw.rowArr (k := 19) rfl))
              | (apply opv_add <;> rfl)
              | (apply opv_sub <;> rfl)
              | (apply opv_mul <;> rfl)
              | (apply opv_eql_bool ty_bool <;> rfl)
              | (apply opv_neq_bool ty_bool <;> rfl)); rfl; rfl)
          | apply px_nil
          | (apply px_skip; rfl; rfl)
          | apply qseq_normal
          | apply qseq_ret
          | apply qseq_exit
          | apply pwp_block
          | apply qblock_normal
          | apply qblock_ret
          | (apply qblock_exit_same; rfl)
          | (apply qblock_exit_other; rfl)
          | apply pwp_skip
          | apply pwp_exit
          | apply pwp_ret
          | apply qround_ret
          | apply qround_exit
          | apply qonce_ret
          | apply qonce_exit
          | (apply pwp_cond_t; rfl)
          | (apply pwp_cond_f; rfl)
          | (apply pwp_region_mix; kernel_rfl; decide +kernel; exact Cl.stable _ _ _)
          | (apply pwp_region_draw; kernel_rfl; kernel_rfl; exact Cl.stable _ _ _)
          | (apply px_guard_ndec; rfl; rfl; rfl; all_goals (intro hc; try (first | contradiction | (exfalso; omega) | (exfalso; simp at hc; done))))
          | (apply px_guard_dec; rfl; rfl; rfl; all_goals (intro hc; try (first | contradiction | (exfalso; omega) | (exfalso; simp at hc; done))))
          | (apply px_guard_not; rfl; rfl; rfl; all_goals (intro hc; try (first | contradiction | (exfalso; omega) | (exfalso; simp at hc; done))))
          | (apply px_guard; rfl; rfl; rfl; all_goals (intro hc; (first | contradiction | (fail_if_success (cases hc); try (first | (exfalso; omega) | (exfalso; simp at hc; done))))))
          | (apply pwp_cond_ndec; rfl; all_goals (intro hc; try (first | contradiction | (exfalso; omega) | (exfalso; simp at hc; done))))
          | (apply pwp_cond_dec; rfl; all_goals (intro hc; try (first | contradiction | (exfalso; omega) | (exfalso; simp at hc; done))))
          | (apply pwp_cond_not; rfl; all_goals (intro hc; try (first | contradiction | (exfalso; omega) | (exfalso; simp at hc; done))))
          | (apply pwp_cond; rfl; all_goals (intro hc; try (first | contradiction | (exfalso; omega) | (exfalso; simp at hc; done))))
          | (apply px_box; rfl; rfl; rfl; rfl; intro bk)
          | (apply px_lit1 ez_int; rfl; (intro w hw; (first | rfl | assumption | exact stor_row 0 hw rfl | exact stor_row 1 hw rfl | exact stor_row 2 hw rfl | exact stor_row 3 hw rfl | exact stor_row 4 hw rfl | exact stor_arr (by assumption) | exact stor_mem hw (by repeat (first | assumption | apply List.mem_cons_of_mem | apply List.mem_append_right)))); rfl; rfl; rfl; intro sv)
          | (apply px_append 0 ez_int; rfl; rfl; rfl; (first | exact rd_old (by assumption) | exact rd_row 0 rfl | exact rd_row 1 rfl | exact rd_row 2 rfl | exact rd_row 3 rfl); (first | exact fun _ _ => stor_ints | (intro _ _ u hu; simp at hu; subst hu; rfl)); (simp [ints]; omega); decide; rfl; rfl; intro sv)
          | (apply px_append 1 ez_int; rfl; rfl; rfl; (first | exact rd_old (by assumption) | exact rd_row 0 rfl | exact rd_row 1 rfl | exact rd_row 2 rfl | exact rd_row 3 rfl); (first | exact fun _ _ => stor_ints | (intro _ _ u hu; simp at hu; subst hu; rfl)); (simp [ints]; omega); decide; rfl; rfl; intro sv)
          | (apply px_append 2 ez_int; rfl; rfl; rfl; (first | exact rd_old (by assumption) | exact rd_row 0 rfl | exact rd_row 1 rfl | exact rd_row 2 rfl | exact rd_row 3 rfl); (first | exact fun _ _ => stor_ints | (intro _ _ u hu; simp at hu; subst hu; rfl)); (simp [ints]; omega); decide; rfl; rfl; intro sv)
          | (apply px_append 3 ez_int; rfl; rfl; rfl; (first | exact rd_old (by assumption) | exact rd_row 0 rfl | exact rd_row 1 rfl | exact rd_row 2 rfl | exact rd_row 3 rfl); (first | exact fun _ _ => stor_ints | (intro _ _ u hu; simp at hu; subst hu; rfl)); (simp [ints]; omega); decide; rfl; rfl; intro sv)
          | (apply px_append 4 ez_int; rfl; rfl; rfl; (first | exact rd_old (by assumption) | exact rd_row 0 rfl | exact rd_row 1 rfl | exact rd_row 2 rfl | exact rd_row 3 rfl); (first | exact fun _ _ => stor_ints | (intro _ _ u hu; simp at hu; subst hu; rfl)); (simp [ints]; omega); decide; rfl; rfl; intro sv))
      · refine qround_normal ?_ ⟨(k + 1, _), ⟨rfl, rfl, trivial⟩, ⟨by dsimp only; omega, by dsimp only; omega⟩, by dsimp only; omega, fun w' h => ?_⟩
        · repeat (first | exact same_refl | refine same_upd rfl ?_ | refine same_junk rfl ?_)
        · rw [if_pos (hmod.1 hc)] at hsucc
          dsimp only
          rw [hsucc, ← ints_snoc]
          exact Cl.sub (by assumption) (by repeat (first | exact List.Sublist.slnil | exact List.Sublist.refl _ | apply List.Sublist.cons_cons | apply List.Sublist.cons))
      · refine qround_normal ?_ ⟨(k + 1, so), ⟨rfl, rfl, trivial⟩, ⟨by dsimp only; omega, by dsimp only; omega⟩, by dsimp only; omega, fun w' h => ?_⟩
        · repeat (first | exact same_refl | refine same_upd rfl ?_ | refine same_junk rfl ?_)
        · rw [if_neg (fun h => hc (hmod.2 h))] at hsucc
          dsimp only
          rw [hsucc]
          exact Cl.sub (by assumption) (by repeat (first | exact List.Sublist.slnil | exact List.Sublist.refl _ | apply List.Sublist.cons_cons | apply List.Sublist.cons))
    · obtain rfl : k = N := by omega
      repeat' (first
          | apply pwp_seq
          | apply pwp_region
          | (apply px_run; (first
              | (apply opv_move; first | exact hid_int rfl | exact hid_bool rfl | exact hid_ptr rfl | rfl)
              | (apply opv_assign; first | exact hid_int rfl | exact hid_bool rfl | exact hid_ptr rfl | rfl)
              | (apply opv_lss <;> rfl)
              | (apply opv_leq <;> rfl)
              | (apply opv_gtr <;> rfl)
              | (apply opv_geq <;> rfl)
              | (apply opv_eql <;> rfl)
              | (apply opv_neq <;> rfl)
              | (apply opv_and <;> rfl)
              | (apply opv_or <;> rfl)
              | (apply opv_xor <;> rfl)
              | (apply opv_andNot <;> rfl)
              | (apply opv_pick_t <;> rfl)
              | (apply opv_pick_f <;> rfl)
              | (apply opv_not_dec <;> rfl)
              | (apply opv_not <;> rfl)
              | (apply opv_neg <;> rfl)
              | (apply opv_add_in; rfl; rfl; omega)
              | (apply opv_sub_in; rfl; rfl; omega)
              | (apply opv_mul_in; rfl; rfl; omega)
              | (apply opv_shl; rfl; rfl; omega)
              | (apply opv_shr; rfl; rfl; omega)
              | (apply opv_quo; rfl; rfl; omega)
              | (apply opv_rem; rfl; rfl; omega)
              | (apply opv_field fld_G0; rfl)
              | (apply opv_field fld_G1; rfl)
              | (apply opv_load_blk 0; (first | with_reducible exact sc_int | with_reducible exact sc_ints); rfl; rfl; rfl)
              | (apply opv_load_blk 1; (first | with_reducible exact sc_int | with_reducible exact sc_ints); rfl; rfl; rfl)
              | (apply opv_load_blk 2; (first | with_reducible exact sc_int | with_reducible exact sc_ints); rfl; rfl; rfl)
              | (apply opv_load_blk 3; (first | with_reducible exact sc_int | with_reducible exact sc_ints); rfl; rfl; rfl)
              | (apply opv_load_blk 4; (first | with_reducible exact sc_int | with_reducible exact sc_ints); rfl; rfl; rfl)
              | (apply opv_load_ints sc_int; rfl; (first | exact rd_old (by assumption) | exact rd_row 0 rfl | exact rd_row 1 rfl | exact rd_row 2 rfl | exact rd_row 3 rfl | exact rd_row 4 rfl); (first | omega | (simp only [List.length_set]; omega)))
              | (apply opv_index_nat (vs := ints _) el_int; rfl; rfl; (first | exact rd_old (by assumption) | exact rd_row 0 rfl | exact rd_row 1 rfl | exact rd_row 2 rfl | exact rd_row 3 rfl | exact rd_row 4 rfl); (first | (simp only [ints_length]; omega) | (simp [ints]; omega)))
              | (apply opv_index (vs := ints _) el_int; rfl; rfl; (first | exact rd_old (by assumption) | exact rd_row 0 rfl | exact rd_row 1 rfl | exact rd_row 2 rfl | exact rd_row 3 rfl | exact rd_row 4 rfl); omega; (first | (simp only [ints_length]; omega) | (simp [ints]; omega)))
              | (apply opv_len_ints el_int; rfl; (first | exact rd_old (by assumption) | exact rd_row 0 rfl | exact rd_row 1 rfl | exact rd_row 2 rfl | exact rd_row 3 rfl | exact rd_row 4 rfl))
              | (apply opv_load_str 0 st_G; rfl; rfl; rfl)
              | (apply opv_load_str 1 st_G; rfl; rfl; rfl)
              | (apply opv_load_str 2 st_G; rfl; rfl; rfl)
              | (apply opv_load_str 3 st_G; rfl; rfl; rfl)
              | (apply opv_load_str 4 st_G; rfl; rfl; rfl)
              | (apply opv_call; rfl; rfl; exact Cl.stable _ _ _; exact fun w hw => s_IsGraph_c _ _ rows _ (by first | exact hw.arr (by assumption) | exact hw.rowArr (k := 0) rfl | exact hw.rowArr (k := 1) rfl | exact hw.rowArr (k := 2) rfl | exact hw.rowArr (k := 3) rfl | exact hw.rowArr (k := 4) rfl | exact hw.rowArr (k := 5) rfl | exact hw.rowArr (k := 6) rfl | exact hw.rowArr (k := 7) rfl | exact hw.rowArr (k := 8) rfl | exact hw.rowArr (k := 9) rfl | exact hw.rowArr (k := 10) rfl | exact hw.rowArr (k := 11) rfl | exact hw.rowArr (k := 12) rfl | exact hw.rowArr (k := 13) rfl | exact hw.rowArr (k := 14) rfl | exact hw.rowArr (k := 15) rfl | exact hw.rowArr (k := 16) rfl | exact hw.rowArr (k := 17) rfl | exact hw.rowArr (k := 18) rfl | exact hw.rowArr (k := 19) rfl))
              | (apply opv_add <;> rfl)
              | (apply opv_sub <;> rfl)
              | (apply opv_mul <;> rfl)
              | (apply opv_eql_bool ty_bool <;> rfl)
              | (apply opv_neq_bool ty_bool <;> rfl)); rfl; rfl)
          | apply px_nil
          | (apply px_skip; rfl; rfl)
          | apply qseq_normal
          | apply qseq_ret
          | apply qseq_exit
          | apply pwp_block
          | apply qblock_normal
          | apply qblock_ret
          | (apply qblock_exit_same; rfl)
          | (apply qblock_exit_other; rfl)
          | apply pwp_skip
          | apply pwp_exit
          | apply pwp_ret
          | apply qround_ret
          | apply qround_exit
          | apply qonce_ret
          | apply qonce_exit
          | (apply pwp_cond_t; rfl)
          | (apply pwp_cond_f; rfl)
          | (apply pwp_region_mix; kernel_rfl; decide +kernel; exact Cl.stable _ _ _)
          | (apply pwp_region_draw; kernel_rfl; kernel_rfl; exact Cl.stable _ _ _)
          | (apply px_guard_ndec; rfl; rfl; rfl; all_goals (intro hc; try (first | contradiction | (exfalso; omega) | (exfalso; simp at hc; done))))
          | (apply px_guard_dec; rfl; rfl; rfl; all_goals (intro hc; try (first | contradiction | (exfalso; omega) | (exfalso; simp at hc; done))))
          | (apply px_guard_not; rfl; rfl; rfl; all_goals (intro hc; try (first | contradiction | (exfalso; omega) | (exfalso; simp at hc; done))))
          | (apply px_guard; rfl; rfl; rfl; all_goals (intro hc; (first | contradiction | (fail_if_success (cases hc); try (first | (exfalso; omega) | (exfalso; simp at hc; done))))))
          | (apply pwp_cond_ndec; rfl; all_goals (intro hc; try (first | contradiction | (exfalso; omega) | (exfalso; simp at hc; done))))
          | (apply pwp_cond_dec; rfl; all_goals (intro hc; try (first | contradiction | (exfalso; omega) | (exfalso; simp at hc; done))))
          | (apply pwp_cond_not; rfl; all_goals (intro hc; try (first | contradiction | (exfalso; omega) | (exfalso; simp at hc; done))))
          | (apply pwp_cond; rfl; all_goals (intro hc; try (first | contradiction | (exfalso; omega) | (exfalso; simp at hc; done))))
          | (apply px_box; rfl; rfl; rfl; rfl; intro bk))
      refine qbody_ret1 (v := so) rfl rfl ⟨_, rfl, fun w' h => ?_⟩
      exact Cl.sub (by assumption) (by repeat (first | exact List.Sublist.slnil | exact List.Sublist.refl _ | apply List.Sublist.cons_cons | apply List.Sublist.cons))
  · repeat' (first
      | apply pwp_seq
      | apply pwp_region
      | (apply px_run; (first
          | (apply opv_move; first | exact hid_int rfl | exact hid_bool rfl | exact hid_ptr rfl | rfl)
          | (apply opv_assign; first | exact hid_int rfl | exact hid_bool rfl | exact hid_ptr rfl | rfl)
          | (apply opv_lss <;> rfl)
          | (apply opv_leq <;> rfl)
          | (apply opv_gtr <;> rfl)
          | (apply opv_geq <;> rfl)
          | (apply opv_eql <;> rfl)
          | (apply opv_neq <;> rfl)
          | (apply opv_and <;> rfl)
          | (apply opv_or <;> rfl)
          | (apply opv_xor <;> rfl)
          | (apply opv_andNot <;> rfl)
          | (apply opv_pick_t <;> rfl)
          | (apply opv_pick_f <;> rfl)
          | (apply opv_not_dec <;> rfl)
          | (apply opv_not <;> rfl)
          | (apply opv_neg <;> rfl)
          | (apply opv_add_in; rfl; rfl; omega)
          | (apply opv_sub_in; rfl; rfl; omega)
          | (apply opv_mul_in; rfl; rfl; omega)
          | (apply opv_shl; rfl; rfl; omega)
          | (apply opv_shr; rfl; rfl; omega)
          | (apply opv_quo; rfl; rfl; omega)
          | (apply opv_rem; rfl; rfl; omega)
          | (apply opv_field fld_G0; rfl)
          | (apply opv_field fld_G1; rfl)
          | (apply opv_load_blk 0; (first | with_reducible exact sc_int | with_reducible exact sc_ints); rfl; rfl; rfl)
          | (apply opv_load_blk 1; (first | with_reducible exact sc_int | with_reducible exact sc_ints); rfl; rfl; rfl)
          | (apply opv_load_blk 2; (first | with_reducible exact sc_int | with_reducible exact sc_ints); rfl; rfl; rfl)
          | (apply opv_load_blk 3; (first | with_reducible exact sc_int | with_reducible exact sc_ints); rfl; rfl; rfl)
          | (apply opv_load_blk 4; (first | with_reducible exact sc_int | with_reducible exact sc_ints); rfl; rfl; rfl)
          | (apply opv_load_ints sc_int; rfl; (first | exact rd_old (by assumption) | exact rd_row 0 rfl | exact rd_row 1 rfl | exact rd_row 2 rfl | exact rd_row 3 rfl | exact rd_row 4 rfl); (first | omega | (simp only [List.length_set]; omega)))
          | (apply opv_index_nat (vs := ints _) el_int; rfl; rfl; (first | exact rd_old (by assumption) | exact rd_row 0 rfl | exact rd_row 1 rfl | exact rd_row 2 rfl | exact rd_row 3 rfl | exact rd_row 4 rfl); (first | (simp only [ints_length]; omega) | (simp [ints]; omega)))
          | (apply opv_index (vs := ints _) el_int; rfl; rfl; (first | exact rd_old (by assumption) | exact rd_row 0 rfl | exact rd_row 1 rfl | exact rd_row 2 rfl | exact rd_row 3 rfl | exact rd_row 4 rfl); omega; (first | (simp only [ints_length]; omega) | (simp [ints]; omega)))
          | (apply opv_len_ints el_int; rfl; (first | exact rd_old (by assumption) | exact rd_row 0 rfl | exact rd_row 1 rfl | exact rd_row 2 rfl | exact rd_row 3 rfl | exact rd_row 4 rfl))
          | (apply opv_load_str 0 st_G; rfl; rfl; rfl)
          | (apply opv_load_str 1 st_G; rfl; rfl; rfl)
          | (apply opv_load_str 2 st_G; rfl; rfl; rfl)
          | (apply opv_load_str 3 st_G; rfl; rfl; rfl)
          | (apply opv_load_str 4 st_G; rfl; rfl; rfl)
          | (apply opv_add <;> rfl)
          | (apply opv_sub <;> rfl)
          | (apply opv_mul <;> rfl)
          | (apply opv_eql_bool ty_bool <;> rfl)
          | (apply opv_neq_bool ty_bool <;> rfl)); rfl; rfl)
      | apply px_nil
      | (apply px_skip; rfl; rfl)
      | apply qseq_normal
      | apply qseq_ret
      | apply qseq_exit
      | apply pwp_block
      | apply qblock_normal
      | apply qblock_ret
      | (apply qblock_exit_same; rfl)
      | (apply qblock_exit_other; rfl)
      | apply pwp_skip
      | apply pwp_exit
      | apply pwp_ret
      | apply qround_ret
      | apply qround_exit
      | apply qonce_ret
      | apply qonce_exit
      | (apply pwp_cond_t; rfl)
      | (apply pwp_cond_f; rfl)
      | (apply pwp_region_mix; kernel_rfl; decide +kernel; exact Cl.stable _ _ _)
      | (apply pwp_region_draw; kernel_rfl; kernel_rfl; exact Cl.stable _ _ _)
      | (apply px_guard_ndec; rfl; rfl; rfl; all_goals (intro hc; try (first | contradiction | (exfalso; omega) | (exfalso; simp at hc; done))))
      | (apply px_guard_dec; rfl; rfl; rfl; all_goals (intro hc; try (first | contradiction | (exfalso; omega) | (exfalso; simp at hc; done))))
      | (apply px_guard_not; rfl; rfl; rfl; all_goals (intro hc; try (first | contradiction | (exfalso; omega) | (exfalso; simp at hc; done))))
      | (apply px_guard; rfl; rfl; rfl; all_goals (intro hc; (first | contradiction | (fail_if_success (cases hc); try (first | (exfalso; omega) | (exfalso; simp at hc; done))))))
      | (apply pwp_cond_ndec; rfl; all_goals (intro hc; try (first | contradiction | (exfalso; omega) | (exfalso; simp at hc; done))))
      | (apply pwp_cond_dec; rfl; all_goals (intro hc; try (first | contradiction | (exfalso; omega) | (exfalso; simp at hc; done))))
      | (apply pwp_cond_not; rfl; all_goals (intro hc; try (first | contradiction | (exfalso; omega) | (exfalso; simp at hc; done))))
      | (apply pwp_cond; rfl; all_goals (intro hc; try (first | contradiction | (exfalso; omega) | (exfalso; simp at hc; done))))
      | (apply px_box; rfl; rfl; rfl; rfl; intro bk)
      | (apply px_lit0 ez_int; rfl; rfl; rfl; intro sv))
    refine pwp_loop_once ?_
    repeat' (first
        | apply pwp_seq
        | apply pwp_region
        | (apply px_run; (first
            | (apply opv_move; first | exact hid_int rfl | exact hid_bool rfl | exact hid_ptr rfl | rfl)
            | (apply opv_assign; first | exact hid_int rfl | exact hid_bool rfl | exact hid_ptr rfl | rfl)
            | (apply opv_lss <;> rfl)
            | (apply opv_leq <;> rfl)
            | (apply opv_gtr <;> rfl)
            | (apply opv_geq <;> rfl)
            | (apply opv_eql <;> rfl)
            | (apply opv_neq <;> rfl)
            | (apply opv_and <;> rfl)
            | (apply opv_or <;> rfl)
            | (apply opv_xor <;> rfl)
            | (apply opv_andNot <;> rfl)
            | (apply opv_pick_t <;> rfl)
            | (apply opv_pick_f <;> rfl)
            | (apply opv_not_dec <;> rfl)
            | (apply opv_not <;> rfl)
            | (apply opv_neg <;> rfl)
            | (apply opv_add_in; rfl; rfl; omega)
            | (apply opv_sub_in; rfl; rfl; omega)
            | (apply opv_mul_in; rfl; rfl; omega)
            | (apply opv_shl; rfl; rfl; omega)
            | (apply opv_shr; rfl; rfl; omega)
            | (apply opv_quo; rfl; rfl; omega)
            | (apply opv_rem; rfl; rfl; omega)
            | (apply opv_field fld_G0; rfl)
            | (apply opv_field fld_G1; rfl)
            | (apply opv_load_blk 0; (first | with_reducible exact sc_int | with_reducible exact sc_ints); rfl; rfl; rfl)
            | (apply opv_load_blk 1; (first | with_reducible exact sc_int | with_reducible exact sc_ints); rfl; rfl; rfl)
            | (apply opv_load_blk 2; (first | with_reducible exact sc_int | with_reducible exact sc_ints); rfl; rfl; rfl)
            | (apply opv_load_blk 3; (first | with_reducible exact sc_int | with_reducible exact sc_ints); rfl; rfl; rfl)
            | (apply opv_load_blk 4; (first | with_reducible exact sc_int | with_reducible exact sc_ints); rfl; rfl; rfl)
            | (apply opv_load_ints sc_int; rfl; (first | exact rd_old (by assumption) | exact rd_row 0 rfl | exact rd_row 1 rfl | exact rd_row 2 rfl | exact rd_row 3 rfl | exact rd_row 4 rfl); (first | omega | (simp only [List.length_set]; omega)))
            | (apply opv_index_nat (vs := ints _) el_int; rfl; rfl; (first | exact rd_old (by assumption) | exact rd_row 0 rfl | exact rd_row 1 rfl | exact rd_row 2 rfl | exact rd_row 3 rfl | exact rd_row 4 rfl); (first | (simp only [ints_length]; omega) | (simp [ints]; omega)))
            | (apply opv_index (vs := ints _) el_int; rfl; rfl; (first | exact rd_old (by assumption) | exact rd_row 0 rfl | exact rd_row 1 rfl | exact rd_row 2 rfl | exact rd_row 3 rfl | exact rd_row 4 rfl); omega; (first | (simp only [ints_length]; omega) | (simp [ints]; omega)))
            | (apply opv_len_ints el_int; rfl; (first | exact rd_old (by assumption) | exact rd_row 0 rfl | exact rd_row 1 rfl | exact rd_row 2 rfl | exact rd_row 3 rfl | exact rd_row 4 rfl))
            | (apply opv_load_str 0 st_G; rfl; rfl; rfl)
            | (apply opv_load_str 1 st_G; rfl; rfl; rfl)
            | (apply opv_load_str 2 st_G; rfl; rfl; rfl)
            | (apply opv_load_str 3 st_G; rfl; rfl; rfl)
            | (apply opv_load_str 4 st_G; rfl; rfl; rfl)
            | (apply opv_call; rfl; rfl; exact Cl.stable _ _ _; exact fun w hw => s_IsGraph_c _ _ rows _ (by first | exact hw.arr (by assumption) | exact hw.rowArr (k := 0) rfl | exact hw.rowArr (k := 1) rfl | exact hw.rowArr (k := 2) rfl | exact hw.rowArr (k := 3) rfl | exact hw.rowArr (k := 4) rfl | exact hw.rowArr (k := 5) rfl | exact hw.rowArr (k := 6) rfl | exact hw.rowArr (k := 7) rfl | exact hw.rowArr (k := 8) rfl | exact hw.rowArr (k := 9) rfl | exact hw.rowArr (k := 10) rfl | exact hw.rowArr (k := 11) rfl | exact hw.rowArr (k := 12) rfl | exact hw.rowArr (k := 13) rfl | exact hw.rowArr (k := 14) rfl | exact hw.rowArr (k := 15) rfl | exact hw.rowArr (k := 16) rfl | exact hw.rowArr (k := 17) rfl | exact hw.rowArr (k := 18) rfl | exact hw.rowArr (k := 19) rfl))
            | (apply opv_add <;> rfl)
            | (apply opv_sub <;> rfl)
            | (apply opv_mul <;> rfl)
            | (apply opv_eql_bool ty_bool <;> rfl)
            | (apply opv_neq_bool ty_bool <;> rfl)); rfl; rfl)
        | apply px_nil
        | (apply px_skip; rfl; rfl)
        | apply qseq_normal
        | apply qseq_ret
        | apply qseq_exit
        | apply pwp_block
        | apply qblock_normal
        | apply qblock_ret
        | (apply qblock_exit_same; rfl)
        | (apply qblock_exit_other; rfl)
        | apply pwp_skip
        | apply pwp_exit
        | apply pwp_ret
        | apply qround_ret
        | apply qround_exit
        | apply qonce_ret
        | apply qonce_exit
        | (apply pwp_cond_t; rfl)
        | (apply pwp_cond_f; rfl)
        | (apply pwp_region_mix; kernel_rfl; decide +kernel; exact Cl.stable _ _ _)
        | (apply pwp_region_draw; kernel_rfl; kernel_rfl; exact Cl.stable _ _ _)
        | (apply px_guard_ndec; rfl; rfl; rfl; all_goals (intro hc; try (first | contradiction | (exfalso; omega) | (exfalso; simp at hc; done))))
        | (apply px_guard_dec; rfl; rfl; rfl; all_goals (intro hc; try (first | contradiction | (exfalso; omega) | (exfalso; simp at hc; done))))
        | (apply px_guard_not; rfl; rfl; rfl; all_goals (intro hc; try (first | contradiction | (exfalso; omega) | (exfalso; simp at hc; done))))
        | (apply px_guard; rfl; rfl; rfl; all_goals (intro hc; (first | contradiction | (fail_if_success (cases hc); try (first | (exfalso; omega) | (exfalso; simp at hc; done))))))
        | (apply pwp_cond_ndec; rfl; all_goals (intro hc; try (first | contradiction | (exfalso; omega) | (exfalso; simp at hc; done))))
        | (apply pwp_cond_dec; rfl; all_goals (intro hc; try (first | contradiction | (exfalso; omega) | (exfalso; simp at hc; done))))
        | (apply pwp_cond_not; rfl; all_goals (intro hc; try (first | contradiction | (exfalso; omega) | (exfalso; simp at hc; done))))
        | (apply pwp_cond; rfl; all_goals (intro hc; try (first | contradiction | (exfalso; omega) | (exfalso; simp at hc; done))))
        | (apply px_box; rfl; rfl; rfl; rfl; intro bk))
    refine qbody_ret1 (v := sv) rfl rfl ⟨_, rfl, fun w' h => ?_⟩
    rw [modsL, if_neg hg]
    exact Cl.sub (by assumption) (by repeat (first | exact List.Sublist.slnil | exact List.Sublist.refl _ | apply List.Sublist.cons_cons | apply List.Sublist.cons))
end Go.Proofs.Ytaadjebiglihlaa
