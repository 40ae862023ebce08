/- Copies of slices of bools. -/
import Derived.Test.YtaadjebiglihlaaMk
import Derived.Test.YtaadjebiglihlaaLk
import Derived.Test.YtaadjebiglihlaaPwRB
namespace Go.Proofs.Ytaadjebiglihlaa
open Go Go.RowKit Go.Pw
theorem en_l_toBoolS : Entry Try.prog 22 := ⟨_, Try.func22, by kernel_rfl, rfl⟩
theorem set_copyB {l : List Bool} {k : Nat} (hk : k < l.length) : (l.take k ++ List.replicate (l.length - k) false).set k (l.getD k false) = l.take (k + 1) ++ List.replicate (l.length - (k + 1)) false := by
  apply List.ext_getElem
  · simp; omega
  · intro i h1 h2
    simp only [List.getElem_set, List.getElem_append, List.length_take]
    by_cases hik : k = i
    · subst hik; simp [hk]; intro h; omega
    · rw [if_neg hik]
      by_cases hlt : i < k
      · rw [dif_pos (by omega), dif_pos (by omega)]; simp
      · rw [dif_neg (by omega), dif_neg (by omega)]; simp
theorem toBoolS_c (sv : Value) (l : List Bool) (w : World) (hr : Arr w sv (bools l)) (hlen : l.length ≤ 1048576) :
    Gives Try.prog 22 #[sv] w (fun v objs => objs = [.row 4 v (bools l)]) := by
  refine gives_enter (args := [_]) en_l_toBoolS Try.func22 rfl Try.ntmps22 rfl ?_
  repeat' (first
      | apply pwp_seq
      | apply pwp_region
      | (apply px_run; (first
          | (apply opv_move; first | exact hid_int rfl | exact hid_bool rfl | exact hid_ptr rfl | rfl)
          | (apply opv_assign; first | exact hid_int rfl | exact hid_bool rfl | exact hid_ptr rfl | rfl)
          | (apply opv_lss <;> rfl)
          | (apply opv_leq <;> rfl)
          | (apply opv_gtr <;> rfl)
          | (apply opv_geq <;> rfl)
          | (apply opv_eql <;> rfl)
          | (apply opv_neq <;> rfl)
          | (apply opv_and <;> rfl)
          | (apply opv_or <;> rfl)
          | (apply opv_xor <;> rfl)
          | (apply opv_andNot <;> rfl)
          | (apply opv_pick_t <;> rfl)
          | (apply opv_pick_f <;> rfl)
          | (apply opv_not_dec <;> rfl)
          | (apply opv_not <;> rfl)
          | (apply opv_neg <;> rfl)
          | (apply opv_add_in; rfl; rfl; omega)
          | (apply opv_sub_in; rfl; rfl; omega)
          | (apply opv_mul_in; rfl; rfl; omega)
          | (apply opv_shl; rfl; rfl; omega)
          | (apply opv_shr; rfl; rfl; omega)
          | (apply opv_quo; rfl; rfl; omega)
          | (apply opv_rem; rfl; rfl; omega)
          | (apply opv_field fld_G0; rfl)
          | (apply opv_field fld_G1; rfl)
          | (apply opv_load_blk 0; (first | with_reducible exact sc_int | with_reducible exact sc_ints); rfl; rfl; rfl)
          | (apply opv_load_blk 1; (first | with_reducible exact sc_int | with_reducible exact sc_ints); rfl; rfl; rfl)
          | (apply opv_load_blk 2; (first | with_reducible exact sc_int | with_reducible exact sc_ints); rfl; rfl; rfl)
          | (apply opv_load_blk 3; (first | with_reducible exact sc_int | with_reducible exact sc_ints); rfl; rfl; rfl)
          | (apply opv_load_blk 4; (first | with_reducible exact sc_int | with_reducible exact sc_ints); rfl; rfl; rfl)
          | (apply opv_load_ints sc_int; rfl; (first | exact rd_old (by assumption) | exact rd_row 0 rfl | exact rd_row 1 rfl | exact rd_row 2 rfl | exact rd_row 3 rfl | exact rd_row 4 rfl); (first | omega | (simp only [List.length_set]; omega)))
          | (apply opv_index_nat (vs := ints _) el_int; rfl; rfl; (first | exact rd_old (by assumption) | exact rd_row 0 rfl | exact rd_row 1 rfl | exact rd_row 2 rfl | exact rd_row 3 rfl | exact rd_row 4 rfl); (first | (simp only [ints_length]; omega) | (simp [ints]; omega)))
          | (apply opv_index (vs := ints _) el_int; rfl; rfl; (first | exact rd_old (by assumption) | exact rd_row 0 rfl | exact rd_row 1 rfl | exact rd_row 2 rfl | exact rd_row 3 rfl | exact rd_row 4 rfl); omega; (first | (simp only [ints_length]; omega) | (simp [ints]; omega)))
          | (apply opv_len_ints el_int; rfl; (first | exact rd_old (by assumption) | exact rd_row 0 rfl | exact rd_row 1 rfl | exact rd_row 2 rfl | exact rd_row 3 rfl | exact rd_row 4 rfl))
          | (apply opv_load_str 0 st_G; rfl; rfl; rfl)
          | (apply opv_load_str 1 st_G; rfl; rfl; rfl)
          | (apply opv_load_str 2 st_G; rfl; rfl; rfl)
          | (apply opv_load_str 3 st_G; rfl; rfl; rfl)
          | (apply opv_load_str 4 st_G; rfl; rfl; rfl)
          | (apply opv_load_bools sc_bool; rfl; (first | exact rd_old (by assumption) | exact rd_row 0 rfl | exact rd_row 1 rfl | exact rd_row 2 rfl | exact rd_row 3 rfl | exact rd_row 4 rfl); (first | omega | (simp only [bools_length] at *; omega)))
          | (apply opv_index_nat (vs := bools _) el_bool; rfl; rfl; (first | exact rd_old (by assumption) | exact rd_row 0 rfl | exact rd_row 1 rfl | exact rd_row 2 rfl | exact rd_row 3 rfl | exact rd_row 4 rfl); (first | (simp only [bools_length]; omega) | (simp; omega)))
          | (apply opv_index (vs := bools _) el_bool; rfl; rfl; (first | exact rd_old (by assumption) | exact rd_row 0 rfl | exact rd_row 1 rfl | exact rd_row 2 rfl | exact rd_row 3 rfl | exact rd_row 4 rfl); omega; (first | (simp only [bools_length]; omega) | (simp; omega)))
          | (apply opv_len_bools el_bool; rfl; (first | exact rd_old (by assumption) | exact rd_row 0 rfl | exact rd_row 1 rfl | exact rd_row 2 rfl | exact rd_row 3 rfl | exact rd_row 4 rfl))
          | (apply opv_add <;> rfl)
          | (apply opv_sub <;> rfl)
          | (apply opv_mul <;> rfl)
          | (apply opv_eql_bool ty_bool <;> rfl)
          | (apply opv_neq_bool ty_bool <;> rfl)); rfl; rfl)
      | apply px_nil
      | (apply px_skip; rfl; rfl)
      | apply qseq_normal
      | apply qseq_ret
      | apply qseq_exit
      | apply pwp_block
      | apply qblock_normal
      | apply qblock_ret
      | (apply qblock_exit_same; rfl)
      | (apply qblock_exit_other; rfl)
      | apply pwp_skip
      | apply pwp_exit
      | apply pwp_ret
      | apply qround_ret
      | apply qround_exit
      | apply qonce_ret
      | apply qonce_exit
      | (apply pwp_cond_t; rfl)
      | (apply pwp_cond_f; rfl)
      | (apply pwp_region_mix; kernel_rfl; decide +kernel; exact Cl.stable _ _ _)
      | (apply pwp_region_draw; kernel_rfl; kernel_rfl; exact Cl.stable _ _ _)
      | (apply px_guard_ndec; rfl; rfl; rfl; all_goals (intro hc; try (first | contradiction | (exfalso; omega) | (exfalso; simp at hc; done))))
      | (apply px_guard_dec; rfl; rfl; rfl; all_goals (intro hc; try (first | contradiction | (exfalso; omega) | (exfalso; simp at hc; done))))
      | (apply px_guard_not; rfl; rfl; rfl; all_goals (intro hc; try (first | contradiction | (exfalso; omega) | (exfalso; simp at hc; done))))
      | (apply px_guard; rfl; rfl; rfl; all_goals (intro hc; (first | contradiction | (fail_if_success (cases hc); try (first | (exfalso; omega) | (exfalso; simp at hc; done))))))
      | (apply pwp_cond_ndec; rfl; all_goals (intro hc; try (first | contradiction | (exfalso; omega) | (exfalso; simp at hc; done))))
      | (apply pwp_cond_dec; rfl; all_goals (intro hc; try (first | contradiction | (exfalso; omega) | (exfalso; simp at hc; done))))
      | (apply pwp_cond_not; rfl; all_goals (intro hc; try (first | contradiction | (exfalso; omega) | (exfalso; simp at hc; done))))
      | (apply pwp_cond; rfl; all_goals (intro hc; try (first | contradiction | (exfalso; omega) | (exfalso; simp at hc; done))))
      | (apply px_box; rfl; rfl; rfl; rfl; intro bk)
      | (apply px_make ez_bool; rfl; rfl; rfl; rfl; rfl; omega; (simp only [maxLen]; omega); intro sv))
  refine pwp_loop (τ := Nat) [(4,4), (8,20)] (fun k : Nat => [(4, .int .i64 (k : Int))]) (fun k => Cl [] w [.row 4 sv (bools (l.take k ++ List.replicate (l.length - k) false))]) (fun k => k ≤ l.length) (fun k => l.length - k) 0
    ⟨rfl, trivial⟩ (Nat.zero_le _) (fun _ h => by simpa [bools] using h) (fun J k hk => ?_)
  have hrl : (l.take k ++ List.replicate (l.length - k) false).length = l.length := by simp; omega
  by_cases hlt : k < l.length
  · repeat' (first
      | apply pwp_seq
      | apply pwp_region
      | (apply px_run; (first
          | (apply opv_move; first | exact hid_int rfl | exact hid_bool rfl | exact hid_ptr rfl | rfl)
          | (apply opv_assign; first | exact hid_int rfl | exact hid_bool rfl | exact hid_ptr rfl | rfl)
          | (apply opv_lss <;> rfl)
          | (apply opv_leq <;> rfl)
          | (apply opv_gtr <;> rfl)
          | (apply opv_geq <;> rfl)
          | (apply opv_eql <;> rfl)
          | (apply opv_neq <;> rfl)
          | (apply opv_and <;> rfl)
          | (apply opv_or <;> rfl)
          | (apply opv_xor <;> rfl)
          | (apply opv_andNot <;> rfl)
          | (apply opv_pick_t <;> rfl)
          | (apply opv_pick_f <;> rfl)
          | (apply opv_not_dec <;> rfl)
          | (apply opv_not <;> rfl)
          | (apply opv_neg <;> rfl)
          | (apply opv_add_in; rfl; rfl; omega)
          | (apply opv_sub_in; rfl; rfl; omega)
          | (apply opv_mul_in; rfl; rfl; omega)
          | (apply opv_shl; rfl; rfl; omega)
          | (apply opv_shr; rfl; rfl; omega)
          | (apply opv_quo; rfl; rfl; omega)
          | (apply opv_rem; rfl; rfl; omega)
          | (apply opv_field fld_G0; rfl)
          | (apply opv_field fld_G1; rfl)
          | (apply opv_load_blk 0; (first | with_reducible exact sc_int | with_reducible exact sc_ints); rfl; rfl; rfl)
          | (apply opv_load_blk 1; (first | with_reducible exact sc_int | with_reducible exact sc_ints); rfl; rfl; rfl)
          | (apply opv_load_blk 2; (first | with_reducible exact sc_int | with_reducible exact sc_ints); rfl; rfl; rfl)
          | (apply opv_load_blk 3; (first | with_reducible exact sc_int | with_reducible exact sc_ints); rfl; rfl; rfl)
          | (apply opv_load_blk 4; (first | with_reducible exact sc_int | with_reducible exact sc_ints); rfl; rfl; rfl)
          | (apply opv_load_ints sc_int; rfl; (first | exact rd_old (by assumption) | exact rd_row 0 rfl | exact rd_row 1 rfl | exact rd_row 2 rfl | exact rd_row 3 rfl | exact rd_row 4 rfl); (first | omega | (simp only [List.length_set]; omega)))
          | (apply opv_index_nat (vs := ints _) el_int; rfl; rfl; (first | exact rd_old (by assumption) | exact rd_row 0 rfl | exact rd_row 1 rfl | exact rd_row 2 rfl | exact rd_row 3 rfl | exact rd_row 4 rfl); (first | (simp only [ints_length]; omega) | (simp [ints]; omega)))
          | (apply opv_index (vs := ints _) el_int; rfl; rfl; (first | exact rd_old (by assumption) | exact rd_row 0 rfl | exact rd_row 1 rfl | exact rd_row 2 rfl | exact rd_row 3 rfl | exact rd_row 4 rfl); omega; (first | (simp only [ints_length]; omega) | (simp [ints]; omega)))
          | (apply opv_len_ints el_int; rfl; (first | exact rd_old (by assumption) | exact rd_row 0 rfl | exact rd_row 1 rfl | exact rd_row 2 rfl | exact rd_row 3 rfl | exact rd_row 4 rfl))
          | (apply opv_load_str 0 st_G; rfl; rfl; rfl)
          | (apply opv_load_str 1 st_G; rfl; rfl; rfl)
          | (apply opv_load_str 2 st_G; rfl; rfl; rfl)
          | (apply opv_load_str 3 st_G; rfl; rfl; rfl)
          | (apply opv_load_str 4 st_G; rfl; rfl; rfl)
          | (apply opv_load_bools sc_bool; rfl; (first | exact rd_old (by assumption) | exact rd_row 0 rfl | exact rd_row 1 rfl | exact rd_row 2 rfl | exact rd_row 3 rfl | exact rd_row 4 rfl); (first | omega | (simp only [bools_length] at *; omega)))
          | (apply opv_index_nat (vs := bools _) el_bool; rfl; rfl; (first | exact rd_old (by assumption) | exact rd_row 0 rfl | exact rd_row 1 rfl | exact rd_row 2 rfl | exact rd_row 3 rfl | exact rd_row 4 rfl); (first | (simp only [bools_length]; omega) | (simp; omega)))
          | (apply opv_index (vs := bools _) el_bool; rfl; rfl; (first | exact rd_old (by assumption) | exact rd_row 0 rfl | exact rd_row 1 rfl | exact rd_row 2 rfl | exact rd_row 3 rfl | exact rd_row 4 rfl); omega; (first | (simp only [bools_length]; omega) | (simp; omega)))
          | (apply opv_len_bools el_bool; rfl; (first | exact rd_old (by assumption) | exact rd_row 0 rfl | exact rd_row 1 rfl | exact rd_row 2 rfl | exact rd_row 3 rfl | exact rd_row 4 rfl))
          | (apply opv_add <;> rfl)
          | (apply opv_sub <;> rfl)
          | (apply opv_mul <;> rfl)
          | (apply opv_eql_bool ty_bool <;> rfl)
          | (apply opv_neq_bool ty_bool <;> rfl)); rfl; rfl)
      | apply px_nil
      | (apply px_skip; rfl; rfl)
      | apply qseq_normal
      | apply qseq_ret
      | apply qseq_exit
      | apply pwp_block
      | apply qblock_normal
      | apply qblock_ret
      | (apply qblock_exit_same; rfl)
      | (apply qblock_exit_other; rfl)
      | apply pwp_skip
      | apply pwp_exit
      | apply pwp_ret
      | apply qround_ret
      | apply qround_exit
      | apply qonce_ret
      | apply qonce_exit
      | (apply pwp_cond_t; rfl)
      | (apply pwp_cond_f; rfl)
      | (apply pwp_region_mix; kernel_rfl; decide +kernel; exact Cl.stable _ _ _)
      | (apply pwp_region_draw; kernel_rfl; kernel_rfl; exact Cl.stable _ _ _)
      | (apply px_guard_ndec; rfl; rfl; rfl; all_goals (intro hc; try (first | contradiction | (exfalso; omega) | (exfalso; simp at hc; done))))
      | (apply px_guard_dec; rfl; rfl; rfl; all_goals (intro hc; try (first | contradiction | (exfalso; omega) | (exfalso; simp at hc; done))))
      | (apply px_guard_not; rfl; rfl; rfl; all_goals (intro hc; try (first | contradiction | (exfalso; omega) | (exfalso; simp at hc; done))))
      | (apply px_guard; rfl; rfl; rfl; all_goals (intro hc; (first | contradiction | (fail_if_success (cases hc); try (first | (exfalso; omega) | (exfalso; simp at hc; done))))))
      | (apply pwp_cond_ndec; rfl; all_goals (intro hc; try (first | contradiction | (exfalso; omega) | (exfalso; simp at hc; done))))
      | (apply pwp_cond_dec; rfl; all_goals (intro hc; try (first | contradiction | (exfalso; omega) | (exfalso; simp at hc; done))))
      | (apply pwp_cond_not; rfl; all_goals (intro hc; try (first | contradiction | (exfalso; omega) | (exfalso; simp at hc; done))))
      | (apply pwp_cond; rfl; all_goals (intro hc; try (first | contradiction | (exfalso; omega) | (exfalso; simp at hc; done))))
      | (apply px_box; rfl; rfl; rfl; rfl; intro bk)
      | (apply px_store_bool 0 co_bool; rfl; rfl; rfl; (first | omega | (simp; omega)); rfl)
      | (apply px_store_bool 1 co_bool; rfl; rfl; rfl; (first | omega | (simp; omega)); rfl)
      | (apply px_store_bool 2 co_bool; rfl; rfl; rfl; (first | omega | (simp; omega)); rfl)
      | (apply px_store_bool 3 co_bool; rfl; rfl; rfl; (first | omega | (simp; omega)); rfl)
      | (apply px_store_bool 4 co_bool; rfl; rfl; rfl; (first | omega | (simp; omega)); rfl))
    refine qround_normal ?_ ⟨k + 1, ⟨rfl, trivial⟩, by omega, by omega, fun w' h => ?_⟩
    · repeat (first | exact same_refl | refine same_upd rfl ?_ | refine same_junk rfl ?_)
    · rw [← set_copyB hlt]; exact h
  · repeat' (first
      | apply pwp_seq
      | apply pwp_region
      | (apply px_run; (first
          | (apply opv_move; first | exact hid_int rfl | exact hid_bool rfl | exact hid_ptr rfl | rfl)
          | (apply opv_assign; first | exact hid_int rfl | exact hid_bool rfl | exact hid_ptr rfl | rfl)
          | (apply opv_lss <;> rfl)
          | (apply opv_leq <;> rfl)
          | (apply opv_gtr <;> rfl)
          | (apply opv_geq <;> rfl)
          | (apply opv_eql <;> rfl)
          | (apply opv_neq <;> rfl)
          | (apply opv_and <;> rfl)
          | (apply opv_or <;> rfl)
          | (apply opv_xor <;> rfl)
          | (apply opv_andNot <;> rfl)
          | (apply opv_pick_t <;> rfl)
          | (apply opv_pick_f <;> rfl)
          | (apply opv_not_dec <;> rfl)
          | (apply opv_not <;> rfl)
          | (apply opv_neg <;> rfl)
          | (apply opv_add_in; rfl; rfl; omega)
          | (apply opv_sub_in; rfl; rfl; omega)
          | (apply opv_mul_in; rfl; rfl; omega)
          | (apply opv_shl; rfl; rfl; omega)
          | (apply opv_shr; rfl; rfl; omega)
          | (apply opv_quo; rfl; rfl; omega)
          | (apply opv_rem; rfl; rfl; omega)
          | (apply opv_field fld_G0; rfl)
          | (apply opv_field fld_G1; rfl)
          | (apply opv_load_blk 0; (first | with_reducible exact sc_int | with_reducible exact sc_ints); rfl; rfl; rfl)
          | (apply opv_load_blk 1; (first | with_reducible exact sc_int | with_reducible exact sc_ints); rfl; rfl; rfl)
          | (apply opv_load_blk 2; (first | with_reducible exact sc_int | with_reducible exact sc_ints); rfl; rfl; rfl)
          | (apply opv_load_blk 3; (first | with_reducible exact sc_int | with_reducible exact sc_ints); rfl; rfl; rfl)
          | (apply opv_load_blk 4; (first | with_reducible exact sc_int | with_reducible exact sc_ints); rfl; rfl; rfl)
          | (apply opv_load_ints sc_int; rfl; (first | exact rd_old (by assumption) | exact rd_row 0 rfl | exact rd_row 1 rfl | exact rd_row 2 rfl | exact rd_row 3 rfl | exact rd_row 4 rfl); (first | omega | (simp only [List.length_set]; omega)))
          | (apply opv_index_nat (vs := ints _) el_int; rfl; rfl; (first | exact rd_old (by assumption) | exact rd_row 0 rfl | exact rd_row 1 rfl | exact rd_row 2 rfl | exact rd_row 3 rfl | exact rd_row 4 rfl); (first | (simp only [ints_length]; omega) | (simp [ints]; omega)))
          | (apply opv_index (vs := ints _) el_int; rfl; rfl; (first | exact rd_old (by assumption) | exact rd_row 0 rfl | exact rd_row 1 rfl | exact rd_row 2 rfl | exact rd_row 3 rfl | exact rd_row 4 rfl); omega; (first | (simp only [ints_length]; omega) | (simp [ints]; omega)))
          | (apply opv_len_ints el_int; rfl; (first | exact rd_old (by assumption) | exact rd_row 0 rfl | exact rd_row 1 rfl | exact rd_row 2 rfl | exact rd_row 3 rfl | exact rd_row 4 rfl))
          | (apply opv_load_str 0 st_G; rfl; rfl; rfl)
          | (apply opv_load_str 1 st_G; rfl; rfl; rfl)
          | (apply opv_load_str 2 st_G; rfl; rfl; rfl)
          | (apply opv_load_str 3 st_G; rfl; rfl; rfl)
          | (apply opv_load_str 4 st_G; rfl; rfl; rfl)
          | (apply opv_load_bools sc_bool; rfl; (first | exact rd_old (by assumption) | exact rd_row 0 rfl | exact rd_row 1 rfl | exact rd_row 2 rfl | exact rd_row 3 rfl | exact rd_row 4 rfl); (first | omega | (simp only [bools_length] at *; omega)))
          | (apply opv_index_nat (vs := bools _) el_bool; rfl; rfl; (first | exact rd_old (by assumption) | exact rd_row 0 rfl | exact rd_row 1 rfl | exact rd_row 2 rfl | exact rd_row 3 rfl | exact rd_row 4 rfl); (first | (simp only [bools_length]; omega) | (simp; omega)))
          | (apply opv_index (vs := bools _) el_bool; rfl; rfl; (first | exact rd_old (by assumption) | exact rd_row 0 rfl | exact rd_row 1 rfl | exact rd_row 2 rfl | exact rd_row 3 rfl | exact rd_row 4 rfl); omega; (first | (simp only [bools_length]; omega) | (simp; omega)))
          | (apply opv_len_bools el_bool; rfl; (first | exact rd_old (by assumption) | exact rd_row 0 rfl | exact rd_row 1 rfl | exact rd_row 2 rfl | exact rd_row 3 rfl | exact rd_row 4 rfl))
          | (apply opv_add <;> rfl)
          | (apply opv_sub <;> rfl)
          | (apply opv_mul <;> rfl)
          | (apply opv_eql_bool ty_bool <;> rfl)
          | (apply opv_neq_bool ty_bool <;> rfl)); rfl; rfl)
      | apply px_nil
      | (apply px_skip; rfl; rfl)
      | apply qseq_normal
      | apply qseq_ret
      | apply qseq_exit
      | apply pwp_block
      | apply qblock_normal
      | apply qblock_ret
      | (apply qblock_exit_same; rfl)
      | (apply qblock_exit_other; rfl)
      | apply pwp_skip
      | apply pwp_exit
      | apply pwp_ret
      | apply qround_ret
      | apply qround_exit
      | apply qonce_ret
      | apply qonce_exit
      | (apply pwp_cond_t; rfl)
      | (apply pwp_cond_f; rfl)
      | (apply pwp_region_mix; kernel_rfl; decide +kernel; exact Cl.stable _ _ _)
      | (apply pwp_region_draw; kernel_rfl; kernel_rfl; exact Cl.stable _ _ _)
      | (apply px_guard_ndec; rfl; rfl; rfl; all_goals (intro hc; try (first | contradiction | (exfalso; omega) | (exfalso; simp at hc; done))))
      | (apply px_guard_dec; rfl; rfl; rfl; all_goals (intro hc; try (first | contradiction | (exfalso; omega) | (exfalso; simp at hc; done))))
      | (apply px_guard_not; rfl; rfl; rfl; all_goals (intro hc; try (first | contradiction | (exfalso; omega) | (exfalso; simp at hc; done))))
      | (apply px_guard; rfl; rfl; rfl; all_goals (intro hc; (first | contradiction | (fail_if_success (cases hc); try (first | (exfalso; omega) | (exfalso; simp at hc; done))))))
      | (apply pwp_cond_ndec; rfl; all_goals (intro hc; try (first | contradiction | (exfalso; omega) | (exfalso; simp at hc; done))))
      | (apply pwp_cond_dec; rfl; all_goals (intro hc; try (first | contradiction | (exfalso; omega) | (exfalso; simp at hc; done))))
      | (apply pwp_cond_not; rfl; all_goals (intro hc; try (first | contradiction | (exfalso; omega) | (exfalso; simp at hc; done))))
      | (apply pwp_cond; rfl; all_goals (intro hc; try (first | contradiction | (exfalso; omega) | (exfalso; simp at hc; done))))
      | (apply px_box; rfl; rfl; rfl; rfl; intro bk))
    obtain rfl : k = l.length := by omega
    refine qbody_ret1 (v := sv) rfl rfl ⟨_, rfl, fun w' h => by simpa using h⟩
end Go.Proofs.Ytaadjebiglihlaa
