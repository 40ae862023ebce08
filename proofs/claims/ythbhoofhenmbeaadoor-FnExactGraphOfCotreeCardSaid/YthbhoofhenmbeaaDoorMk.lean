/- The laws' marks. -/
import Derived.Test.YthbhoofhenmbeaaDoorLa
import Derived.Test.YthbhoofhenmbeaaDoorPwBool
namespace Go.Proofs.YthbhoofhenmbeaaDoor
open Go Go.RowKit Go.Pw

theorem en_l_markIntS : Entry Tryd.prog 40 := ⟨_, Tryd.func40, by kernel_rfl, rfl⟩
theorem markIntS_c (sv : Value) (l : List Int) (k : Int) (w : World) (ho : Own w [.row 3 sv (ints l)]) (hk : 0 ≤ k ∧ k + l.length ≤ 9223372036854775807) :
    Turns Tryd.prog 40 #[sv, .int .i64 k] w [.row 3 sv (ints l)] [.row 3 sv (ints (upfrom k l.length))] (.int .i64 (k + l.length)) := by
  refine turns_enter (args := [_, _]) ho en_l_markIntS Tryd.func40 rfl Tryd.ntmps40 rfl fun X => ?_
  repeat' (first | apply pwp_seq | apply pwp_region | (apply px_run; (first | (apply opv_assign; first | exact hid_int rfl)); rfl; rfl) | apply px_nil | apply qseq_normal | apply pwp_block)
  refine pwp_loop (τ := Nat) [(1,1), (5,17)] (fun i => [(5, .int .i64 (i : Int)), (1, .int .i64 (k + i))]) (fun i => Cl X w [.row 3 sv (ints (marked l k i))]) (fun i => i ≤ l.length) (fun i => l.length - i) 0
    ⟨rfl, by show Value.int .i64 k = .int .i64 (k + 0); rw [Int.add_zero], trivial⟩ (Nat.zero_le _) (fun _ h => by rw [marked_zero]; exact h) (fun J i hi => ?_)
  have hml := marked_length l k i hi
  by_cases hlt : i < l.length
  · repeat' (first
      | apply pwp_seq
      | apply pwp_region
      | (apply px_run; (first
          | (apply opv_move; first | exact hid_int rfl | exact hid_bool rfl | exact hid_ptr rfl | rfl)
          | (apply opv_assign; first | exact hid_int rfl | exact hid_bool rfl | exact hid_ptr rfl | rfl)
          | (apply opv_lss <;> rfl)
          | (apply opv_leq <;> rfl)
          | (apply opv_gtr <;> rfl)
          | (apply opv_geq <;> rfl)
          | (apply opv_eql <;> rfl)
          | (apply opv_neq <;> rfl)
          | (apply opv_and <;> rfl)
          | (apply opv_or <;> rfl)
          | (apply opv_xor <;> rfl)
          | (apply opv_andNot <;> rfl)
          | (apply opv_pick_t <;> rfl)
          | (apply opv_pick_f <;> rfl)
          | (apply opv_not_dec <;> rfl)
          | (apply opv_not <;> rfl)
          | (apply opv_neg <;> rfl)
          | (apply opv_add_in; rfl; rfl; omega)
          | (apply opv_sub_in; rfl; rfl; omega)
          | (apply opv_mul_in; rfl; rfl; omega)
          | (apply opv_shl; rfl; rfl; omega)
          | (apply opv_shr; rfl; rfl; omega)
          | (apply opv_quo; rfl; rfl; omega)
          | (apply opv_rem; rfl; rfl; omega)
          | (apply opv_field fld_G0; rfl)
          | (apply opv_field fld_G1; rfl)
          | (apply opv_load_blk 0; (first | with_reducible exact sc_int | with_reducible exact sc_ints); rfl; rfl; rfl)
          | (apply opv_load_blk 1; (first | with_reducible exact sc_int | with_reducible exact sc_ints); rfl; rfl; rfl)
          | (apply opv_load_blk 2; (first | with_reducible exact sc_int | with_reducible exact sc_ints); rfl; rfl; rfl)
          | (apply opv_load_blk 3; (first | with_reducible exact sc_int | with_reducible exact sc_ints); rfl; rfl; rfl)
          | (apply opv_load_blk 4; (first | with_reducible exact sc_int | with_reducible exact sc_ints); rfl; rfl; rfl)
          | (apply opv_load_ints sc_int; rfl; (first | exact rd_old (by assumption) | exact rd_row 0 rfl | exact rd_row 1 rfl | exact rd_row 2 rfl | exact rd_row 3 rfl | exact rd_row 4 rfl); (first | omega | (simp only [List.length_set]; omega)))
          | (apply opv_index_nat (vs := ints _) el_int; rfl; rfl; (first | exact rd_old (by assumption) | exact rd_row 0 rfl | exact rd_row 1 rfl | exact rd_row 2 rfl | exact rd_row 3 rfl | exact rd_row 4 rfl); (first | (simp only [ints_length]; omega) | (simp [ints]; omega)))
          | (apply opv_index (vs := ints _) el_int; rfl; rfl; (first | exact rd_old (by assumption) | exact rd_row 0 rfl | exact rd_row 1 rfl | exact rd_row 2 rfl | exact rd_row 3 rfl | exact rd_row 4 rfl); omega; (first | (simp only [ints_length]; omega) | (simp [ints]; omega)))
          | (apply opv_len_ints el_int; rfl; (first | exact rd_old (by assumption) | exact rd_row 0 rfl | exact rd_row 1 rfl | exact rd_row 2 rfl | exact rd_row 3 rfl | exact rd_row 4 rfl))
          | (apply opv_load_str 0 st_G; rfl; rfl; rfl)
          | (apply opv_load_str 1 st_G; rfl; rfl; rfl)
          | (apply opv_load_str 2 st_G; rfl; rfl; rfl)
          | (apply opv_load_str 3 st_G; rfl; rfl; rfl)
          | (apply opv_load_str 4 st_G; rfl; rfl; rfl)
          | (apply opv_add <;> rfl)
          | (apply opv_sub <;> rfl)
          | (apply opv_mul <;> rfl)
          | (apply opv_eql_bool ty_bool <;> rfl)
          | (apply opv_neq_bool ty_bool <;> rfl)); rfl; rfl)
      | apply px_nil
      | (apply px_skip; rfl; rfl)
      | apply qseq_normal
      | apply qseq_ret
      | apply qseq_exit
      | apply pwp_block
      | apply qblock_normal
      | apply qblock_ret
      | (apply qblock_exit_same; rfl)
      | (apply qblock_exit_other; rfl)
      | apply pwp_skip
      | apply pwp_exit
      | apply pwp_ret
      | apply qround_ret
      | apply qround_exit
      | apply qonce_ret
      | apply qonce_exit
      | (apply pwp_cond_t; rfl)
      | (apply pwp_cond_f; rfl)
      | (apply pwp_region_mix; kernel_rfl; decide +kernel; exact Cl.stable _ _ _)
      | (apply pwp_region_draw; kernel_rfl; kernel_rfl; exact Cl.stable _ _ _)
      | (apply px_guard_ndec; rfl; rfl; rfl; all_goals (intro hc; try (first | contradiction | (exfalso; omega) | (exfalso; simp at hc; done))))
      | (apply px_guard_dec; rfl; rfl; rfl; all_goals (intro hc; try (first | contradiction | (exfalso; omega) | (exfalso; simp at hc; done))))
      | (apply px_guard_not; rfl; rfl; rfl; all_goals (intro hc; try (first | contradiction | (exfalso; omega) | (exfalso; simp at hc; done))))
      | (apply px_guard; rfl; rfl; rfl; all_goals (intro hc; (first | contradiction | (fail_if_success (cases hc); try (first | (exfalso; omega) | (exfalso; simp at hc; done))))))
      | (apply pwp_cond_ndec; rfl; all_goals (intro hc; try (first | contradiction | (exfalso; omega) | (exfalso; simp at hc; done))))
      | (apply pwp_cond_dec; rfl; all_goals (intro hc; try (first | contradiction | (exfalso; omega) | (exfalso; simp at hc; done))))
      | (apply pwp_cond_not; rfl; all_goals (intro hc; try (first | contradiction | (exfalso; omega) | (exfalso; simp at hc; done))))
      | (apply pwp_cond; rfl; all_goals (intro hc; try (first | contradiction | (exfalso; omega) | (exfalso; simp at hc; done))))
      | (apply px_box; rfl; rfl; rfl; rfl; intro bk)
      | (apply px_store_row 0; (first | with_reducible exact co_int | with_reducible exact co_ints); rfl; rfl; rfl; (intro w hw; (first | rfl | assumption | exact stor_row 0 hw rfl | exact stor_row 1 hw rfl | exact stor_row 2 hw rfl | exact stor_row 3 hw rfl | exact stor_row 4 hw rfl | exact stor_row 5 hw rfl | exact stor_row 6 hw rfl | exact stor_row 7 hw rfl | exact stor_row 8 hw rfl | exact stor_arr (by assumption) | exact stor_mem hw (by repeat (first | assumption | apply List.mem_cons_of_mem | apply List.mem_append_right)))); (simp [ints]; omega); rfl)
      | (apply px_store_row 1; (first | with_reducible exact co_int | with_reducible exact co_ints); rfl; rfl; rfl; (intro w hw; (first | rfl | assumption | exact stor_row 0 hw rfl | exact stor_row 1 hw rfl | exact stor_row 2 hw rfl | exact stor_row 3 hw rfl | exact stor_row 4 hw rfl | exact stor_row 5 hw rfl | exact stor_row 6 hw rfl | exact stor_row 7 hw rfl | exact stor_row 8 hw rfl | exact stor_arr (by assumption) | exact stor_mem hw (by repeat (first | assumption | apply List.mem_cons_of_mem | apply List.mem_append_right)))); (simp [ints]; omega); rfl)
      | (apply px_store_row 2; (first | with_reducible exact co_int | with_reducible exact co_ints); rfl; rfl; rfl; (intro w hw; (first | rfl | assumption | exact stor_row 0 hw rfl | exact stor_row 1 hw rfl | exact stor_row 2 hw rfl | exact stor_row 3 hw rfl | exact stor_row 4 hw rfl | exact stor_row 5 hw rfl | exact stor_row 6 hw rfl | exact stor_row 7 hw rfl | exact stor_row 8 hw rfl | exact stor_arr (by assumption) | exact stor_mem hw (by repeat (first | assumption | apply List.mem_cons_of_mem | apply List.mem_append_right)))); (simp [ints]; omega); rfl)
      | (apply px_store_row 3; (first | with_reducible exact co_int | with_reducible exact co_ints); rfl; rfl; rfl; (intro w hw; (first | rfl | assumption | exact stor_row 0 hw rfl | exact stor_row 1 hw rfl | exact stor_row 2 hw rfl | exact stor_row 3 hw rfl | exact stor_row 4 hw rfl | exact stor_row 5 hw rfl | exact stor_row 6 hw rfl | exact stor_row 7 hw rfl | exact stor_row 8 hw rfl | exact stor_arr (by assumption) | exact stor_mem hw (by repeat (first | assumption | apply List.mem_cons_of_mem | apply List.mem_append_right)))); (simp [ints]; omega); rfl)
      | (apply px_store_row 4; (first | with_reducible exact co_int | with_reducible exact co_ints); rfl; rfl; rfl; (intro w hw; (first | rfl | assumption | exact stor_row 0 hw rfl | exact stor_row 1 hw rfl | exact stor_row 2 hw rfl | exact stor_row 3 hw rfl | exact stor_row 4 hw rfl | exact stor_row 5 hw rfl | exact stor_row 6 hw rfl | exact stor_row 7 hw rfl | exact stor_row 8 hw rfl | exact stor_arr (by assumption) | exact stor_mem hw (by repeat (first | assumption | apply List.mem_cons_of_mem | apply List.mem_append_right)))); (simp [ints]; omega); rfl))
    refine qround_normal ?_ ⟨i + 1, ⟨rfl, ?_, trivial⟩, by omega, by omega, fun w' h => ?_⟩
    · repeat (first | exact same_refl | refine same_upd rfl ?_ | refine same_junk rfl ?_)
    · show Value.int .i64 (k + i + 1) = .int .i64 (k + (i + 1 : Nat)); congr 1; omega
    · rw [← marked_set l k i hlt, ← ints_set]; exact h
  · repeat' (first | apply pwp_seq | apply pwp_region | (apply px_run; (first | (apply opv_move; first | exact hid_int rfl | rfl) | (apply opv_assign; first | exact hid_int rfl) | (apply opv_lss <;> rfl) | (apply opv_len_ints el_int; rfl; (first | exact rd_row 0 rfl))); rfl; rfl) | apply px_nil | apply qseq_normal | apply qseq_exit | (apply qblock_exit_same; rfl) | apply pwp_exit | apply pwp_ret | apply qround_exit | (apply pwp_cond_dec; rfl; all_goals (intro hc; try (first | (exfalso; omega)))))
    obtain rfl : i = l.length := by omega
    refine qbody_ret1 (v := .int _ _) rfl rfl ⟨rfl, fun w' h => by rw [marked_all] at h; exact h⟩
theorem en_l_heldIntS : Entry Tryd.prog 41 := ⟨_, Tryd.func41, by kernel_rfl, rfl⟩
theorem heldIntS_c (sv : Value) (n : Nat) (k : Int) (w : World) (hr : Arr w sv (ints (upfrom k n))) (hk : 0 ≤ k ∧ k + n ≤ 9223372036854775807) :
    Pure Tryd.prog 41 #[sv, .int .i64 k] w (.int .i64 (k + n)) := by
  refine pure_enter (args := [_, _]) en_l_heldIntS Tryd.func41 rfl Tryd.ntmps41 rfl ?_
  have hml := upfrom_length k n
  repeat' (first | apply pwp_seq | apply pwp_region | (apply px_run; (first | (apply opv_assign; first | exact hid_int rfl)); rfl; rfl) | apply px_nil | apply qseq_normal | apply pwp_block)
  refine pwp_loop (τ := Nat) [(1,1), (4,19)] (fun i => [(5, .int .i64 (i : Int)), (1, .int .i64 (k + i))]) (fun i => Cl [] w []) (fun i => i ≤ n) (fun i => n - i) 0
    ⟨rfl, by show Value.int .i64 k = .int .i64 (k + 0); rw [Int.add_zero], trivial⟩ (Nat.zero_le _) (fun _ h => h) (fun J i hi => ?_)
  by_cases hlt : i < n
  · have hget := upfrom_get k n i hlt
    repeat' (first | apply pwp_seq | apply pwp_region | (apply px_run; (first | (apply opv_move; first | exact hid_int rfl | rfl) | (apply opv_assign; first | exact hid_int rfl) | (apply opv_lss <;> rfl) | (apply opv_neq <;> rfl) | (apply opv_add_in; rfl; rfl; omega) | (apply opv_load_ints sc_int; rfl; (first | exact rd_old (by assumption)); (first | omega)) | (apply opv_index_nat (vs := ints _) el_int; rfl; rfl; (first | exact rd_old (by assumption)); (first | (simp only [ints_length]; omega))) | (apply opv_len_ints el_int; rfl; (first | exact rd_old (by assumption)))); rfl; rfl) | apply px_nil | apply qseq_normal | apply pwp_block | apply qblock_normal | apply pwp_skip | (apply pwp_cond_ndec; rfl; all_goals (intro hc; try (first | contradiction))) | (apply pwp_cond_dec; rfl; all_goals (intro hc; try (first | (exfalso; omega)))))
    refine qround_normal ?_ ⟨i + 1, ⟨rfl, ?_, trivial⟩, by omega, by omega, fun _ h => h⟩
    · repeat (first | exact same_refl | refine same_upd rfl ?_ | refine same_junk rfl ?_)
    · show Value.int .i64 (k + i + 1) = .int .i64 (k + (i + 1 : Nat)); congr 1; omega
  · repeat' (first | apply pwp_seq | apply pwp_region | (apply px_run; (first | (apply opv_move; first | exact hid_int rfl | rfl) | (apply opv_assign; first | exact hid_int rfl) | (apply opv_lss <;> rfl) | (apply opv_len_ints el_int; rfl; (first | exact rd_old (by assumption)))); rfl; rfl) | apply px_nil | apply qseq_normal | apply qseq_exit | (apply qblock_exit_same; rfl) | apply pwp_exit | apply pwp_ret | apply qround_exit | (apply pwp_cond_dec; rfl; all_goals (intro hc; try (first | (exfalso; omega)))))
    obtain rfl : i = n := by omega
    refine qbody_ret1 (v := .int _ _) rfl rfl ⟨rfl, fun _ h => h.below⟩
theorem en_l_markGraph : Entry Tryd.prog 18 := ⟨_, Tryd.func18, by kernel_rfl, rfl⟩
theorem markGraph_c (n : Int) (sv : Value) (l : List Int) (k : Int) (w : World) (ho : Own w [.row 3 sv (ints l)]) (hk : 0 ≤ k ∧ k + l.length ≤ 9223372036854775807) :
    Turns Tryd.prog 18 #[.agg #[.int .i64 n, sv], .int .i64 k] w [.row 3 sv (ints l)] [.row 3 sv (ints (upfrom k l.length))] (.int .i64 (k + l.length)) := by
  refine turns_enter (args := [_, _]) ho en_l_markGraph Tryd.func18 rfl Tryd.ntmps18 rfl fun X => ?_
  repeat' (first | apply pwp_seq | apply pwp_region | (apply px_run; (first | (apply opv_move; first | exact hid_int rfl) | (apply opv_assign; first | exact hid_int rfl) | (apply opv_field fld_G1; rfl) | (apply opv_load_blk 0; (first | with_reducible exact sc_ints); rfl; rfl; rfl)); rfl; rfl) | apply px_nil | apply qseq_normal | apply pwp_ret | (apply px_box; rfl; rfl; rfl; rfl; intro bk) | (apply px_turns [1]; rfl; rfl; rfl; rfl; rfl; exact fun w ho => markIntS_c _ _ _ _ ho (by omega)))
  refine qbody_ret1 (v := .int _ _) rfl rfl ⟨rfl, fun w' h => ?_⟩
  exact Cl.sub (by assumption) (by repeat (first | exact List.Sublist.slnil | exact List.Sublist.refl _ | apply List.Sublist.cons_cons | exact List.sublist_append_left _ _ | exact List.sublist_append_right _ _ | apply List.Sublist.cons))
theorem en_l_heldGraph : Entry Tryd.prog 19 := ⟨_, Tryd.func19, by kernel_rfl, rfl⟩
theorem heldGraph_c (m : Int) (sv : Value) (n : Nat) (k : Int) (w : World) (hr : Arr w sv (ints (upfrom k n))) (hk : 0 ≤ k ∧ k + n ≤ 9223372036854775807) :
    Pure Tryd.prog 19 #[.agg #[.int .i64 m, sv], .int .i64 k] w (.int .i64 (k + n)) := by
  refine pure_enter (args := [_, _]) en_l_heldGraph Tryd.func19 rfl Tryd.ntmps19 rfl ?_
  repeat' (first | apply pwp_seq | apply pwp_region | (apply px_run; (first | (apply opv_move; first | exact hid_int rfl) | (apply opv_assign; first | exact hid_int rfl) | (apply opv_lss <;> rfl) | (apply opv_field fld_G1; rfl) | (apply opv_load_blk 0; (first | with_reducible exact sc_ints); rfl; rfl; rfl) | (apply opv_call; rfl; rfl; exact Cl.stable _ _ _; exact fun w hw => heldIntS_c _ n _ _ (by first | exact hw.arr (by assumption)) hk)); rfl; rfl) | apply px_nil | apply qseq_normal | apply pwp_skip | apply pwp_ret | (apply pwp_cond_dec; rfl; all_goals (intro hc; try (first | (exfalso; omega)))) | (apply px_box; rfl; rfl; rfl; rfl; intro bk))
  refine qbody_ret1 (v := .int _ _) rfl rfl ⟨rfl, fun _ h => h.below⟩
end Go.Proofs.YthbhoofhenmbeaaDoor
