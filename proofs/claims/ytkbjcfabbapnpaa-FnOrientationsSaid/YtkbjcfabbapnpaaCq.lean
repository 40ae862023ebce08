/- Cliques, splits, edges, counts. -/
import Derived.Test.YtkbjcfabbapnpaaGs
import Derived.Test.YtkbjcfabbapnpaaPwPlc
import Derived.Test.YtkbjcfabbapnpaaPwFun
namespace Go.Proofs.Ytkbjcfabbapnpaa
open Go Go.RowKit Go.Pw

theorem en_s_CountSet : Entry Try.prog 50 := ⟨_, Try.func50, by kernel_rfl, rfl⟩
theorem s_CountSet_c (s : Int) (w : World) : Pure Try.prog 50 #[.int .i64 s] w (.int .i64 (cntS s)) := by
  refine pure_enter (args := [_]) en_s_CountSet Try.func50 rfl Try.ntmps50 rfl ?_
  repeat' (first | apply pwp_seq | apply pwp_region | (apply px_run; (first | (apply opv_move; first | exact hid_int rfl) | (apply opv_assign; first | exact hid_int rfl) | (apply opv_len_ints el_int; rfl; (first | exact rd_row 0 rfl))); rfl; rfl) | apply px_nil | apply qseq_normal | apply pwp_ret | (apply px_gives; rfl; rfl; rfl; rfl; rfl; exact fun w hw => s_ListOf_c _ _; rintro sl _ rfl))
  refine qbody_ret1 (v := .int _ _) rfl rfl ⟨rfl, fun _ h => h.below⟩
theorem en_s_IsClique : Entry Try.prog 68 := ⟨_, Try.func68, by kernel_rfl, rfl⟩
set_option maxHeartbeats 400000 in
theorem s_IsClique_c (size : Int) (sv : Value) (rows : List Int) (s : Int) (w : World) (hr : Arr w sv (ints rows)) :
    Pure Try.prog 68 #[.agg #[.int .i64 size, sv], .int .i64 s] w (.bool (decide (cliqueP size rows s))) := by
  refine pure_enter (args := [_, _]) en_s_IsClique Try.func68 rfl Try.ntmps68 rfl ?_
  repeat' (first | apply pwp_seq | apply pwp_region | (apply px_run; (first | (apply opv_move; first | exact hid_int rfl) | (apply opv_assign; first | exact hid_int rfl | exact hid_bool rfl) | (apply opv_not_dec <;> rfl) | (apply opv_load_str 0 st_G; rfl; rfl; rfl) | (apply opv_call; rfl; rfl; exact Cl.stable _ _ _; exact fun w hw => s_IsSet_c _ _ rows _ _ (by first | exact hw.arr (by assumption)))); rfl; rfl) | apply px_nil | apply qseq_normal | apply qseq_ret | apply pwp_block | apply pwp_skip | apply pwp_ret | (apply pwp_cond_ndec; rfl; all_goals (intro hc; try (first | fail))) | (apply px_box; rfl; rfl; rfl; rfl; intro bk))
  · refine qbody_ret1 (v := .bool _) rfl rfl ⟨ret_false rfl fun h => hc h.1, fun _ h => h.below⟩
  obtain ⟨hg, hs⟩ := hc
  obtain ⟨n, hn, hl, _, hn7⟩ := isG_size hg
  obtain ⟨_, hz2, hz3⟩ := shl1 (n := size) ⟨by omega, by omega⟩
  refine pwp_loop (τ := Nat) [(4,5), (10,34)] (fun k => [(5, .int .i64 (k : Int))]) (fun _ => Cl [] w [.blk bk [.int .i64 size, sv]]) (fun k => k ≤ rows.length ∧ ∀ v, v < k → hasB s (v : Nat) = true → iandnot s (rows.getD v 0) = ishl 1 v) (fun k => rows.length - k) 0
    ⟨rfl, trivial⟩ ⟨Nat.zero_le _, fun v hv => by omega⟩ (fun _ h => h) (fun J k hk => ?_)
  obtain ⟨hk, hok⟩ := hk
  by_cases hlt : k < rows.length
  · have key : cliqueP size rows s → hasB s (k : Nat) = true → iandnot s (rows.getD k 0) = ishl 1 k := fun h => h.2 k hlt
    have hcr := clique_row hg hs k
    obtain ⟨_, hy2, hy3⟩ := shl1 (n := (k : Int)) ⟨by omega, by omega⟩
    repeat' (first | apply pwp_seq | apply pwp_region | (apply px_run; (first | (apply opv_move; first | exact hid_int rfl | exact hid_bool rfl) | (apply opv_assign; first | exact hid_int rfl | exact hid_bool rfl) | (apply opv_lss <;> rfl) | (apply opv_eql <;> rfl) | (apply opv_neq <;> rfl) | (apply opv_and <;> rfl) | (apply opv_pick_t <;> rfl) | (apply opv_pick_f <;> rfl) | (apply opv_add_in; rfl; rfl; omega) | (apply opv_sub_in; rfl; rfl; omega) | (apply opv_shl; rfl; rfl; omega) | (apply opv_shr; rfl; rfl; omega) | (apply opv_field fld_G0; rfl) | (apply opv_field fld_G1; rfl) | (apply opv_load_blk 0; (first | with_reducible exact sc_int | with_reducible exact sc_ints); rfl; rfl; rfl) | (apply opv_load_ints sc_int; rfl; (first | exact rd_old (by assumption)); (first | omega)) | (apply opv_index_nat (vs := ints _) el_int; rfl; rfl; (first | exact rd_old (by assumption)); (first | (simp only [ints_length]; omega)))); rfl; rfl) | apply px_nil | (apply px_skip; rfl; rfl) | apply qseq_normal | apply qseq_ret | apply pwp_block | apply qblock_normal | apply qblock_ret | apply pwp_skip | apply pwp_ret | apply qround_ret | (apply pwp_cond_f; rfl) | (apply pwp_region_mix; kernel_rfl; decide +kernel; exact Cl.stable _ _ _) | (apply px_guard_dec; rfl; rfl; rfl; all_goals (intro hc; try (first | fail))) | (apply pwp_cond_ndec; rfl; all_goals (intro hc; try (first | fail))) | (apply pwp_cond_dec; rfl; all_goals (intro hc; try (first | (exfalso; omega)))))
    · refine qbody_ret1 (v := .bool _) rfl rfl ⟨ret_false rfl fun h => hc ?_, fun _ h => h.below⟩
      rw [hcr, key h (hasB_iff.2 (by assumption))]
    all_goals
      refine qround_normal ?_ ⟨k + 1, ⟨rfl, trivial⟩, ⟨by omega, fun x hx hb => ?_⟩, by omega, fun _ h => h⟩
      · repeat (first | exact same_refl | refine same_upd rfl ?_ | refine same_junk rfl ?_)
      · by_cases hvk : x < k
        · exact hok x hvk hb
        · obtain rfl : x = k := by omega
          first | (rw [hcr] at hc; omega) | exact (hc (hasB_iff.1 hb)).elim
  · repeat' (first | apply pwp_seq | apply pwp_region | (apply px_run; (first | (apply opv_move; first | exact hid_int rfl) | (apply opv_assign; first | exact hid_bool rfl) | (apply opv_lss <;> rfl) | (apply opv_field fld_G0; rfl) | (apply opv_load_blk 0; (first | with_reducible exact sc_int); rfl; rfl; rfl)); rfl; rfl) | apply px_nil | apply qseq_normal | apply qseq_exit | (apply qblock_exit_same; rfl) | apply pwp_exit | apply pwp_ret | apply qround_exit | (apply pwp_cond_dec; rfl; all_goals (intro hc; try (first | (exfalso; omega)))))
    refine qbody_ret1 (v := .bool _) rfl rfl ⟨ret_true rfl ⟨⟨hg, hs⟩, fun v hv => hok v (by omega)⟩, fun _ h => h.below⟩
theorem en_i_isVertex : Entry Try.prog 66 := ⟨_, Try.func66, by kernel_rfl, rfl⟩
theorem i_isVertex_c (size : Int) (sv lv : Value) (rows vs : List Int) (w : World) (hr : Arr w sv (ints rows)) (hv : Arr w lv (ints vs)) :
    Pure Try.prog 66 #[.agg #[.int .i64 size, sv], lv] w (.bool (decide (IsG size rows ∧ ∀ i, i < vs.length → 0 ≤ vs.getD i 0 ∧ vs.getD i 0 ≤ size - 1))) := by
  refine pure_enter (args := [_, _]) en_i_isVertex Try.func66 rfl Try.ntmps66 rfl ?_
  have hl := hv.len
  by_cases hg : IsG size rows
  · have hsz : 0 ≤ size ∧ size ≤ 7 := ⟨by have := hg.1; omega, hg.1.2⟩
    repeat' (first | apply pwp_seq | apply pwp_region | (apply px_run; (first | (apply opv_move; first | exact hid_int rfl | rfl) | (apply opv_assign; first | exact hid_bool rfl) | (apply opv_len_ints el_int; rfl; (first | exact rd_old (by assumption)))); rfl; rfl) | apply px_nil | apply qseq_normal | apply pwp_block | (apply px_box; rfl; rfl; rfl; rfl; intro bk))
    refine pwp_loop (τ := Nat) [(4,4), (6,6), (9,19)] (fun k => [(9, .int .i64 (k : Int))]) (fun _ => Cl [] w [.blk bk [.int .i64 size, sv]]) (fun k => k ≤ vs.length ∧ ∀ i, i < k → 0 ≤ vs.getD i 0 ∧ vs.getD i 0 ≤ size - 1) (fun k => vs.length - k) 0
      ⟨rfl, trivial⟩ ⟨Nat.zero_le _, fun v hv => by omega⟩ (fun _ h => h) (fun J k hk => ?_)
    obtain ⟨hk, hok⟩ := hk
    by_cases hlt : k < vs.length
    · repeat' (first | apply pwp_seq | apply pwp_region | (apply px_run; (first | (apply opv_move; first | exact hid_int rfl) | (apply opv_assign; first | exact hid_int rfl | exact hid_bool rfl) | (apply opv_lss <;> rfl) | (apply opv_not_dec <;> rfl) | (apply opv_add_in; rfl; rfl; omega) | (apply opv_sub_in; rfl; rfl; omega) | (apply opv_field fld_G0; rfl) | (apply opv_load_blk 0; (first | with_reducible exact sc_int); rfl; rfl; rfl) | (apply opv_load_ints sc_int; rfl; (first | exact rd_old (by assumption)); (first | omega)) | (apply opv_index_nat (vs := ints _) el_int; rfl; rfl; (first | exact rd_old (by assumption)); (first | (simp only [ints_length]; omega))) | (apply opv_call; rfl; rfl; exact Cl.stable _ _ _; exact fun w hw => i_within_c _ _ _ _)); rfl; rfl) | apply px_nil | apply qseq_normal | apply qseq_ret | apply pwp_block | apply qblock_normal | apply qblock_ret | apply pwp_skip | apply pwp_ret | apply qround_ret | (apply pwp_cond_ndec; rfl; all_goals (intro hc; try (first | fail))) | (apply pwp_cond_dec; rfl; all_goals (intro hc; try (first | (exfalso; omega)))))
      · refine qbody_ret1 (v := .bool _) rfl rfl ⟨ret_false rfl fun h => hc (h.2 k hlt), fun _ h => h.below⟩
      · refine qround_normal ?_ ⟨k + 1, ⟨rfl, trivial⟩, ⟨by omega, fun x hx => ?_⟩, by omega, fun _ h => h⟩
        · repeat (first | exact same_refl | refine same_upd rfl ?_ | refine same_junk rfl ?_)
        · by_cases hvk : x < k
          · exact hok x hvk
          · obtain rfl : x = k := by omega
            exact hc
    · repeat' (first | apply pwp_seq | apply pwp_region | (apply px_run; (first | (apply opv_assign; first | exact hid_bool rfl) | (apply opv_lss <;> rfl) | (apply opv_load_str 0 st_G; rfl; rfl; rfl) | (apply opv_call; rfl; rfl; exact Cl.stable _ _ _; exact fun w hw => i_IsGraph_c _ _ rows _ (by first | exact hw.arr (by assumption)))); rfl; rfl) | apply px_nil | apply qseq_normal | apply qseq_exit | (apply qblock_exit_same; rfl) | apply pwp_exit | apply pwp_ret | apply qround_exit | (apply pwp_cond_dec; rfl; all_goals (intro hc; try (first | (exfalso; omega)))))
      refine qbody_ret1 (v := .bool (decide _)) rfl rfl ⟨ret_iff ⟨fun h => ⟨h, fun i hi => hok i (by omega)⟩, fun h => h.1⟩, fun _ h => h.below⟩
  · repeat' (first | apply pwp_seq | apply pwp_region | (apply px_run; (first | (apply opv_move; first | exact hid_int rfl | rfl) | (apply opv_assign; first | exact hid_bool rfl) | (apply opv_len_ints el_int; rfl; (first | exact rd_old (by assumption)))); rfl; rfl) | apply px_nil | apply qseq_normal | apply pwp_block | (apply px_box; rfl; rfl; rfl; rfl; intro bk))
    refine pwp_loop (τ := Nat) [(4,4), (6,6), (9,19)] (fun k => [(9, .int .i64 (k : Int))]) (fun _ => Cl [] w [.blk bk [.int .i64 size, sv]]) (fun k => k ≤ vs.length) (fun k => vs.length - k) 0
      ⟨rfl, trivial⟩ (Nat.zero_le _) (fun _ h => h) (fun J k hk => ?_)
    by_cases hlt : k < vs.length
    · repeat' (first | apply pwp_seq | apply pwp_region | (apply px_run; (first | (apply opv_move; first | exact hid_int rfl) | (apply opv_assign; first | exact hid_int rfl | exact hid_bool rfl) | (apply opv_lss <;> rfl) | (apply opv_not_dec <;> rfl) | (apply opv_add_in; rfl; rfl; omega) | (apply opv_field fld_G0; rfl) | (apply opv_load_blk 0; (first | with_reducible exact sc_int); rfl; rfl; rfl) | (apply opv_load_ints sc_int; rfl; (first | exact rd_old (by assumption)); (first | omega)) | (apply opv_index_nat (vs := ints _) el_int; rfl; rfl; (first | exact rd_old (by assumption)); (first | (simp only [ints_length]; omega))) | (apply opv_call; rfl; rfl; exact Cl.stable _ _ _; exact fun w hw => i_within_c _ _ _ _) | (apply opv_sub <;> rfl)); rfl; rfl) | apply px_nil | apply qseq_normal | apply qseq_ret | apply pwp_block | apply qblock_normal | apply qblock_ret | apply pwp_skip | apply pwp_ret | apply qround_ret | (apply pwp_cond_ndec; rfl; all_goals (intro hc; try (first | fail))) | (apply pwp_cond_dec; rfl; all_goals (intro hc; try (first | (exfalso; omega)))))
      · refine qbody_ret1 (v := .bool _) rfl rfl ⟨ret_false rfl fun h => hg h.1, fun _ h => h.below⟩
      · refine qround_normal ?_ ⟨k + 1, ⟨rfl, trivial⟩, by omega, by omega, fun _ h => h⟩
        repeat (first | exact same_refl | refine same_upd rfl ?_ | refine same_junk rfl ?_)
    · repeat' (first | apply pwp_seq | apply pwp_region | (apply px_run; (first | (apply opv_assign; first | exact hid_bool rfl) | (apply opv_lss <;> rfl) | (apply opv_load_str 0 st_G; rfl; rfl; rfl) | (apply opv_call; rfl; rfl; exact Cl.stable _ _ _; exact fun w hw => i_IsGraph_c _ _ rows _ (by first | exact hw.arr (by assumption)))); rfl; rfl) | apply px_nil | apply qseq_normal | apply qseq_exit | (apply qblock_exit_same; rfl) | apply pwp_exit | apply pwp_ret | apply qround_exit | (apply pwp_cond_dec; rfl; all_goals (intro hc; try (first | (exfalso; omega)))))
      refine qbody_ret1 (v := .bool (decide _)) rfl rfl ⟨ret_iff ⟨fun h => (hg h).elim, fun h => h.1⟩, fun _ h => h.below⟩
theorem en_i_HasEdge : Entry Try.prog 48 := ⟨_, Try.func48, by kernel_rfl, rfl⟩
theorem i_HasEdge_c (size : Int) (sv : Value) (rows : List Int) (v u : Int) (w : World) (hr : Arr w sv (ints rows)) :
    Pure Try.prog 48 #[.agg #[.int .i64 size, sv], .int .i64 v, .int .i64 u] w (.bool (decide (edgeP size rows v u))) := by
  refine pure_enter (args := [_, _, _]) en_i_HasEdge Try.func48 rfl Try.ntmps48 rfl ?_
  by_cases hg : IsG size rows ∧ (0 ≤ v ∧ v < size) ∧ (0 ≤ u ∧ u < size)
  · obtain ⟨hg1, ⟨hv1, hv2⟩, hu1, hu2⟩ := id hg
    obtain ⟨n, hn, hrl, _, hn7⟩ := isG_size hg1
    have hlist : IsG size rows ∧ ∀ i, i < [v, u].length → 0 ≤ [v, u].getD i 0 ∧ [v, u].getD i 0 ≤ size - 1 := ⟨hg1, fun i hi => by
      have : i = 0 ∨ i = 1 := by simp at hi; omega
      rcases this with rfl | rfl
      · exact ⟨hv1, by show v ≤ size - 1; omega⟩
      · exact ⟨hu1, by show u ≤ size - 1; omega⟩⟩
    repeat' (first
        | apply pwp_seq
        | apply pwp_region
        | (apply px_run; (first
            | (apply opv_move; first | exact hid_int rfl | exact hid_bool rfl | exact hid_ptr rfl | rfl)
            | (apply opv_assign; first | exact hid_int rfl | exact hid_bool rfl | exact hid_ptr rfl | rfl)
            | (apply opv_lss <;> rfl)
            | (apply opv_leq <;> rfl)
            | (apply opv_gtr <;> rfl)
            | (apply opv_geq <;> rfl)
            | (apply opv_eql <;> rfl)
            | (apply opv_neq <;> rfl)
            | (apply opv_and <;> rfl)
            | (apply opv_or <;> rfl)
            | (apply opv_xor <;> rfl)
            | (apply opv_andNot <;> rfl)
            | (apply opv_pick_t <;> rfl)
            | (apply opv_pick_f <;> rfl)
            | (apply opv_not_dec <;> rfl)
            | (apply opv_not <;> rfl)
            | (apply opv_neg <;> rfl)
            | (apply opv_add_in; rfl; rfl; omega)
            | (apply opv_sub_in; rfl; rfl; omega)
            | (apply opv_mul_in; rfl; rfl; omega)
            | (apply opv_shl; rfl; rfl; omega)
            | (apply opv_shr; rfl; rfl; omega)
            | (apply opv_quo; rfl; rfl; omega)
            | (apply opv_rem; rfl; rfl; omega)
            | (apply opv_field fld_G0; rfl)
            | (apply opv_field fld_G1; rfl)
            | (apply opv_load_blk 0; (first | with_reducible exact sc_int | with_reducible exact sc_ints); rfl; rfl; rfl)
            | (apply opv_load_blk 1; (first | with_reducible exact sc_int | with_reducible exact sc_ints); rfl; rfl; rfl)
            | (apply opv_load_blk 2; (first | with_reducible exact sc_int | with_reducible exact sc_ints); rfl; rfl; rfl)
            | (apply opv_load_blk 3; (first | with_reducible exact sc_int | with_reducible exact sc_ints); rfl; rfl; rfl)
            | (apply opv_load_blk 4; (first | with_reducible exact sc_int | with_reducible exact sc_ints); rfl; rfl; rfl)
            | (apply opv_load_ints sc_int; rfl; (first | exact rd_old (by assumption) | exact rd_row 0 rfl | exact rd_row 1 rfl | exact rd_row 2 rfl | exact rd_row 3 rfl | exact rd_row 4 rfl); (first | omega | (simp only [List.length_set]; omega)))
            | (apply opv_index_nat (vs := ints _) el_int; rfl; rfl; (first | exact rd_old (by assumption) | exact rd_row 0 rfl | exact rd_row 1 rfl | exact rd_row 2 rfl | exact rd_row 3 rfl | exact rd_row 4 rfl); (first | (simp only [ints_length]; omega) | (simp [ints]; omega)))
            | (apply opv_index (vs := ints _) el_int; rfl; rfl; (first | exact rd_old (by assumption) | exact rd_row 0 rfl | exact rd_row 1 rfl | exact rd_row 2 rfl | exact rd_row 3 rfl | exact rd_row 4 rfl); omega; (first | (simp only [ints_length]; omega) | (simp [ints]; omega)))
            | (apply opv_len_ints el_int; rfl; (first | exact rd_old (by assumption) | exact rd_row 0 rfl | exact rd_row 1 rfl | exact rd_row 2 rfl | exact rd_row 3 rfl | exact rd_row 4 rfl))
            | (apply opv_load_str 0 st_G; rfl; rfl; rfl)
            | (apply opv_load_str 1 st_G; rfl; rfl; rfl)
            | (apply opv_load_str 2 st_G; rfl; rfl; rfl)
            | (apply opv_load_str 3 st_G; rfl; rfl; rfl)
            | (apply opv_load_str 4 st_G; rfl; rfl; rfl)
            | (apply opv_call; rfl; rfl; exact Cl.stable _ _ _; exact fun w hw => i_isVertex_c _ _ _ rows [v, u] _ (by first | exact hw.arr (by assumption) | exact hw.rowArr (k := 0) rfl | exact hw.rowArr (k := 1) rfl | exact hw.rowArr (k := 2) rfl | exact hw.rowArr (k := 3) rfl | exact hw.rowArr (k := 4) rfl | exact hw.rowArr (k := 5) rfl | exact hw.rowArr (k := 6) rfl | exact hw.rowArr (k := 7) rfl | exact hw.rowArr (k := 8) rfl | exact hw.rowArr (k := 9) rfl | exact hw.rowArr (k := 10) rfl | exact hw.rowArr (k := 11) rfl | exact hw.rowArr (k := 12) rfl | exact hw.rowArr (k := 13) rfl | exact hw.rowArr (k := 14) rfl | exact hw.rowArr (k := 15) rfl | exact hw.rowArr (k := 16) rfl | exact hw.rowArr (k := 17) rfl | exact hw.rowArr (k := 18) rfl | exact hw.rowArr (k := 19) rfl) (by first | exact hw.arr (by assumption) | exact hw.rowArr (k := 0) rfl | exact hw.rowArr (k := 1) rfl | exact hw.rowArr (k := 2) rfl | exact hw.rowArr (k := 3) rfl | exact hw.rowArr (k := 4) rfl | exact hw.rowArr (k := 5) rfl | exact hw.rowArr (k := 6) rfl | exact hw.rowArr (k := 7) rfl | exact hw.rowArr (k := 8) rfl | exact hw.rowArr (k := 9) rfl | exact hw.rowArr (k := 10) rfl | exact hw.rowArr (k := 11) rfl | exact hw.rowArr (k := 12) rfl | exact hw.rowArr (k := 13) rfl | exact hw.rowArr (k := 14) rfl | exact hw.rowArr (k := 15) rfl | exact hw.rowArr (k := 16) rfl | exact hw.rowArr (k := 17) rfl | exact hw.rowArr (k := 18) rfl | exact hw.rowArr (k := 19) rfl))
            | (apply opv_call; rfl; rfl; exact Cl.stable _ _ _; exact fun w hw => i_has_c _ _ _ (by omega))
            | (apply opv_add <;> rfl)
            | (apply opv_sub <;> rfl)
            | (apply opv_mul <;> rfl)
            | (apply opv_eql_bool ty_bool <;> rfl)
            | (apply opv_neq_bool ty_bool <;> rfl)); rfl; rfl)
        | apply px_nil
        | (apply px_skip; rfl; rfl)
        | apply qseq_normal
        | apply qseq_ret
        | apply qseq_exit
        | apply pwp_block
        | apply qblock_normal
        | apply qblock_ret
        | (apply qblock_exit_same; rfl)
        | (apply qblock_exit_other; rfl)
        | apply pwp_skip
        | apply pwp_exit
        | apply pwp_ret
        | apply qround_ret
        | apply qround_exit
        | apply qonce_ret
        | apply qonce_exit
        | (apply pwp_cond_t; rfl)
        | (apply pwp_cond_f; rfl)
        | (apply pwp_region_mix; kernel_rfl; decide +kernel; exact Cl.stable _ _ _)
        | (apply pwp_region_draw; kernel_rfl; kernel_rfl; exact Cl.stable _ _ _)
        | (apply px_guard_ndec; rfl; rfl; rfl; all_goals (intro hc; try (first | contradiction | (exfalso; omega) | (exfalso; simp at hc; done))))
        | (apply px_guard_dec; rfl; rfl; rfl; all_goals (intro hc; try (first | contradiction | (exfalso; omega) | (exfalso; simp at hc; done))))
        | (apply px_guard_not; rfl; rfl; rfl; all_goals (intro hc; try (first | contradiction | (exfalso; omega) | (exfalso; simp at hc; done))))
        | (apply px_guard; rfl; rfl; rfl; all_goals (intro hc; (first | contradiction | (fail_if_success (cases hc); try (first | (exfalso; omega) | (exfalso; simp at hc; done))))))
        | (apply pwp_cond_ndec; rfl; all_goals (intro hc; try (first | contradiction | (exfalso; omega) | (exfalso; simp at hc; done))))
        | (apply pwp_cond_dec; rfl; all_goals (intro hc; try (first | contradiction | (exfalso; omega) | (exfalso; simp at hc; done))))
        | (apply pwp_cond_not; rfl; all_goals (intro hc; try (first | contradiction | (exfalso; omega) | (exfalso; simp at hc; done))))
        | (apply pwp_cond; rfl; all_goals (intro hc; try (first | contradiction | (exfalso; omega) | (exfalso; simp at hc; done))))
        | (apply px_box; rfl; rfl; rfl; rfl; intro bk)
        | (apply px_lit2 ez_int; rfl; (intro w hw; (first | rfl | assumption | exact stor_row 0 hw rfl | exact stor_row 1 hw rfl | exact stor_row 2 hw rfl | exact stor_row 3 hw rfl | exact stor_row 4 hw rfl | exact stor_row 5 hw rfl | exact stor_row 6 hw rfl | exact stor_row 7 hw rfl | exact stor_row 8 hw rfl | exact stor_arr (by assumption) | exact stor_mem hw (by repeat (first | assumption | apply List.mem_cons_of_mem | apply List.mem_append_right)))); rfl; (intro w hw; (first | rfl | assumption | exact stor_row 0 hw rfl | exact stor_row 1 hw rfl | exact stor_row 2 hw rfl | exact stor_row 3 hw rfl | exact stor_row 4 hw rfl | exact stor_row 5 hw rfl | exact stor_row 6 hw rfl | exact stor_row 7 hw rfl | exact stor_row 8 hw rfl | exact stor_arr (by assumption) | exact stor_mem hw (by repeat (first | assumption | apply List.mem_cons_of_mem | apply List.mem_append_right)))); rfl; rfl; rfl; intro sv))
    · refine qbody_ret1 (v := .bool _) rfl rfl ⟨?_, fun _ h => h.below⟩
      congr 1
      rw [Bool.eq_iff_iff]; simp only [decide_eq_true_eq]
      exact ⟨fun h => ⟨hg1, hg.2.1, hg.2.2, h⟩, fun h => h.2.2.2⟩
    all_goals exact (hc hlist).elim
  · have hneg : ¬ (IsG size rows ∧ ∀ i, i < [v, u].length → 0 ≤ [v, u].getD i 0 ∧ [v, u].getD i 0 ≤ size - 1) := fun h => hg ⟨h.1, by have := h.2 0 (by simp); have h1 : (0 ≤ v ∧ v ≤ size - 1) := this; omega, by have := h.2 1 (by simp); have h1 : (0 ≤ u ∧ u ≤ size - 1) := this; omega⟩
    repeat' (first
        | apply pwp_seq
        | apply pwp_region
        | (apply px_run; (first
            | (apply opv_move; first | exact hid_int rfl | exact hid_bool rfl | exact hid_ptr rfl | rfl)
            | (apply opv_assign; first | exact hid_int rfl | exact hid_bool rfl | exact hid_ptr rfl | rfl)
            | (apply opv_lss <;> rfl)
            | (apply opv_leq <;> rfl)
            | (apply opv_gtr <;> rfl)
            | (apply opv_geq <;> rfl)
            | (apply opv_eql <;> rfl)
            | (apply opv_neq <;> rfl)
            | (apply opv_and <;> rfl)
            | (apply opv_or <;> rfl)
            | (apply opv_xor <;> rfl)
            | (apply opv_andNot <;> rfl)
            | (apply opv_pick_t <;> rfl)
            | (apply opv_pick_f <;> rfl)
            | (apply opv_not_dec <;> rfl)
            | (apply opv_not <;> rfl)
            | (apply opv_neg <;> rfl)
            | (apply opv_add_in; rfl; rfl; omega)
            | (apply opv_sub_in; rfl; rfl; omega)
            | (apply opv_mul_in; rfl; rfl; omega)
            | (apply opv_shl; rfl; rfl; omega)
            | (apply opv_shr; rfl; rfl; omega)
            | (apply opv_quo; rfl; rfl; omega)
            | (apply opv_rem; rfl; rfl; omega)
            | (apply opv_field fld_G0; rfl)
            | (apply opv_field fld_G1; rfl)
            | (apply opv_load_blk 0; (first | with_reducible exact sc_int | with_reducible exact sc_ints); rfl; rfl; rfl)
            | (apply opv_load_blk 1; (first | with_reducible exact sc_int | with_reducible exact sc_ints); rfl; rfl; rfl)
            | (apply opv_load_blk 2; (first | with_reducible exact sc_int | with_reducible exact sc_ints); rfl; rfl; rfl)
            | (apply opv_load_blk 3; (first | with_reducible exact sc_int | with_reducible exact sc_ints); rfl; rfl; rfl)
            | (apply opv_load_blk 4; (first | with_reducible exact sc_int | with_reducible exact sc_ints); rfl; rfl; rfl)
            | (apply opv_load_ints sc_int; rfl; (first | exact rd_old (by assumption) | exact rd_row 0 rfl | exact rd_row 1 rfl | exact rd_row 2 rfl | exact rd_row 3 rfl | exact rd_row 4 rfl); (first | omega | (simp only [List.length_set]; omega)))
            | (apply opv_index_nat (vs := ints _) el_int; rfl; rfl; (first | exact rd_old (by assumption) | exact rd_row 0 rfl | exact rd_row 1 rfl | exact rd_row 2 rfl | exact rd_row 3 rfl | exact rd_row 4 rfl); (first | (simp only [ints_length]; omega) | (simp [ints]; omega)))
            | (apply opv_index (vs := ints _) el_int; rfl; rfl; (first | exact rd_old (by assumption) | exact rd_row 0 rfl | exact rd_row 1 rfl | exact rd_row 2 rfl | exact rd_row 3 rfl | exact rd_row 4 rfl); omega; (first | (simp only [ints_length]; omega) | (simp [ints]; omega)))
            | (apply opv_len_ints el_int; rfl; (first | exact rd_old (by assumption) | exact rd_row 0 rfl | exact rd_row 1 rfl | exact rd_row 2 rfl | exact rd_row 3 rfl | exact rd_row 4 rfl))
            | (apply opv_load_str 0 st_G; rfl; rfl; rfl)
            | (apply opv_load_str 1 st_G; rfl; rfl; rfl)
            | (apply opv_load_str 2 st_G; rfl; rfl; rfl)
            | (apply opv_load_str 3 st_G; rfl; rfl; rfl)
            | (apply opv_load_str 4 st_G; rfl; rfl; rfl)
            | (apply opv_call; rfl; rfl; exact Cl.stable _ _ _; exact fun w hw => i_isVertex_c _ _ _ rows [v, u] _ (by first | exact hw.arr (by assumption) | exact hw.rowArr (k := 0) rfl | exact hw.rowArr (k := 1) rfl | exact hw.rowArr (k := 2) rfl | exact hw.rowArr (k := 3) rfl | exact hw.rowArr (k := 4) rfl | exact hw.rowArr (k := 5) rfl | exact hw.rowArr (k := 6) rfl | exact hw.rowArr (k := 7) rfl | exact hw.rowArr (k := 8) rfl | exact hw.rowArr (k := 9) rfl | exact hw.rowArr (k := 10) rfl | exact hw.rowArr (k := 11) rfl | exact hw.rowArr (k := 12) rfl | exact hw.rowArr (k := 13) rfl | exact hw.rowArr (k := 14) rfl | exact hw.rowArr (k := 15) rfl | exact hw.rowArr (k := 16) rfl | exact hw.rowArr (k := 17) rfl | exact hw.rowArr (k := 18) rfl | exact hw.rowArr (k := 19) rfl) (by first | exact hw.arr (by assumption) | exact hw.rowArr (k := 0) rfl | exact hw.rowArr (k := 1) rfl | exact hw.rowArr (k := 2) rfl | exact hw.rowArr (k := 3) rfl | exact hw.rowArr (k := 4) rfl | exact hw.rowArr (k := 5) rfl | exact hw.rowArr (k := 6) rfl | exact hw.rowArr (k := 7) rfl | exact hw.rowArr (k := 8) rfl | exact hw.rowArr (k := 9) rfl | exact hw.rowArr (k := 10) rfl | exact hw.rowArr (k := 11) rfl | exact hw.rowArr (k := 12) rfl | exact hw.rowArr (k := 13) rfl | exact hw.rowArr (k := 14) rfl | exact hw.rowArr (k := 15) rfl | exact hw.rowArr (k := 16) rfl | exact hw.rowArr (k := 17) rfl | exact hw.rowArr (k := 18) rfl | exact hw.rowArr (k := 19) rfl))
            | (apply opv_add <;> rfl)
            | (apply opv_sub <;> rfl)
            | (apply opv_mul <;> rfl)
            | (apply opv_eql_bool ty_bool <;> rfl)
            | (apply opv_neq_bool ty_bool <;> rfl)); rfl; rfl)
        | apply px_nil
        | (apply px_skip; rfl; rfl)
        | apply qseq_normal
        | apply qseq_ret
        | apply qseq_exit
        | apply pwp_block
        | apply qblock_normal
        | apply qblock_ret
        | (apply qblock_exit_same; rfl)
        | (apply qblock_exit_other; rfl)
        | apply pwp_skip
        | apply pwp_exit
        | apply pwp_ret
        | apply qround_ret
        | apply qround_exit
        | apply qonce_ret
        | apply qonce_exit
        | (apply pwp_cond_t; rfl)
        | (apply pwp_cond_f; rfl)
        | (apply pwp_region_mix; kernel_rfl; decide +kernel; exact Cl.stable _ _ _)
        | (apply pwp_region_draw; kernel_rfl; kernel_rfl; exact Cl.stable _ _ _)
        | (apply px_guard_ndec; rfl; rfl; rfl; all_goals (intro hc; try (first | contradiction | (exfalso; omega) | (exfalso; simp at hc; done))))
        | (apply px_guard_dec; rfl; rfl; rfl; all_goals (intro hc; try (first | contradiction | (exfalso; omega) | (exfalso; simp at hc; done))))
        | (apply px_guard_not; rfl; rfl; rfl; all_goals (intro hc; try (first | contradiction | (exfalso; omega) | (exfalso; simp at hc; done))))
        | (apply px_guard; rfl; rfl; rfl; all_goals (intro hc; (first | contradiction | (fail_if_success (cases hc); try (first | (exfalso; omega) | (exfalso; simp at hc; done))))))
        | (apply pwp_cond_ndec; rfl; all_goals (intro hc; try (first | contradiction | (exfalso; omega) | (exfalso; simp at hc; done))))
        | (apply pwp_cond_dec; rfl; all_goals (intro hc; try (first | contradiction | (exfalso; omega) | (exfalso; simp at hc; done))))
        | (apply pwp_cond_not; rfl; all_goals (intro hc; try (first | contradiction | (exfalso; omega) | (exfalso; simp at hc; done))))
        | (apply pwp_cond; rfl; all_goals (intro hc; try (first | contradiction | (exfalso; omega) | (exfalso; simp at hc; done))))
        | (apply px_box; rfl; rfl; rfl; rfl; intro bk)
        | (apply px_lit2 ez_int; rfl; (intro w hw; (first | rfl | assumption | exact stor_row 0 hw rfl | exact stor_row 1 hw rfl | exact stor_row 2 hw rfl | exact stor_row 3 hw rfl | exact stor_row 4 hw rfl | exact stor_row 5 hw rfl | exact stor_row 6 hw rfl | exact stor_row 7 hw rfl | exact stor_row 8 hw rfl | exact stor_arr (by assumption) | exact stor_mem hw (by repeat (first | assumption | apply List.mem_cons_of_mem | apply List.mem_append_right)))); rfl; (intro w hw; (first | rfl | assumption | exact stor_row 0 hw rfl | exact stor_row 1 hw rfl | exact stor_row 2 hw rfl | exact stor_row 3 hw rfl | exact stor_row 4 hw rfl | exact stor_row 5 hw rfl | exact stor_row 6 hw rfl | exact stor_row 7 hw rfl | exact stor_row 8 hw rfl | exact stor_arr (by assumption) | exact stor_mem hw (by repeat (first | assumption | apply List.mem_cons_of_mem | apply List.mem_append_right)))); rfl; rfl; rfl; intro sv))
    all_goals first | exact (hneg hc).elim | skip
    refine qbody_ret1 (v := .bool _) rfl rfl ⟨ret_false rfl fun h => hg ⟨h.1, h.2.1, h.2.2.1⟩, fun _ h => h.below⟩
theorem en_s_HasEdge : Entry Try.prog 18 := ⟨_, Try.func18, by kernel_rfl, rfl⟩
theorem s_HasEdge_c (size : Int) (sv : Value) (rows : List Int) (v u : Int) (w : World) (hr : Arr w sv (ints rows)) :
    Pure Try.prog 18 #[.agg #[.int .i64 size, sv], .int .i64 v, .int .i64 u] w (.bool (decide (edgeP size rows v u))) := by
  refine pure_enter (args := [_, _, _]) en_s_HasEdge Try.func18 rfl Try.ntmps18 rfl ?_
  by_cases hg : IsG size rows
  · obtain ⟨n, hn, hrl, _, hn7⟩ := isG_size hg
    repeat' (first
        | apply pwp_seq
        | apply pwp_region
        | (apply px_run; (first
            | (apply opv_move; first | exact hid_int rfl | exact hid_bool rfl | exact hid_ptr rfl | rfl)
            | (apply opv_assign; first | exact hid_int rfl | exact hid_bool rfl | exact hid_ptr rfl | rfl)
            | (apply opv_lss <;> rfl)
            | (apply opv_leq <;> rfl)
            | (apply opv_gtr <;> rfl)
            | (apply opv_geq <;> rfl)
            | (apply opv_eql <;> rfl)
            | (apply opv_neq <;> rfl)
            | (apply opv_and <;> rfl)
            | (apply opv_or <;> rfl)
            | (apply opv_xor <;> rfl)
            | (apply opv_andNot <;> rfl)
            | (apply opv_pick_t <;> rfl)
            | (apply opv_pick_f <;> rfl)
            | (apply opv_not_dec <;> rfl)
            | (apply opv_not <;> rfl)
            | (apply opv_neg <;> rfl)
            | (apply opv_add_in; rfl; rfl; omega)
            | (apply opv_sub_in; rfl; rfl; omega)
            | (apply opv_mul_in; rfl; rfl; omega)
            | (apply opv_shl; rfl; rfl; omega)
            | (apply opv_shr; rfl; rfl; omega)
            | (apply opv_quo; rfl; rfl; omega)
            | (apply opv_rem; rfl; rfl; omega)
            | (apply opv_field fld_G0; rfl)
            | (apply opv_field fld_G1; rfl)
            | (apply opv_load_blk 0; (first | with_reducible exact sc_int | with_reducible exact sc_ints); rfl; rfl; rfl)
            | (apply opv_load_blk 1; (first | with_reducible exact sc_int | with_reducible exact sc_ints); rfl; rfl; rfl)
            | (apply opv_load_blk 2; (first | with_reducible exact sc_int | with_reducible exact sc_ints); rfl; rfl; rfl)
            | (apply opv_load_blk 3; (first | with_reducible exact sc_int | with_reducible exact sc_ints); rfl; rfl; rfl)
            | (apply opv_load_blk 4; (first | with_reducible exact sc_int | with_reducible exact sc_ints); rfl; rfl; rfl)
            | (apply opv_load_ints sc_int; rfl; (first | exact rd_old (by assumption) | exact rd_row 0 rfl | exact rd_row 1 rfl | exact rd_row 2 rfl | exact rd_row 3 rfl | exact rd_row 4 rfl); (first | omega | (simp only [List.length_set]; omega)))
            | (apply opv_index_nat (vs := ints _) el_int; rfl; rfl; (first | exact rd_old (by assumption) | exact rd_row 0 rfl | exact rd_row 1 rfl | exact rd_row 2 rfl | exact rd_row 3 rfl | exact rd_row 4 rfl); (first | (simp only [ints_length]; omega) | (simp [ints]; omega)))
            | (apply opv_index (vs := ints _) el_int; rfl; rfl; (first | exact rd_old (by assumption) | exact rd_row 0 rfl | exact rd_row 1 rfl | exact rd_row 2 rfl | exact rd_row 3 rfl | exact rd_row 4 rfl); omega; (first | (simp only [ints_length]; omega) | (simp [ints]; omega)))
            | (apply opv_len_ints el_int; rfl; (first | exact rd_old (by assumption) | exact rd_row 0 rfl | exact rd_row 1 rfl | exact rd_row 2 rfl | exact rd_row 3 rfl | exact rd_row 4 rfl))
            | (apply opv_load_str 0 st_G; rfl; rfl; rfl)
            | (apply opv_load_str 1 st_G; rfl; rfl; rfl)
            | (apply opv_load_str 2 st_G; rfl; rfl; rfl)
            | (apply opv_load_str 3 st_G; rfl; rfl; rfl)
            | (apply opv_load_str 4 st_G; rfl; rfl; rfl)
            | (apply opv_call; rfl; rfl; exact Cl.stable _ _ _; exact fun w hw => s_IsGraph_c _ _ rows _ (by first | exact hw.arr (by assumption) | exact hw.rowArr (k := 0) rfl | exact hw.rowArr (k := 1) rfl | exact hw.rowArr (k := 2) rfl | exact hw.rowArr (k := 3) rfl | exact hw.rowArr (k := 4) rfl | exact hw.rowArr (k := 5) rfl | exact hw.rowArr (k := 6) rfl | exact hw.rowArr (k := 7) rfl | exact hw.rowArr (k := 8) rfl | exact hw.rowArr (k := 9) rfl | exact hw.rowArr (k := 10) rfl | exact hw.rowArr (k := 11) rfl | exact hw.rowArr (k := 12) rfl | exact hw.rowArr (k := 13) rfl | exact hw.rowArr (k := 14) rfl | exact hw.rowArr (k := 15) rfl | exact hw.rowArr (k := 16) rfl | exact hw.rowArr (k := 17) rfl | exact hw.rowArr (k := 18) rfl | exact hw.rowArr (k := 19) rfl))
            | (apply opv_call; rfl; rfl; exact Cl.stable _ _ _; exact fun w hw => s_l2Edge_c _ _ rows _ _ _ (by first | exact hw.arr (by assumption) | exact hw.rowArr (k := 0) rfl | exact hw.rowArr (k := 1) rfl | exact hw.rowArr (k := 2) rfl | exact hw.rowArr (k := 3) rfl | exact hw.rowArr (k := 4) rfl | exact hw.rowArr (k := 5) rfl | exact hw.rowArr (k := 6) rfl | exact hw.rowArr (k := 7) rfl | exact hw.rowArr (k := 8) rfl | exact hw.rowArr (k := 9) rfl | exact hw.rowArr (k := 10) rfl | exact hw.rowArr (k := 11) rfl | exact hw.rowArr (k := 12) rfl | exact hw.rowArr (k := 13) rfl | exact hw.rowArr (k := 14) rfl | exact hw.rowArr (k := 15) rfl | exact hw.rowArr (k := 16) rfl | exact hw.rowArr (k := 17) rfl | exact hw.rowArr (k := 18) rfl | exact hw.rowArr (k := 19) rfl) (by omega) (by omega))
            | (apply opv_add <;> rfl)
            | (apply opv_sub <;> rfl)
            | (apply opv_mul <;> rfl)
            | (apply opv_eql_bool ty_bool <;> rfl)
            | (apply opv_neq_bool ty_bool <;> rfl)); rfl; rfl)
        | apply px_nil
        | (apply px_skip; rfl; rfl)
        | apply qseq_normal
        | apply qseq_ret
        | apply qseq_exit
        | apply pwp_block
        | apply qblock_normal
        | apply qblock_ret
        | (apply qblock_exit_same; rfl)
        | (apply qblock_exit_other; rfl)
        | apply pwp_skip
        | apply pwp_exit
        | apply pwp_ret
        | apply qround_ret
        | apply qround_exit
        | apply qonce_ret
        | apply qonce_exit
        | (apply pwp_cond_t; rfl)
        | (apply pwp_cond_f; rfl)
        | (apply pwp_region_mix; kernel_rfl; decide +kernel; exact Cl.stable _ _ _)
        | (apply pwp_region_draw; kernel_rfl; kernel_rfl; exact Cl.stable _ _ _)
        | (apply px_guard_ndec; rfl; rfl; rfl; all_goals (intro hc; try (first | contradiction | (exfalso; omega) | (exfalso; simp at hc; done))))
        | (apply px_guard_dec; rfl; rfl; rfl; all_goals (intro hc; try (first | contradiction | (exfalso; omega) | (exfalso; simp at hc; done))))
        | (apply px_guard_not; rfl; rfl; rfl; all_goals (intro hc; try (first | contradiction | (exfalso; omega) | (exfalso; simp at hc; done))))
        | (apply px_guard; rfl; rfl; rfl; all_goals (intro hc; (first | contradiction | (fail_if_success (cases hc); try (first | (exfalso; omega) | (exfalso; simp at hc; done))))))
        | (apply pwp_cond_ndec; rfl; all_goals (intro hc; try (first | contradiction | (exfalso; omega) | (exfalso; simp at hc; done))))
        | (apply pwp_cond_dec; rfl; all_goals (intro hc; try (first | contradiction | (exfalso; omega) | (exfalso; simp at hc; done))))
        | (apply pwp_cond_not; rfl; all_goals (intro hc; try (first | contradiction | (exfalso; omega) | (exfalso; simp at hc; done))))
        | (apply pwp_cond; rfl; all_goals (intro hc; try (first | contradiction | (exfalso; omega) | (exfalso; simp at hc; done))))
        | (apply px_box; rfl; rfl; rfl; rfl; intro bk))
    all_goals try (refine qbody_ret1 (v := .bool _) rfl rfl ⟨ret_false rfl fun h => hc (by first | exact h.2.1.1 | exact h.2.2.1.1 | exact h.2.1.2 | exact h.2.2.1.2), fun _ h => h.below⟩)
    refine qbody_ret1 (v := .bool _) rfl rfl ⟨?_, fun _ h => h.below⟩
    congr 1
    rw [Bool.eq_iff_iff]; simp only [decide_eq_true_eq]
    exact ⟨fun h => ⟨hg, ⟨by assumption, by assumption⟩, ⟨by assumption, by assumption⟩, h⟩, fun h => h.2.2.2⟩
  · repeat' (first
      | apply pwp_seq
      | apply pwp_region
      | (apply px_run; (first
          | (apply opv_move; first | exact hid_int rfl | exact hid_bool rfl | exact hid_ptr rfl | rfl)
          | (apply opv_assign; first | exact hid_int rfl | exact hid_bool rfl | exact hid_ptr rfl | rfl)
          | (apply opv_lss <;> rfl)
          | (apply opv_leq <;> rfl)
          | (apply opv_gtr <;> rfl)
          | (apply opv_geq <;> rfl)
          | (apply opv_eql <;> rfl)
          | (apply opv_neq <;> rfl)
          | (apply opv_and <;> rfl)
          | (apply opv_or <;> rfl)
          | (apply opv_xor <;> rfl)
          | (apply opv_andNot <;> rfl)
          | (apply opv_pick_t <;> rfl)
          | (apply opv_pick_f <;> rfl)
          | (apply opv_not_dec <;> rfl)
          | (apply opv_not <;> rfl)
          | (apply opv_neg <;> rfl)
          | (apply opv_add_in; rfl; rfl; omega)
          | (apply opv_sub_in; rfl; rfl; omega)
          | (apply opv_mul_in; rfl; rfl; omega)
          | (apply opv_shl; rfl; rfl; omega)
          | (apply opv_shr; rfl; rfl; omega)
          | (apply opv_quo; rfl; rfl; omega)
          | (apply opv_rem; rfl; rfl; omega)
          | (apply opv_field fld_G0; rfl)
          | (apply opv_field fld_G1; rfl)
          | (apply opv_load_blk 0; (first | with_reducible exact sc_int | with_reducible exact sc_ints); rfl; rfl; rfl)
          | (apply opv_load_blk 1; (first | with_reducible exact sc_int | with_reducible exact sc_ints); rfl; rfl; rfl)
          | (apply opv_load_blk 2; (first | with_reducible exact sc_int | with_reducible exact sc_ints); rfl; rfl; rfl)
          | (apply opv_load_blk 3; (first | with_reducible exact sc_int | with_reducible exact sc_ints); rfl; rfl; rfl)
          | (apply opv_load_blk 4; (first | with_reducible exact sc_int | with_reducible exact sc_ints); rfl; rfl; rfl)
          | (apply opv_load_ints sc_int; rfl; (first | exact rd_old (by assumption) | exact rd_row 0 rfl | exact rd_row 1 rfl | exact rd_row 2 rfl | exact rd_row 3 rfl | exact rd_row 4 rfl); (first | omega | (simp only [List.length_set]; omega)))
          | (apply opv_index_nat (vs := ints _) el_int; rfl; rfl; (first | exact rd_old (by assumption) | exact rd_row 0 rfl | exact rd_row 1 rfl | exact rd_row 2 rfl | exact rd_row 3 rfl | exact rd_row 4 rfl); (first | (simp only [ints_length]; omega) | (simp [ints]; omega)))
          | (apply opv_index (vs := ints _) el_int; rfl; rfl; (first | exact rd_old (by assumption) | exact rd_row 0 rfl | exact rd_row 1 rfl | exact rd_row 2 rfl | exact rd_row 3 rfl | exact rd_row 4 rfl); omega; (first | (simp only [ints_length]; omega) | (simp [ints]; omega)))
          | (apply opv_len_ints el_int; rfl; (first | exact rd_old (by assumption) | exact rd_row 0 rfl | exact rd_row 1 rfl | exact rd_row 2 rfl | exact rd_row 3 rfl | exact rd_row 4 rfl))
          | (apply opv_load_str 0 st_G; rfl; rfl; rfl)
          | (apply opv_load_str 1 st_G; rfl; rfl; rfl)
          | (apply opv_load_str 2 st_G; rfl; rfl; rfl)
          | (apply opv_load_str 3 st_G; rfl; rfl; rfl)
          | (apply opv_load_str 4 st_G; rfl; rfl; rfl)
          | (apply opv_call; rfl; rfl; exact Cl.stable _ _ _; exact fun w hw => s_IsGraph_c _ _ rows _ (by first | exact hw.arr (by assumption) | exact hw.rowArr (k := 0) rfl | exact hw.rowArr (k := 1) rfl | exact hw.rowArr (k := 2) rfl | exact hw.rowArr (k := 3) rfl | exact hw.rowArr (k := 4) rfl | exact hw.rowArr (k := 5) rfl | exact hw.rowArr (k := 6) rfl | exact hw.rowArr (k := 7) rfl | exact hw.rowArr (k := 8) rfl | exact hw.rowArr (k := 9) rfl | exact hw.rowArr (k := 10) rfl | exact hw.rowArr (k := 11) rfl | exact hw.rowArr (k := 12) rfl | exact hw.rowArr (k := 13) rfl | exact hw.rowArr (k := 14) rfl | exact hw.rowArr (k := 15) rfl | exact hw.rowArr (k := 16) rfl | exact hw.rowArr (k := 17) rfl | exact hw.rowArr (k := 18) rfl | exact hw.rowArr (k := 19) rfl))
          | (apply opv_add <;> rfl)
          | (apply opv_sub <;> rfl)
          | (apply opv_mul <;> rfl)
          | (apply opv_eql_bool ty_bool <;> rfl)
          | (apply opv_neq_bool ty_bool <;> rfl)); rfl; rfl)
      | apply px_nil
      | (apply px_skip; rfl; rfl)
      | apply qseq_normal
      | apply qseq_ret
      | apply qseq_exit
      | apply pwp_block
      | apply qblock_normal
      | apply qblock_ret
      | (apply qblock_exit_same; rfl)
      | (apply qblock_exit_other; rfl)
      | apply pwp_skip
      | apply pwp_exit
      | apply pwp_ret
      | apply qround_ret
      | apply qround_exit
      | apply qonce_ret
      | apply qonce_exit
      | (apply pwp_cond_t; rfl)
      | (apply pwp_cond_f; rfl)
      | (apply pwp_region_mix; kernel_rfl; decide +kernel; exact Cl.stable _ _ _)
      | (apply pwp_region_draw; kernel_rfl; kernel_rfl; exact Cl.stable _ _ _)
      | (apply px_guard_ndec; rfl; rfl; rfl; all_goals (intro hc; try (first | contradiction | (exfalso; omega) | (exfalso; simp at hc; done))))
      | (apply px_guard_dec; rfl; rfl; rfl; all_goals (intro hc; try (first | contradiction | (exfalso; omega) | (exfalso; simp at hc; done))))
      | (apply px_guard_not; rfl; rfl; rfl; all_goals (intro hc; try (first | contradiction | (exfalso; omega) | (exfalso; simp at hc; done))))
      | (apply px_guard; rfl; rfl; rfl; all_goals (intro hc; (first | contradiction | (fail_if_success (cases hc); try (first | (exfalso; omega) | (exfalso; simp at hc; done))))))
      | (apply pwp_cond_ndec; rfl; all_goals (intro hc; try (first | contradiction | (exfalso; omega) | (exfalso; simp at hc; done))))
      | (apply pwp_cond_dec; rfl; all_goals (intro hc; try (first | contradiction | (exfalso; omega) | (exfalso; simp at hc; done))))
      | (apply pwp_cond_not; rfl; all_goals (intro hc; try (first | contradiction | (exfalso; omega) | (exfalso; simp at hc; done))))
      | (apply pwp_cond; rfl; all_goals (intro hc; try (first | contradiction | (exfalso; omega) | (exfalso; simp at hc; done))))
      | (apply px_box; rfl; rfl; rfl; rfl; intro bk))
    refine qbody_ret1 (v := .bool _) rfl rfl ⟨ret_false rfl fun h => hg h.1, fun _ h => h.below⟩
end Go.Proofs.Ytkbjcfabbapnpaa
