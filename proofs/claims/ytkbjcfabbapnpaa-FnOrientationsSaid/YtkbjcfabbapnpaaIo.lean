/- Orientations checked, transitive ones, heights: the program's and the reference's. -/
import Derived.Test.YtkbjcfabbapnpaaOr
import Derived.Test.YtkbjcfabbapnpaaPwPho
namespace Go.Proofs.Ytkbjcfabbapnpaa
open Go Go.RowKit Go.Pw
theorem en_i_IsOrientation : Entry Try.prog 26 := ⟨_, Try.func26, by kernel_rfl, rfl⟩
set_option maxRecDepth 100000 in
set_option maxHeartbeats 3200000 in
theorem i_IsOrientation_c (size : Int) (gv tv : Value) (rows to : List Int) (w : World) (hr : Arr w gv (ints rows)) (ht : Arr w tv (ints to)) :
    Pure Try.prog 26 #[.agg #[.int .i64 size, gv], .agg #[tv]] w (.bool (decide (arrP size rows to))) := by
  refine pure_enter (args := [_, _]) en_i_IsOrientation Try.func26 rfl Try.ntmps26 rfl ?_
  by_cases hg : IsG size rows
  case neg =>
    repeat' (first | apply pwp_seq | apply pwp_region | (apply px_run; (first | (apply opv_move; first | exact hid_bool rfl) | (apply opv_assign; first | exact hid_bool rfl) | (apply opv_pick_t <;> rfl) | (apply opv_not_dec <;> rfl) | (apply opv_field fld_G0; rfl) | (apply opv_field fld_O0; rfl) | (apply opv_load_str 1 st_G; rfl; rfl; rfl) | (apply opv_call; rfl; rfl; exact Cl.stable _ _ _; exact fun w hw => i_IsGraph_c _ _ rows _ (by first | exact hw.arr (by assumption)))); rfl; rfl) | apply px_nil | (apply px_skip; rfl; rfl) | apply qseq_normal | apply qseq_ret | apply pwp_ret | (apply pwp_cond_t; rfl) | (apply px_guard_ndec; rfl; rfl; rfl; all_goals (intro hc; try (first | contradiction))) | (apply px_box; rfl; rfl; rfl; rfl; intro bk))
    refine qbody_ret1 (v := .bool _) rfl rfl ⟨ret_false rfl fun h => hg h.1, fun _ h => h.below⟩
  obtain ⟨n, hn, hrl, hn1, hn7⟩ := isG_size hg
  by_cases htl : to.length = rows.length
  case neg =>
    repeat' (first | apply pwp_seq | apply pwp_region | (apply px_run; (first | (apply opv_move; first | exact hid_bool rfl) | (apply opv_assign; first | exact hid_bool rfl) | (apply opv_neq <;> rfl) | (apply opv_pick_f <;> rfl) | (apply opv_not_dec <;> rfl) | (apply opv_field fld_G0; rfl) | (apply opv_field fld_O0; rfl) | (apply opv_load_blk 0; (first | with_reducible exact sc_int | with_reducible exact sc_ints); rfl; rfl; rfl) | (apply opv_load_blk 1; (first | with_reducible exact sc_int); rfl; rfl; rfl) | (apply opv_len_ints el_int; rfl; (first | exact rd_old (by assumption))) | (apply opv_load_str 1 st_G; rfl; rfl; rfl) | (apply opv_call; rfl; rfl; exact Cl.stable _ _ _; exact fun w hw => i_IsGraph_c _ _ rows _ (by first | exact hw.arr (by assumption)))); rfl; rfl) | apply px_nil | apply qseq_normal | apply qseq_ret | apply pwp_ret | (apply px_guard_ndec; rfl; rfl; rfl; all_goals (intro hc; try (first | contradiction))) | (apply pwp_cond_ndec; rfl; all_goals (intro hc; try (first | (exfalso; omega)))) | (apply px_box; rfl; rfl; rfl; rfl; intro bk))
    refine qbody_ret1 (v := .bool _) rfl rfl ⟨ret_false rfl fun h => htl h.2.1, fun _ h => h.below⟩
  repeat' (first | apply pwp_seq | apply pwp_region | (apply px_run; (first | (apply opv_move; first | exact hid_int rfl | exact hid_bool rfl) | (apply opv_assign; first | exact hid_bool rfl) | (apply opv_neq <;> rfl) | (apply opv_pick_f <;> rfl) | (apply opv_not_dec <;> rfl) | (apply opv_field fld_G0; rfl) | (apply opv_field fld_O0; rfl) | (apply opv_load_blk 0; (first | with_reducible exact sc_int | with_reducible exact sc_ints); rfl; rfl; rfl) | (apply opv_load_blk 1; (first | with_reducible exact sc_int); rfl; rfl; rfl) | (apply opv_len_ints el_int; rfl; (first | exact rd_old (by assumption))) | (apply opv_load_str 1 st_G; rfl; rfl; rfl) | (apply opv_call; rfl; rfl; exact Cl.stable _ _ _; exact fun w hw => i_IsGraph_c _ _ rows _ (by first | exact hw.arr (by assumption)))); rfl; rfl) | apply px_nil | apply qseq_normal | apply pwp_block | apply pwp_skip | (apply px_guard_ndec; rfl; rfl; rfl; all_goals (intro hc; try (first | contradiction))) | (apply pwp_cond_ndec; rfl; all_goals (intro hc; try (first | (exfalso; omega)))) | (apply px_box; rfl; rfl; rfl; rfl; intro bk))
  rename_i b0 _
  refine pwp_loop (τ := Nat) [(4,6), (8,8), (23,59)] (fun k => [(23, .int .i64 (k : Int))]) (fun _ => Cl [] w [.blk bk [tv], .blk b0 [.int .i64 size, gv]]) (fun k => k ≤ rows.length ∧ ∀ v, v < k → iandnot (to.getD v 0) (rows.getD v 0) = 0 ∧ ∀ x ∈ listS (rows.getD v 0), hasB (to.getD v 0) x ≠ hasB (to.getD x.toNat 0) (v : Nat)) (fun k => rows.length - k) 0
    ⟨rfl, trivial⟩ ⟨Nat.zero_le _, fun i hi => by omega⟩ (fun _ h => h) (fun J k hk => ?_)
  obtain ⟨hk, he⟩ := hk
  by_cases hlt : k < rows.length
  · have hin := listS_lt hg (s := rows.getD k 0) (by have := hg.2.2.1 k hlt; unfold okRow at this; omega)
    have hl7 := listS_length (rows.getD k 0)
    repeat' (first | apply pwp_seq | apply pwp_region | (apply px_run; (first | (apply opv_move; first | exact hid_int rfl) | (apply opv_assign; first | exact hid_int rfl | exact hid_bool rfl) | (apply opv_lss <;> rfl) | (apply opv_neq <;> rfl) | (apply opv_andNot <;> rfl) | (apply opv_field fld_G1; rfl) | (apply opv_load_blk 1; (first | with_reducible exact sc_int | with_reducible exact sc_ints); rfl; rfl; rfl) | (apply opv_load_ints sc_int; rfl; (first | exact rd_old (by assumption)); (first | omega)) | (apply opv_index_nat (vs := ints _) el_int; rfl; rfl; (first | exact rd_old (by assumption)); (first | (simp only [ints_length]; omega))) | (apply opv_len_ints el_int; rfl; (first | exact rd_row 0 rfl))); rfl; rfl) | apply px_nil | apply qseq_normal | apply qseq_ret | apply pwp_block | apply qblock_ret | apply pwp_skip | apply pwp_ret | apply qround_ret | (apply pwp_cond_ndec; rfl; all_goals (intro hc; try (first | fail))) | (apply pwp_cond_dec; rfl; all_goals (intro hc; try (first | (exfalso; omega)))) | (apply px_gives; rfl; rfl; rfl; rfl; rfl; exact fun w hw => i_ListOf_c _ _; rintro sl _ rfl))
    · refine qbody_ret1 (v := .bool _) rfl rfl ⟨ret_false rfl fun h => hc (h.2.2 k hlt).1, fun _ h => h.below⟩
    refine pwp_loop (τ := Nat) [(4,4), (8,8), (43,58)] (fun j => [(43, .int .i64 (j : Int))]) (fun _ => Cl [] w [.row 3 sl (ints (listS (rows.getD k 0))), .blk bk [tv], .blk b0 [.int .i64 size, gv]])
      (fun j => j ≤ (listS (rows.getD k 0)).length ∧ ∀ i, i < j → hasB (to.getD k 0) ((listS (rows.getD k 0)).getD i 0) ≠ hasB (to.getD ((listS (rows.getD k 0)).getD i 0).toNat 0) (k : Nat)) (fun j => (listS (rows.getD k 0)).length - j) 0
      ⟨rfl, trivial⟩ ⟨Nat.zero_le _, fun i hi => by omega⟩ (fun _ h => h) (fun J2 j hj => ?_)
    obtain ⟨hj, he2⟩ := hj
    by_cases hlj : j < (listS (rows.getD k 0)).length
    · have hmem : (listS (rows.getD k 0)).getD j 0 ∈ listS (rows.getD k 0) := getD_mem hlj
      obtain ⟨hx1, hx2⟩ := hin _ hmem
      repeat' (first | apply pwp_seq | apply pwp_region | (apply px_run; (first | (apply opv_move; first | exact hid_int rfl) | (apply opv_assign; first | exact hid_int rfl | exact hid_bool rfl) | (apply opv_lss <;> rfl) | (apply opv_add_in; rfl; rfl; omega) | (apply opv_field fld_O0; rfl) | (apply opv_load_blk 1; (first | with_reducible exact sc_int | with_reducible exact sc_ints); rfl; rfl; rfl) | (apply opv_load_ints sc_int; rfl; (first | exact rd_old (by assumption) | exact rd_row 0 rfl); (first | omega)) | (apply opv_index_nat (vs := ints _) el_int; rfl; rfl; (first | exact rd_row 0 rfl); (first | (simp only [ints_length]; omega))) | (apply opv_index (vs := ints _) el_int; rfl; rfl; (first | exact rd_old (by assumption)); omega; (first | (simp only [ints_length]; omega))) | (apply opv_call; rfl; rfl; exact Cl.stable _ _ _; exact fun w hw => i_has_c _ _ _ (by omega)) | (apply opv_eql_bool ty_bool <;> rfl)); rfl; rfl) | apply px_nil | apply qseq_normal | apply qseq_ret | apply pwp_block | apply qblock_normal | apply qblock_ret | apply pwp_skip | apply pwp_ret | apply qround_ret | (apply pwp_region_draw; kernel_rfl; kernel_rfl; exact Cl.stable _ _ _) | (apply pwp_cond_dec; rfl; all_goals (intro hc; try (first | (exfalso; omega)))))
      · refine qbody_ret1 (v := .bool _) rfl rfl ⟨ret_false rfl fun h => (h.2.2 k hlt).2 _ hmem hc, fun _ h => h.below⟩
      · refine qround_normal ?_ ⟨j + 1, ⟨rfl, trivial⟩, ⟨by omega, fun i hi => ?_⟩, by omega, fun _ h => h⟩
        · repeat (first | exact same_refl | refine same_upd rfl ?_ | refine same_junk rfl ?_)
        · by_cases hij : i < j
          · exact he2 i hij
          · obtain rfl : i = j := by omega
            exact hc
    · repeat' (first | apply pwp_seq | apply pwp_region | (apply px_run; (first | (apply opv_move; first | exact hid_int rfl) | (apply opv_lss <;> rfl) | (apply opv_add_in; rfl; rfl; omega)); rfl; rfl) | apply px_nil | apply qseq_normal | apply qseq_exit | apply qblock_normal | (apply qblock_exit_same; rfl) | apply pwp_exit | apply qround_exit | (apply pwp_cond_dec; rfl; all_goals (intro hc; try (first | (exfalso; omega)))))
      refine qround_normal ?_ ⟨k + 1, ⟨rfl, trivial⟩, ⟨by omega, fun v hv => ?_⟩, by omega, fun w' h => ?_⟩
      · repeat (first | exact same_refl | refine same_upd rfl ?_ | refine same_junk rfl ?_)
      · by_cases hvk : v < k
        · exact he v hvk
        · obtain rfl : v = k := by omega
          refine ⟨by assumption, fun x hx => ?_⟩
          obtain ⟨i, hi, rfl⟩ := mem_getD hx
          exact he2 i (by omega)
      · exact Cl.sub (by assumption) (by repeat (first | exact List.Sublist.slnil | exact List.Sublist.refl _ | apply List.Sublist.cons_cons | exact List.sublist_append_left _ _ | exact List.sublist_append_right _ _ | apply List.Sublist.cons))
  · repeat' (first | apply pwp_seq | apply pwp_region | (apply px_run; (first | (apply opv_assign; first | exact hid_bool rfl) | (apply opv_lss <;> rfl)); rfl; rfl) | apply px_nil | apply qseq_normal | apply qseq_exit | (apply qblock_exit_same; rfl) | apply pwp_exit | apply pwp_ret | apply qround_exit | (apply pwp_cond_dec; rfl; all_goals (intro hc; try (first | (exfalso; omega)))))
    refine qbody_ret1 (v := .bool _) rfl rfl ⟨ret_true rfl ⟨hg, htl, fun v hv => he v (by omega)⟩, fun _ h => h.below⟩
theorem en_i_IsTransitive : Entry Try.prog 14 := ⟨_, Try.func14, by kernel_rfl, rfl⟩
set_option maxRecDepth 100000 in
set_option maxHeartbeats 3200000 in
theorem i_IsTransitive_c (size : Int) (gv tv : Value) (rows to : List Int) (w : World) (hr : Arr w gv (ints rows)) (ht : Arr w tv (ints to)) (hb : ∀ v, -1 ≤ to.getD v 0 ∧ to.getD v 0 ≤ 128) :
    Pure Try.prog 14 #[.agg #[.int .i64 size, gv], .agg #[tv]] w (.bool (decide (trnP size rows to))) := by
  refine pure_enter (args := [_, _]) en_i_IsTransitive Try.func14 rfl Try.ntmps14 rfl ?_
  by_cases hg : arrP size rows to
  case neg =>
    repeat' (first | apply pwp_seq | apply pwp_region | (apply px_run; (first | (apply opv_assign; first | exact hid_bool rfl) | (apply opv_not_dec <;> rfl) | (apply opv_load_str 1 st_G; rfl; rfl; rfl) | (apply opv_load_str 0 st_O; rfl; rfl; rfl) | (apply opv_call; rfl; rfl; exact Cl.stable _ _ _; exact fun w hw => i_IsOrientation_c _ _ _ rows to _ (by first | exact hw.arr (by assumption)) (by first | exact hw.arr (by assumption)))); rfl; rfl) | apply px_nil | apply qseq_normal | apply qseq_ret | apply pwp_ret | (apply pwp_cond_ndec; rfl; all_goals (intro hc; try (first | contradiction))) | (apply px_box; rfl; rfl; rfl; rfl; intro bk))
    refine qbody_ret1 (v := .bool _) rfl rfl ⟨ret_false rfl fun h => hg h.1, fun _ h => h.below⟩
  obtain ⟨n, hn, hrl, hn1, hn7⟩ := isG_size hg.1
  have htl := hg.2.1
  have hlt7 := hg.lt hb
  repeat' (first | apply pwp_seq | apply pwp_region | (apply px_run; (first | (apply opv_move; first | exact hid_int rfl) | (apply opv_assign; first | exact hid_bool rfl) | (apply opv_not_dec <;> rfl) | (apply opv_field fld_O0; rfl) | (apply opv_load_blk 0; (first | with_reducible exact sc_ints); rfl; rfl; rfl) | (apply opv_len_ints el_int; rfl; (first | exact rd_old (by assumption))) | (apply opv_load_str 1 st_G; rfl; rfl; rfl) | (apply opv_load_str 0 st_O; rfl; rfl; rfl) | (apply opv_call; rfl; rfl; exact Cl.stable _ _ _; exact fun w hw => i_IsOrientation_c _ _ _ rows to _ (by first | exact hw.arr (by assumption)) (by first | exact hw.arr (by assumption)))); rfl; rfl) | apply px_nil | apply qseq_normal | apply pwp_block | apply pwp_skip | (apply pwp_cond_ndec; rfl; all_goals (intro hc; try (first | contradiction))) | (apply px_box; rfl; rfl; rfl; rfl; intro bk))
  rename_i b0
  refine pwp_loop (τ := Nat) [(4,4), (6,6), (8,8), (16,36)] (fun k => [(16, .int .i64 (k : Int))]) (fun _ => Cl [] w [.blk bk [tv], .blk b0 [.int .i64 size, gv]]) (fun k => k ≤ rows.length ∧ ∀ v, v < k → ∀ x ∈ listS (to.getD v 0), iandnot (to.getD x.toNat 0) (to.getD v 0) = 0) (fun k => rows.length - k) 0
    ⟨rfl, trivial⟩ ⟨Nat.zero_le _, fun i hi => by omega⟩ (fun _ h => h) (fun J k hk => ?_)
  obtain ⟨hk, he⟩ := hk
  by_cases hlt : k < rows.length
  · have hin := listS_lt hg.1 (hlt7 k hlt)
    have hl7 := listS_length (to.getD k 0)
    repeat' (first | apply pwp_seq | apply pwp_region | (apply px_run; (first | (apply opv_move; first | exact hid_int rfl) | (apply opv_assign; first | exact hid_int rfl) | (apply opv_lss <;> rfl) | (apply opv_load_ints sc_int; rfl; (first | exact rd_old (by assumption)); (first | omega)) | (apply opv_index_nat (vs := ints _) el_int; rfl; rfl; (first | exact rd_old (by assumption)); (first | (simp only [ints_length]; omega))) | (apply opv_len_ints el_int; rfl; (first | exact rd_row 0 rfl))); rfl; rfl) | apply px_nil | apply qseq_normal | apply pwp_block | apply pwp_skip | (apply pwp_cond_dec; rfl; all_goals (intro hc; try (first | (exfalso; omega)))) | (apply px_gives; rfl; rfl; rfl; rfl; rfl; exact fun w hw => i_ListOf_c _ _; rintro sl _ rfl))
    refine pwp_loop (τ := Nat) [(4,4), (8,8), (23,35)] (fun j => [(23, .int .i64 (j : Int))]) (fun _ => Cl [] w [.row 3 sl (ints (listS (to.getD k 0))), .blk bk [tv], .blk b0 [.int .i64 size, gv]])
      (fun j => j ≤ (listS (to.getD k 0)).length ∧ ∀ i, i < j → iandnot (to.getD ((listS (to.getD k 0)).getD i 0).toNat 0) (to.getD k 0) = 0) (fun j => (listS (to.getD k 0)).length - j) 0
      ⟨rfl, trivial⟩ ⟨Nat.zero_le _, fun i hi => by omega⟩ (fun _ h => h) (fun J2 j hj => ?_)
    obtain ⟨hj, he2⟩ := hj
    by_cases hlj : j < (listS (to.getD k 0)).length
    · have hmem : (listS (to.getD k 0)).getD j 0 ∈ listS (to.getD k 0) := getD_mem hlj
      obtain ⟨hx1, hx2⟩ := hin _ hmem
      repeat' (first | apply pwp_seq | apply pwp_region | (apply px_run; (first | (apply opv_move; first | exact hid_int rfl) | (apply opv_assign; first | exact hid_int rfl | exact hid_bool rfl) | (apply opv_lss <;> rfl) | (apply opv_neq <;> rfl) | (apply opv_andNot <;> rfl) | (apply opv_add_in; rfl; rfl; omega) | (apply opv_field fld_O0; rfl) | (apply opv_load_blk 1; (first | with_reducible exact sc_int | with_reducible exact sc_ints); rfl; rfl; rfl) | (apply opv_load_ints sc_int; rfl; (first | exact rd_old (by assumption) | exact rd_row 0 rfl); (first | omega)) | (apply opv_index_nat (vs := ints _) el_int; rfl; rfl; (first | exact rd_row 0 rfl); (first | (simp only [ints_length]; omega))) | (apply opv_index (vs := ints _) el_int; rfl; rfl; (first | exact rd_old (by assumption)); omega; (first | (simp only [ints_length]; omega)))); rfl; rfl) | apply px_nil | apply qseq_normal | apply qseq_ret | apply pwp_block | apply qblock_normal | apply qblock_ret | apply pwp_skip | apply pwp_ret | apply qround_ret | (apply pwp_cond_ndec; rfl; all_goals (intro hc; try (first | fail))) | (apply pwp_cond_dec; rfl; all_goals (intro hc; try (first | (exfalso; omega)))))
      · refine qbody_ret1 (v := .bool _) rfl rfl ⟨ret_false rfl fun h => hc (h.2 k hlt _ hmem), fun _ h => h.below⟩
      · refine qround_normal ?_ ⟨j + 1, ⟨rfl, trivial⟩, ⟨by omega, fun i hi => ?_⟩, by omega, fun _ h => h⟩
        · repeat (first | exact same_refl | refine same_upd rfl ?_ | refine same_junk rfl ?_)
        · by_cases hij : i < j
          · exact he2 i hij
          · obtain rfl : i = j := by omega
            exact hc
    · repeat' (first | apply pwp_seq | apply pwp_region | (apply px_run; (first | (apply opv_move; first | exact hid_int rfl) | (apply opv_lss <;> rfl) | (apply opv_add_in; rfl; rfl; omega)); rfl; rfl) | apply px_nil | apply qseq_normal | apply qseq_exit | apply qblock_normal | (apply qblock_exit_same; rfl) | apply pwp_exit | apply qround_exit | (apply pwp_cond_dec; rfl; all_goals (intro hc; try (first | (exfalso; omega)))))
      refine qround_normal ?_ ⟨k + 1, ⟨rfl, trivial⟩, ⟨by omega, fun v hv => ?_⟩, by omega, fun w' h => ?_⟩
      · repeat (first | exact same_refl | refine same_upd rfl ?_ | refine same_junk rfl ?_)
      · by_cases hvk : v < k
        · exact he v hvk
        · obtain rfl : v = k := by omega
          intro x hx
          obtain ⟨i, hi, rfl⟩ := mem_getD hx
          exact he2 i (by omega)
      · exact Cl.sub (by assumption) (by repeat (first | exact List.Sublist.slnil | exact List.Sublist.refl _ | apply List.Sublist.cons_cons | exact List.sublist_append_left _ _ | exact List.sublist_append_right _ _ | apply List.Sublist.cons))
  · repeat' (first | apply pwp_seq | apply pwp_region | (apply px_run; (first | (apply opv_assign; first | exact hid_bool rfl) | (apply opv_lss <;> rfl)); rfl; rfl) | apply px_nil | apply qseq_normal | apply qseq_exit | (apply qblock_exit_same; rfl) | apply pwp_exit | apply pwp_ret | apply qround_exit | (apply pwp_cond_dec; rfl; all_goals (intro hc; try (first | (exfalso; omega)))))
    refine qbody_ret1 (v := .bool _) rfl rfl ⟨ret_true rfl ⟨hg, fun v hv => he v (by omega)⟩, fun _ h => h.below⟩
theorem en_i_HeightsOf : Entry Try.prog 16 := ⟨_, Try.func16, by kernel_rfl, rfl⟩
set_option maxRecDepth 100000 in
set_option maxHeartbeats 6400000 in
theorem i_HeightsOf_c (size : Int) (gv tv : Value) (rows to : List Int) (w : World) (hr : Arr w gv (ints rows)) (ht : Arr w tv (ints to)) (hb : ∀ v, -1 ≤ to.getD v 0 ∧ to.getD v 0 ≤ 128) :
    Gives Try.prog 16 #[.agg #[.int .i64 size, gv], .agg #[tv]] w (fun v objs => objs = [.row 3 v (ints (heightsL size rows to))]) := by
  refine gives_enter (args := [_, _]) en_i_HeightsOf Try.func16 rfl Try.ntmps16 rfl ?_
  by_cases hg : trnP size rows to
  case neg =>
    repeat' (first | apply pwp_seq | apply pwp_region | (apply px_run; (first | (apply opv_assign; first | rfl) | (apply opv_not_dec <;> rfl) | (apply opv_load_str 1 st_G; rfl; rfl; rfl) | (apply opv_load_str 0 st_O; rfl; rfl; rfl) | (apply opv_call; rfl; rfl; exact Cl.stable _ _ _; exact fun w hw => i_IsTransitive_c _ _ _ rows to _ (by first | exact hw.arr (by assumption)) (by first | exact hw.arr (by assumption)) hb)); rfl; rfl) | apply px_nil | apply qseq_normal | apply qseq_ret | apply pwp_ret | (apply pwp_cond_ndec; rfl; all_goals (intro hc; try (first | contradiction))) | (apply px_box; rfl; rfl; rfl; rfl; intro bk))
    refine qbody_ret1 rfl rfl ⟨_, rfl, fun w' h => ?_⟩
    rw [heightsL, if_neg hg]
    exact (h.sub (List.nil_sublist _)).nilRow _
  obtain ⟨n, rfl, hrl, hn1, hn7⟩ := isG_size hg.1.1
  have htl := hg.1.2.1
  have hlt7 := hg.1.lt hb
  have hend : heightsL n rows to = relaxT (bitsP to) rows.length rows.length := by rw [heightsL, if_pos hg]
  have hall := fun v hv h => hU_all hg.1.1 (v := v) hv htl (hlt7 v hv) h
  generalize bitsP to = O at hend hall
  rw [hrl] at hend
  rw [hend]
  repeat' (first | apply pwp_seq | apply pwp_region | (apply px_run; (first | (apply opv_move; first | exact hid_int rfl) | (apply opv_assign; first | rfl) | (apply opv_not_dec <;> rfl) | (apply opv_field fld_G0; rfl) | (apply opv_load_blk 1; (first | with_reducible exact sc_int); rfl; rfl; rfl) | (apply opv_load_blk 2; (first | with_reducible exact sc_int); rfl; rfl; rfl) | (apply opv_load_str 1 st_G; rfl; rfl; rfl) | (apply opv_load_str 0 st_O; rfl; rfl; rfl) | (apply opv_call; rfl; rfl; exact Cl.stable _ _ _; exact fun w hw => i_IsTransitive_c _ _ _ rows to _ (by first | exact hw.arr (by assumption)) (by first | exact hw.arr (by assumption)) hb)); rfl; rfl) | apply px_nil | apply qseq_normal | apply pwp_block | apply pwp_skip | (apply pwp_cond_ndec; rfl; all_goals (intro hc; try (first | contradiction))) | (apply px_box; rfl; rfl; rfl; rfl; intro bk) | (apply px_make ez_int; rfl; rfl; rfl; rfl; rfl; omega; (simp only [maxLen]; omega); intro sv))
  rename_i b0
  have hz : List.replicate n (Value.int .i64 0) = ints (relaxT O n 0) := by simp [relaxT, ints]
  rw [hz]
  refine pwp_loop (τ := Nat) [(6,7), (9,9), (19,51)] (fun t => [(19, .int .i64 (t : Int))]) (fun t => Cl [] w [.row 3 sv (ints (relaxT O n t)), .blk bk [tv], .blk b0 [.int .i64 (n : Int), gv]]) (fun t => t ≤ n) (fun t => n - t) 0
    ⟨rfl, trivial⟩ (Nat.zero_le _) (fun _ h => h) (fun J t htn => ?_)
  have hBT := HB.relaxT O hn7 t
  have hTl := relaxT_len O n t
  by_cases hlt : t < n
  · repeat' (first | apply pwp_seq | apply pwp_region | (apply px_run; (first | (apply opv_move; first | exact hid_int rfl) | (apply opv_lss <;> rfl) | (apply opv_field fld_O0; rfl) | (apply opv_load_blk 1; (first | with_reducible exact sc_ints); rfl; rfl; rfl) | (apply opv_len_ints el_int; rfl; (first | exact rd_old (by assumption)))); rfl; rfl) | apply px_nil | apply qseq_normal | apply pwp_block | apply pwp_skip | (apply pwp_cond_dec; rfl; all_goals (intro hc; try (first | (exfalso; omega)))))
    refine pwp_loop (τ := Nat) [(6,7), (9,9), (24,50)] (fun v => [(24, .int .i64 (v : Int))]) (fun v => Cl [] w [.row 3 sv (ints (relaxV O n v (relaxT O n t))), .blk bk [tv], .blk b0 [.int .i64 (n : Int), gv]]) (fun v => v ≤ n) (fun v => n - v) 0
      ⟨rfl, trivial⟩ (Nat.zero_le _) (fun _ h => h) (fun J2 v hvn => ?_)
    have hBV := hBT.relaxV O hn7 v
    have hVl := relaxV_len O n v (relaxT O n t)
    by_cases hlv : v < n
    · have hin := listS_lt hg.1.1 (hlt7 v (by omega))
      have hl7 := listS_length (to.getD v 0)
      have hal := hall v (by omega) (relaxV O n v (relaxT O n t))
      rw [hrl] at hal
      generalize hH : relaxV O n v (relaxT O n t) = H at hBV hVl hal
      repeat' (first | apply pwp_seq | apply pwp_region | (apply px_run; (first | (apply opv_move; first | exact hid_int rfl) | (apply opv_assign; first | exact hid_int rfl) | (apply opv_lss <;> rfl) | (apply opv_load_ints sc_int; rfl; (first | exact rd_old (by assumption)); (first | omega)) | (apply opv_index_nat (vs := ints _) el_int; rfl; rfl; (first | exact rd_old (by assumption)); (first | (simp only [ints_length]; omega))) | (apply opv_len_ints el_int; rfl; (first | exact rd_row 0 rfl))); rfl; rfl) | apply px_nil | apply qseq_normal | apply pwp_block | apply pwp_skip | (apply pwp_cond_dec; rfl; all_goals (intro hc; try (first | (exfalso; omega)))) | (apply px_gives; rfl; rfl; rfl; rfl; rfl; exact fun w hw => i_ListOf_c _ _; rintro sl _ rfl))
      refine pwp_loop (τ := Nat) [(9,9), (32,49)] (fun j => [(32, .int .i64 (j : Int))]) (fun j => Cl [] w [.row 3 sl (ints (listS (to.getD v 0))), .row 3 sv (ints (hU v H (listS (to.getD v 0)) j)), .blk bk [tv], .blk b0 [.int .i64 (n : Int), gv]])
        (fun j => j ≤ (listS (to.getD v 0)).length) (fun j => (listS (to.getD v 0)).length - j) 0
        ⟨rfl, trivial⟩ (Nat.zero_le _) (fun w' h => h) (fun J3 j hj => ?_)
      by_cases hlj : j < (listS (to.getD v 0)).length
      · have hmem : (listS (to.getD v 0)).getD j 0 ∈ listS (to.getD v 0) := getD_mem hlj
        obtain ⟨hx1, hx2⟩ := hin _ hmem
        have hBU := hBV.hU v (listS (to.getD v 0)) j (by omega)
        have hUl := hU_len v H (listS (to.getD v 0)) j
        have hsu := hU_succ (v := v) (h := H) hlj
        have hv1 := hBU v
        repeat' (first | apply pwp_seq | apply pwp_region | (apply px_run; (first | (apply opv_move; first | exact hid_int rfl | rfl) | (apply opv_assign; first | exact hid_int rfl) | (apply opv_lss <;> rfl) | (apply opv_add_in; rfl; rfl; omega) | (apply opv_load_ints sc_int; rfl; (first | exact rd_row 0 rfl | exact rd_row 1 rfl); (first | omega)) | (apply opv_index_nat (vs := ints _) el_int; rfl; rfl; (first | exact rd_row 0 rfl | exact rd_row 1 rfl); (first | (simp only [ints_length]; omega))) | (apply opv_index (vs := ints _) el_int; rfl; rfl; (first | exact rd_row 1 rfl); omega; (first | (simp only [ints_length]; omega)))); rfl; rfl) | apply px_nil | apply qseq_normal | apply pwp_block | apply qblock_normal | apply pwp_skip | (apply pwp_region_any [0, 1, 2, 3, 4, 5, 6, 7, 8, 9, 10] [13] 3 (Cl [] w [.row 3 sl (ints (listS (to.getD v 0))), .row 3 sv _, .blk bk [tv], .blk b0 [.int .i64 (n : Int), gv]]); kernel_rfl; decide +kernel; exact Cl.stable _ _ _; exact fun w h => h.sub (by repeat (first | exact List.Sublist.refl _))) | apply qlooks_normal | (apply qstep_out; decide +kernel) | (apply qstep_in; exact fun w h => h.sub (by repeat (first | exact List.Sublist.refl _))) | (apply pxa_nil; decide +kernel) | (apply pxa_one 11; decide +kernel; rfl) | (apply pxa_one 12; decide +kernel; rfl) | (apply pxa_one 13; decide +kernel; rfl) | (apply pwp_cond_dec; rfl; all_goals (intro hc; try (first | (exfalso; omega)))) | (apply px_run; (apply opv_max <;> rfl); rfl; rfl) | (apply px_store_int 1 co_int; rfl; rfl; rfl; (first | omega); rfl))
        refine qround_normal ?_ ⟨j + 1, ⟨rfl, trivial⟩, by omega, by omega, fun w' h => ?_⟩
        · repeat (first | exact same_refl | refine same_upd rfl ?_ | refine same_junk rfl ?_)
        · rw [hsu]
          exact Cl.sub (by assumption) (by repeat (first | exact List.Sublist.slnil | exact List.Sublist.refl _ | apply List.Sublist.cons_cons | exact List.sublist_append_left _ _ | exact List.sublist_append_right _ _ | apply List.Sublist.cons))
      · obtain rfl : j = (listS (to.getD v 0)).length := by omega
        repeat' (first | apply pwp_seq | apply pwp_region | (apply px_run; (first | (apply opv_move; first | exact hid_int rfl) | (apply opv_lss <;> rfl) | (apply opv_add_in; rfl; rfl; omega)); rfl; rfl) | apply px_nil | apply qseq_normal | apply qseq_exit | apply qblock_normal | (apply qblock_exit_same; rfl) | apply pwp_exit | apply qround_exit | (apply pwp_cond_dec; rfl; all_goals (intro hc; try (first | (exfalso; omega)))))
        refine qround_normal ?_ ⟨v + 1, ⟨rfl, trivial⟩, by omega, by omega, fun w' h => ?_⟩
        · repeat (first | exact same_refl | refine same_upd rfl ?_ | refine same_junk rfl ?_)
        · rw [show relaxV O n (v + 1) (relaxT O n t) = relaxW O v n H by rw [relaxV, hH], ← hal]
          exact Cl.sub (by assumption) (by repeat (first | exact List.Sublist.slnil | exact List.Sublist.refl _ | apply List.Sublist.cons_cons | exact List.sublist_append_left _ _ | exact List.sublist_append_right _ _ | apply List.Sublist.cons))
    · obtain rfl : v = n := by omega
      repeat' (first | apply pwp_seq | apply pwp_region | (apply px_run; (first | (apply opv_move; first | exact hid_int rfl) | (apply opv_lss <;> rfl) | (apply opv_add_in; rfl; rfl; omega)); rfl; rfl) | apply px_nil | apply qseq_normal | apply qseq_exit | apply qblock_normal | (apply qblock_exit_same; rfl) | apply pwp_exit | apply qround_exit | (apply pwp_cond_dec; rfl; all_goals (intro hc; try (first | (exfalso; omega)))))
      refine qround_normal ?_ ⟨t + 1, ⟨rfl, trivial⟩, by omega, by omega, fun w' h => ?_⟩
      · repeat (first | exact same_refl | refine same_upd rfl ?_ | refine same_junk rfl ?_)
      · exact h
  · obtain rfl : t = n := by omega
    repeat' (first | apply pwp_seq | apply pwp_region | (apply px_run; (first | (apply opv_move; first | rfl) | (apply opv_assign; first | rfl) | (apply opv_lss <;> rfl)); rfl; rfl) | apply px_nil | apply qseq_normal | apply qseq_exit | (apply qblock_exit_same; rfl) | apply pwp_exit | apply pwp_ret | apply qround_exit | (apply pwp_cond_dec; rfl; all_goals (intro hc; try (first | (exfalso; omega)))))
    refine qbody_ret1 (v := sv) rfl rfl ⟨_, rfl, fun w' h => ?_⟩
    exact Cl.sub (by assumption) (by repeat (first | exact List.Sublist.slnil | exact List.Sublist.refl _ | apply List.Sublist.cons_cons | exact List.sublist_append_left _ _ | exact List.sublist_append_right _ _ | apply List.Sublist.cons))
theorem en_s_IsOrientation : Entry Try.prog 27 := ⟨_, Try.func27, by kernel_rfl, rfl⟩
set_option maxRecDepth 100000 in
set_option maxHeartbeats 6400000 in
theorem s_IsOrientation_c (size : Int) (gv tv : Value) (rows to : List Int) (w : World) (hr : Arr w gv (ints rows)) (ht : Arr w tv (ints to)) (hb : ∀ v, -1 ≤ to.getD v 0 ∧ to.getD v 0 ≤ 128) :
    Pure Try.prog 27 #[.agg #[.int .i64 size, gv], .agg #[tv]] w (.bool (decide (arrP size rows to))) := by
  refine pure_enter (args := [_, _]) en_s_IsOrientation Try.func27 rfl Try.ntmps27 rfl ?_
  by_cases hg : IsG size rows
  case neg =>
    repeat' (first | apply pwp_seq | apply pwp_region | (apply px_run; (first | (apply opv_move; first | exact hid_bool rfl) | (apply opv_assign; first | exact hid_bool rfl) | (apply opv_pick_t <;> rfl) | (apply opv_not_dec <;> rfl) | (apply opv_field fld_G0; rfl) | (apply opv_field fld_O0; rfl) | (apply opv_load_str 1 st_G; rfl; rfl; rfl) | (apply opv_call; rfl; rfl; exact Cl.stable _ _ _; exact fun w hw => s_IsGraph_c _ _ rows _ (by first | exact hw.arr (by assumption)))); rfl; rfl) | apply px_nil | (apply px_skip; rfl; rfl) | apply qseq_normal | apply qseq_ret | apply pwp_ret | (apply pwp_cond_t; rfl) | (apply px_guard_ndec; rfl; rfl; rfl; all_goals (intro hc; try (first | contradiction))) | (apply px_box; rfl; rfl; rfl; rfl; intro bk))
    refine qbody_ret1 (v := .bool _) rfl rfl ⟨ret_false rfl fun h => hg h.1, fun _ h => h.below⟩
  obtain ⟨n, hn, hrl, hn1, hn7⟩ := isG_size hg
  have hai := arr_iff (to := to) hg hb
  by_cases htl : to.length = rows.length
  case neg =>
    repeat' (first | apply pwp_seq | apply pwp_region | (apply px_run; (first | (apply opv_move; first | exact hid_bool rfl) | (apply opv_assign; first | exact hid_bool rfl) | (apply opv_neq <;> rfl) | (apply opv_pick_f <;> rfl) | (apply opv_not_dec <;> rfl) | (apply opv_field fld_G0; rfl) | (apply opv_field fld_O0; rfl) | (apply opv_load_blk 0; (first | with_reducible exact sc_int | with_reducible exact sc_ints); rfl; rfl; rfl) | (apply opv_load_blk 1; (first | with_reducible exact sc_int); rfl; rfl; rfl) | (apply opv_len_ints el_int; rfl; (first | exact rd_old (by assumption))) | (apply opv_load_str 1 st_G; rfl; rfl; rfl) | (apply opv_call; rfl; rfl; exact Cl.stable _ _ _; exact fun w hw => s_IsGraph_c _ _ rows _ (by first | exact hw.arr (by assumption)))); rfl; rfl) | apply px_nil | apply qseq_normal | apply qseq_ret | apply pwp_ret | (apply px_guard_ndec; rfl; rfl; rfl; all_goals (intro hc; try (first | contradiction))) | (apply pwp_cond_ndec; rfl; all_goals (intro hc; try (first | (exfalso; omega)))) | (apply px_box; rfl; rfl; rfl; rfl; intro bk))
    refine qbody_ret1 (v := .bool _) rfl rfl ⟨ret_false rfl fun h => htl h.2.1, fun _ h => h.below⟩
  repeat' (first | apply pwp_seq | apply pwp_region | (apply px_run; (first | (apply opv_move; first | exact hid_bool rfl) | (apply opv_assign; first | exact hid_int rfl | exact hid_bool rfl) | (apply opv_neq <;> rfl) | (apply opv_pick_f <;> rfl) | (apply opv_not_dec <;> rfl) | (apply opv_field fld_G0; rfl) | (apply opv_field fld_O0; rfl) | (apply opv_load_blk 0; (first | with_reducible exact sc_int | with_reducible exact sc_ints); rfl; rfl; rfl) | (apply opv_load_blk 1; (first | with_reducible exact sc_int); rfl; rfl; rfl) | (apply opv_len_ints el_int; rfl; (first | exact rd_old (by assumption))) | (apply opv_load_str 1 st_G; rfl; rfl; rfl) | (apply opv_call; rfl; rfl; exact Cl.stable _ _ _; exact fun w hw => s_IsGraph_c _ _ rows _ (by first | exact hw.arr (by assumption)))); rfl; rfl) | apply px_nil | apply qseq_normal | apply pwp_block | apply pwp_skip | (apply px_guard_ndec; rfl; rfl; rfl; all_goals (intro hc; try (first | contradiction))) | (apply pwp_cond_ndec; rfl; all_goals (intro hc; try (first | (exfalso; omega)))) | (apply px_box; rfl; rfl; rfl; rfl; intro bk))
  rename_i b0 _
  refine pwp_loop (τ := Nat) [(4,5), (21,43)] (fun k => [(5, .int .i64 (k : Int))]) (fun _ => Cl [] w [.blk bk [tv], .blk b0 [.int .i64 size, gv]]) (fun k => k ≤ rows.length ∧ ∀ v, v < k → 0 ≤ to.getD v 0 ∧ to.getD v 0 < ishl 1 size) (fun k => rows.length - k) 0
    ⟨rfl, trivial⟩ ⟨Nat.zero_le _, fun i hi => by omega⟩ (fun _ h => h) (fun J k hk => ?_)
  obtain ⟨hk, he⟩ := hk
  by_cases hlt : k < rows.length
  · have hz : 0 ≤ size ∧ size ≤ 63 := by omega
    repeat' (first | apply pwp_seq | apply pwp_region | (apply px_run; (first | (apply opv_move; first | exact hid_int rfl | exact hid_bool rfl) | (apply opv_assign; first | exact hid_int rfl | exact hid_bool rfl) | (apply opv_lss <;> rfl) | (apply opv_geq <;> rfl) | (apply opv_pick_t <;> rfl) | (apply opv_pick_f <;> rfl) | (apply opv_add_in; rfl; rfl; omega) | (apply opv_shl; rfl; rfl; omega) | (apply opv_field fld_G0; rfl) | (apply opv_field fld_O0; rfl) | (apply opv_load_blk 0; (first | with_reducible exact sc_int | with_reducible exact sc_ints); rfl; rfl; rfl) | (apply opv_load_blk 1; (first | with_reducible exact sc_int | with_reducible exact sc_ints); rfl; rfl; rfl) | (apply opv_load_ints sc_int; rfl; (first | exact rd_old (by assumption)); (first | omega)) | (apply opv_index_nat (vs := ints _) el_int; rfl; rfl; (first | exact rd_old (by assumption)); (first | (simp only [ints_length]; omega)))); rfl; rfl) | apply px_nil | (apply px_skip; rfl; rfl) | apply qseq_normal | apply qseq_ret | apply pwp_block | apply qblock_normal | apply qblock_ret | apply pwp_skip | apply pwp_ret | apply qround_ret | (apply pwp_cond_t; rfl) | (apply pwp_region_mix; kernel_rfl; decide +kernel; exact Cl.stable _ _ _) | (apply px_guard_dec; rfl; rfl; rfl; all_goals (intro hc; try (first | fail))) | (apply pwp_cond_dec; rfl; all_goals (intro hc; try (first | (exfalso; omega)))))
    all_goals first
      | (refine qround_normal ?_ ⟨k + 1, ⟨rfl, trivial⟩, ⟨by omega, fun v hv => ?_⟩, by omega, fun _ h => h⟩
         · repeat (first | exact same_refl | refine same_upd rfl ?_ | refine same_junk rfl ?_)
         · by_cases hvk : v < k
           · exact he v hvk
           · obtain rfl : v = k := by omega
             omega)
      | (refine qbody_ret1 (v := .bool _) rfl rfl ⟨ret_false rfl fun h => by have := (hai.1 h.2.2).1 k hlt; omega, fun _ h => h.below⟩)
  repeat' (first | apply pwp_seq | apply pwp_region | (apply px_run; (first | (apply opv_move; first | exact hid_int rfl) | (apply opv_assign; first | exact hid_int rfl) | (apply opv_lss <;> rfl) | (apply opv_field fld_G0; rfl) | (apply opv_load_blk 1; (first | with_reducible exact sc_int); rfl; rfl; rfl)); rfl; rfl) | apply px_nil | apply qseq_normal | apply qseq_exit | apply pwp_block | (apply qblock_exit_same; rfl) | apply pwp_exit | apply qround_exit | (apply pwp_cond_dec; rfl; all_goals (intro hc; try (first | (exfalso; omega)))))
  refine pwp_loop (τ := Nat) [(4,4), (6,9), (44,88)] (fun k => [(6, .int .i64 (k : Int))]) (fun _ => Cl [] w [.blk bk [tv], .blk b0 [.int .i64 size, gv]]) (fun k => k ≤ rows.length ∧ ∀ v, v < k → ∀ u, u < rows.length → hasB (rows.getD v 0) (u : Nat) = (hasB (to.getD v 0) (u : Nat) || hasB (to.getD u 0) (v : Nat)) ∧ (hasB (to.getD v 0) (u : Nat) && hasB (to.getD u 0) (v : Nat)) = false) (fun k => rows.length - k) 0
    ⟨rfl, trivial⟩ ⟨Nat.zero_le _, fun i hi => by omega⟩ (fun _ h => h) (fun J2 v hv => ?_)
  obtain ⟨hv, he2⟩ := hv
  by_cases hlv : v < rows.length
  · repeat' (first | apply pwp_seq | apply pwp_region | (apply px_run; (first | (apply opv_move; first | exact hid_int rfl) | (apply opv_assign; first | exact hid_int rfl) | (apply opv_lss <;> rfl) | (apply opv_field fld_G0; rfl) | (apply opv_load_blk 1; (first | with_reducible exact sc_int); rfl; rfl; rfl)); rfl; rfl) | apply px_nil | apply qseq_normal | apply pwp_block | apply pwp_skip | (apply pwp_cond_dec; rfl; all_goals (intro hc; try (first | (exfalso; omega)))))
    refine pwp_loop (τ := Nat) [(4,4), (7,9), (50,88)] (fun k => [(7, .int .i64 (k : Int))]) (fun _ => Cl [] w [.blk bk [tv], .blk b0 [.int .i64 size, gv]]) (fun k => k ≤ rows.length ∧ ∀ u, u < k → hasB (rows.getD v 0) (u : Nat) = (hasB (to.getD v 0) (u : Nat) || hasB (to.getD u 0) (v : Nat)) ∧ (hasB (to.getD v 0) (u : Nat) && hasB (to.getD u 0) (v : Nat)) = false) (fun k => rows.length - k) 0
      ⟨rfl, trivial⟩ ⟨Nat.zero_le _, fun i hi => by omega⟩ (fun _ h => h) (fun J3 u hu => ?_)
    obtain ⟨hu, he3⟩ := hu
    by_cases hlu : u < rows.length
    · have hedge : ∀ w', Arr w' gv (ints rows) → Pure Try.prog 52 #[.agg #[.int .i64 size, gv], .int .i64 (v : Int), .int .i64 (u : Int)] w' (.bool (hasB (rows.getD v 0) (u : Nat))) := fun w' h => by
        have := s_l2Edge_c size gv rows v u w' h (by omega) (by omega)
        rwa [Int.toNat_natCast] at this
      have hbad : ∀ (h : ¬ (hasB (rows.getD v 0) (u : Nat) = (hasB (to.getD v 0) (u : Nat) || hasB (to.getD u 0) (v : Nat)) ∧ (hasB (to.getD v 0) (u : Nat) && hasB (to.getD u 0) (v : Nat)) = false)), ¬ arrP size rows to := fun h h2 => h ((hai.1 h2.2.2).2 v hlv u hlu)
      have d1 := hasB_def (to.getD v 0) (u : Nat)
      have d2 := hasB_def (to.getD u 0) (v : Nat)
      cases hE : hasB (rows.getD v 0) (u : Nat) <;> cases hA : hasB (to.getD v 0) (u : Nat) <;> cases hB : hasB (to.getD u 0) (v : Nat) <;> rw [hE, hA, hB] at hbad <;> rw [hE] at hedge <;> rw [hA] at d1 <;> rw [hB] at d2 <;> symm at d1 d2 <;> simp only [decide_eq_true_eq, decide_eq_false_iff_not] at d1 d2
      all_goals repeat' (first | apply pwp_seq | apply pwp_region | (apply px_run; (first | (apply opv_move; first | exact hid_int rfl | exact hid_bool rfl | rfl) | (apply opv_assign; first | exact hid_int rfl | exact hid_bool rfl) | (apply opv_lss <;> rfl) | (apply opv_eql <;> rfl) | (apply opv_and <;> rfl) | (apply opv_pick_t <;> rfl) | (apply opv_pick_f <;> rfl) | (apply opv_add_in; rfl; rfl; omega) | (apply opv_shr; rfl; rfl; omega) | (apply opv_field fld_G0; rfl) | (apply opv_field fld_O0; rfl) | (apply opv_load_blk 0; (first | with_reducible exact sc_int | with_reducible exact sc_ints); rfl; rfl; rfl) | (apply opv_load_blk 1; (first | with_reducible exact sc_int); rfl; rfl; rfl) | (apply opv_load_ints sc_int; rfl; (first | exact rd_old (by assumption)); (first | omega)) | (apply opv_index_nat (vs := ints _) el_int; rfl; rfl; (first | exact rd_old (by assumption)); (first | (simp only [ints_length]; omega))) | (apply opv_load_str 1 st_G; rfl; rfl; rfl) | (apply opv_call; rfl; rfl; exact Cl.stable _ _ _; exact fun w hw => hedge _ (by first | exact hw.arr (by assumption))) | (apply opv_neq_bool ty_bool <;> rfl)); rfl; rfl) | apply px_nil | (apply px_skip; rfl; rfl) | apply qseq_normal | apply qseq_ret | apply pwp_block | apply qblock_normal | apply qblock_ret | apply pwp_skip | apply pwp_ret | apply qround_ret | (apply pwp_cond_t; rfl) | (apply pwp_cond_f; rfl) | (apply px_guard_dec; rfl; rfl; rfl; all_goals (intro hc; try (first | contradiction))) | (apply px_guard_not; rfl; rfl; rfl; all_goals (intro hc; try (first | fail))) | (apply pwp_cond_dec; rfl; all_goals (intro hc; try (first | contradiction | (exfalso; omega)))))
      all_goals first
        | (refine qbody_ret1 (v := .bool _) rfl rfl ⟨ret_false rfl (hbad (by decide)), fun _ h => h.below⟩; done)
        | (refine qround_normal ?_ ⟨u + 1, ⟨rfl, trivial⟩, ⟨by omega, fun x hx => ?_⟩, by omega, fun _ h => h⟩
           · repeat (first | exact same_refl | refine same_upd rfl ?_ | refine same_junk rfl ?_)
           · by_cases hxu : x < u
             · exact he3 x hxu
             · obtain rfl : x = u := by omega
               rw [hE, hA, hB]; decide)
        | (exfalso; simp_all; done)
    · repeat' (first | apply pwp_seq | apply pwp_region | (apply px_run; (first | (apply opv_move; first | exact hid_int rfl) | (apply opv_assign; first | exact hid_int rfl) | (apply opv_lss <;> rfl) | (apply opv_add_in; rfl; rfl; omega) | (apply opv_field fld_G0; rfl) | (apply opv_load_blk 1; (first | with_reducible exact sc_int); rfl; rfl; rfl)); rfl; rfl) | apply px_nil | apply qseq_normal | apply qseq_exit | apply qblock_normal | (apply qblock_exit_same; rfl) | apply pwp_exit | apply qround_exit | (apply pwp_cond_dec; rfl; all_goals (intro hc; try (first | (exfalso; omega)))))
      refine qround_normal ?_ ⟨v + 1, ⟨rfl, trivial⟩, ⟨by omega, fun x hx => ?_⟩, by omega, fun w' h => ?_⟩
      · repeat (first | exact same_refl | refine same_upd rfl ?_ | refine same_junk rfl ?_)
      · by_cases hxv : x < v
        · exact he2 x hxv
        · obtain rfl : x = v := by omega
          exact fun u hu => he3 u (by omega)
      · exact Cl.sub (by assumption) (by repeat (first | exact List.Sublist.slnil | exact List.Sublist.refl _ | apply List.Sublist.cons_cons | exact List.sublist_append_left _ _ | exact List.sublist_append_right _ _ | apply List.Sublist.cons))
  · repeat' (first | apply pwp_seq | apply pwp_region | (apply px_run; (first | (apply opv_move; first | exact hid_int rfl) | (apply opv_assign; first | exact hid_bool rfl) | (apply opv_lss <;> rfl) | (apply opv_field fld_G0; rfl) | (apply opv_load_blk 1; (first | with_reducible exact sc_int); rfl; rfl; rfl)); rfl; rfl) | apply px_nil | apply qseq_normal | apply qseq_exit | (apply qblock_exit_same; rfl) | apply pwp_exit | apply pwp_ret | apply qround_exit | (apply pwp_cond_dec; rfl; all_goals (intro hc; try (first | (exfalso; omega)))))
    refine qbody_ret1 (v := .bool _) rfl rfl ⟨ret_true rfl ⟨hg, htl, hai.2 ⟨fun v hv => he v (by omega), fun v hv => he2 v (by omega)⟩⟩, fun _ h => h.below⟩
theorem en_s_IsTransitive : Entry Try.prog 28 := ⟨_, Try.func28, by kernel_rfl, rfl⟩
set_option maxRecDepth 100000 in
set_option maxHeartbeats 3200000 in
theorem s_IsTransitive_c (size : Int) (gv tv : Value) (rows to : List Int) (w : World) (hr : Arr w gv (ints rows)) (ht : Arr w tv (ints to)) (hb : ∀ v, -1 ≤ to.getD v 0 ∧ to.getD v 0 ≤ 128) :
    Pure Try.prog 28 #[.agg #[.int .i64 size, gv], .agg #[tv]] w (.bool (decide (trnP size rows to))) := by
  refine pure_enter (args := [_, _]) en_s_IsTransitive Try.func28 rfl Try.ntmps28 rfl ?_
  by_cases hg : arrP size rows to
  case neg =>
    repeat' (first | apply pwp_seq | apply pwp_region | (apply px_run; (first | (apply opv_assign; first | exact hid_bool rfl) | (apply opv_not_dec <;> rfl) | (apply opv_load_str 1 st_G; rfl; rfl; rfl) | (apply opv_load_str 0 st_O; rfl; rfl; rfl) | (apply opv_call; rfl; rfl; exact Cl.stable _ _ _; exact fun w hw => s_IsOrientation_c _ _ _ rows to _ (by first | exact hw.arr (by assumption)) (by first | exact hw.arr (by assumption)) hb)); rfl; rfl) | apply px_nil | apply qseq_normal | apply qseq_ret | apply pwp_ret | (apply pwp_cond_ndec; rfl; all_goals (intro hc; try (first | contradiction))) | (apply px_box; rfl; rfl; rfl; rfl; intro bk))
    refine qbody_ret1 (v := .bool _) rfl rfl ⟨ret_false rfl fun h => hg h.1, fun _ h => h.below⟩
  obtain ⟨n, hn, hrl, hn1, hn7⟩ := isG_size hg.1
  have htl := hg.2.1
  have hlt7 := hg.lt hb
  have h128 : ∀ v, v < rows.length → 0 ≤ to.getD v 0 ∧ to.getD v 0 < 128 := fun v hv => by
    have h1 := hlt7 v hv
    have h2 := (shl1 (n := size) (by omega)).2.2
    omega
  repeat' (first | apply pwp_seq | apply pwp_region | (apply px_run; (first | (apply opv_assign; first | exact hid_int rfl | exact hid_bool rfl) | (apply opv_not_dec <;> rfl) | (apply opv_load_str 1 st_G; rfl; rfl; rfl) | (apply opv_load_str 0 st_O; rfl; rfl; rfl) | (apply opv_call; rfl; rfl; exact Cl.stable _ _ _; exact fun w hw => s_IsOrientation_c _ _ _ rows to _ (by first | exact hw.arr (by assumption)) (by first | exact hw.arr (by assumption)) hb)); rfl; rfl) | apply px_nil | apply qseq_normal | apply pwp_block | apply pwp_skip | (apply pwp_cond_ndec; rfl; all_goals (intro hc; try (first | contradiction))) | (apply px_box; rfl; rfl; rfl; rfl; intro bk))
  rename_i b0
  refine pwp_loop (τ := Nat) [(4,7), (12,52)] (fun k => [(5, .int .i64 (k : Int))]) (fun _ => Cl [] w [.blk bk [tv], .blk b0 [.int .i64 size, gv]]) (fun k => k ≤ rows.length ∧ ∀ v, v < k → ∀ x ∈ listS (to.getD v 0), iandnot (to.getD x.toNat 0) (to.getD v 0) = 0) (fun k => rows.length - k) 0
    ⟨rfl, trivial⟩ ⟨Nat.zero_le _, fun i hi => by omega⟩ (fun _ h => h) (fun J k hk => ?_)
  obtain ⟨hk, he⟩ := hk
  by_cases hlt : k < rows.length
  · have hin := listS_lt hg.1 (hlt7 k hlt)
    have hl7 := listS_length (to.getD k 0)
    repeat' (first | apply pwp_seq | apply pwp_region | (apply px_run; (first | (apply opv_move; first | exact hid_int rfl) | (apply opv_assign; first | exact hid_int rfl | rfl) | (apply opv_lss <;> rfl) | (apply opv_field fld_G0; rfl) | (apply opv_field fld_O0; rfl) | (apply opv_load_blk 0; (first | with_reducible exact sc_int | with_reducible exact sc_ints); rfl; rfl; rfl) | (apply opv_load_blk 1; (first | with_reducible exact sc_int); rfl; rfl; rfl) | (apply opv_load_ints sc_int; rfl; (first | exact rd_old (by assumption)); (first | omega)) | (apply opv_index_nat (vs := ints _) el_int; rfl; rfl; (first | exact rd_old (by assumption)); (first | (simp only [ints_length]; omega)))); rfl; rfl) | apply px_nil | apply qseq_normal | apply pwp_block | apply pwp_skip | (apply pwp_cond_dec; rfl; all_goals (intro hc; try (first | (exfalso; omega)))) | (apply px_gives; rfl; rfl; rfl; rfl; rfl; exact fun w hw => s_ListOf_c _ _; rintro sl _ rfl))
    refine pwp_loop (τ := Nat) [(4,4), (7,7), (24,52)] (fun j => [(7, .int .i64 (j : Int))]) (fun _ => Cl [] w [.row 3 sl (ints (listS (to.getD k 0))), .blk bk [tv], .blk b0 [.int .i64 size, gv]])
      (fun j => j ≤ (listS (to.getD k 0)).length ∧ ∀ i, i < j → iandnot (to.getD ((listS (to.getD k 0)).getD i 0).toNat 0) (to.getD k 0) = 0) (fun j => (listS (to.getD k 0)).length - j) 0
      ⟨rfl, trivial⟩ ⟨Nat.zero_le _, fun i hi => by omega⟩ (fun _ h => h) (fun J2 j hj => ?_)
    obtain ⟨hj, he2⟩ := hj
    by_cases hlj : j < (listS (to.getD k 0)).length
    · have hmem : (listS (to.getD k 0)).getD j 0 ∈ listS (to.getD k 0) := getD_mem hlj
      obtain ⟨hx1, hx2⟩ := hin _ hmem
      have hss := sub_same (h128 ((listS (to.getD k 0)).getD j 0).toNat (by omega)) (h128 k hlt)
      repeat' (first | apply pwp_seq | apply pwp_region | (apply px_run; (first | (apply opv_move; first | exact hid_int rfl | rfl) | (apply opv_assign; first | exact hid_int rfl | exact hid_bool rfl) | (apply opv_lss <;> rfl) | (apply opv_neq <;> rfl) | (apply opv_and <;> rfl) | (apply opv_add_in; rfl; rfl; omega) | (apply opv_field fld_O0; rfl) | (apply opv_load_blk 1; (first | with_reducible exact sc_int | with_reducible exact sc_ints); rfl; rfl; rfl) | (apply opv_load_ints sc_int; rfl; (first | exact rd_old (by assumption) | exact rd_row 0 rfl); (first | omega)) | (apply opv_index_nat (vs := ints _) el_int; rfl; rfl; (first | exact rd_old (by assumption) | exact rd_row 0 rfl); (first | (simp only [ints_length]; omega))) | (apply opv_index (vs := ints _) el_int; rfl; rfl; (first | exact rd_old (by assumption)); omega; (first | (simp only [ints_length]; omega))) | (apply opv_len_ints el_int; rfl; (first | exact rd_row 0 rfl))); rfl; rfl) | apply px_nil | apply qseq_normal | apply qseq_ret | apply pwp_block | apply qblock_normal | apply qblock_ret | apply pwp_skip | apply pwp_ret | apply qround_ret | (apply pwp_region_mix; kernel_rfl; decide +kernel; exact Cl.stable _ _ _) | (apply pwp_cond_ndec; rfl; all_goals (intro hc; try (first | fail))) | (apply pwp_cond_dec; rfl; all_goals (intro hc; try (first | (exfalso; omega)))))
      · refine qbody_ret1 (v := .bool _) rfl rfl ⟨ret_false rfl fun h => hc (hss.2 (h.2 k hlt _ hmem)), fun _ h => h.below⟩
      · refine qround_normal ?_ ⟨j + 1, ⟨rfl, trivial⟩, ⟨by omega, fun i hi => ?_⟩, by omega, fun _ h => h⟩
        · repeat (first | exact same_refl | refine same_upd rfl ?_ | refine same_junk rfl ?_)
        · by_cases hij : i < j
          · exact he2 i hij
          · obtain rfl : i = j := by omega
            exact hss.1 hc
    · repeat' (first | apply pwp_seq | apply pwp_region | (apply px_run; (first | (apply opv_move; first | exact hid_int rfl | rfl) | (apply opv_assign; first | exact hid_int rfl) | (apply opv_lss <;> rfl) | (apply opv_add_in; rfl; rfl; omega) | (apply opv_len_ints el_int; rfl; (first | exact rd_row 0 rfl))); rfl; rfl) | apply px_nil | apply qseq_normal | apply qseq_exit | apply qblock_normal | (apply qblock_exit_same; rfl) | apply pwp_exit | apply qround_exit | (apply pwp_cond_dec; rfl; all_goals (intro hc; try (first | (exfalso; omega)))))
      refine qround_normal ?_ ⟨k + 1, ⟨rfl, trivial⟩, ⟨by omega, fun v hv => ?_⟩, by omega, fun w' h => ?_⟩
      · repeat (first | exact same_refl | refine same_upd rfl ?_ | refine same_junk rfl ?_)
      · by_cases hvk : v < k
        · exact he v hvk
        · obtain rfl : v = k := by omega
          intro x hx
          obtain ⟨i, hi, rfl⟩ := mem_getD hx
          exact he2 i (by omega)
      · exact Cl.sub (by assumption) (by repeat (first | exact List.Sublist.slnil | exact List.Sublist.refl _ | apply List.Sublist.cons_cons | exact List.sublist_append_left _ _ | exact List.sublist_append_right _ _ | apply List.Sublist.cons))
  · repeat' (first | apply pwp_seq | apply pwp_region | (apply px_run; (first | (apply opv_move; first | exact hid_int rfl) | (apply opv_assign; first | exact hid_bool rfl) | (apply opv_lss <;> rfl) | (apply opv_field fld_G0; rfl) | (apply opv_load_blk 1; (first | with_reducible exact sc_int); rfl; rfl; rfl)); rfl; rfl) | apply px_nil | apply qseq_normal | apply qseq_exit | (apply qblock_exit_same; rfl) | apply pwp_exit | apply pwp_ret | apply qround_exit | (apply pwp_cond_dec; rfl; all_goals (intro hc; try (first | (exfalso; omega)))))
    refine qbody_ret1 (v := .bool _) rfl rfl ⟨ret_true rfl ⟨hg, fun v hv => he v (by omega)⟩, fun _ h => h.below⟩
theorem en_s_HeightsOf : Entry Try.prog 29 := ⟨_, Try.func29, by kernel_rfl, rfl⟩
set_option maxRecDepth 100000 in
set_option maxHeartbeats 6400000 in
theorem s_HeightsOf_c (size : Int) (gv tv : Value) (rows to : List Int) (w : World) (hr : Arr w gv (ints rows)) (ht : Arr w tv (ints to)) (hb : ∀ v, -1 ≤ to.getD v 0 ∧ to.getD v 0 ≤ 128) :
    Gives Try.prog 29 #[.agg #[.int .i64 size, gv], .agg #[tv]] w (fun v objs => objs = [.row 3 v (ints (heightsL size rows to))]) := by
  refine gives_enter (args := [_, _]) en_s_HeightsOf Try.func29 rfl Try.ntmps29 rfl ?_
  by_cases hg : trnP size rows to
  case neg =>
    repeat' (first | apply pwp_seq | apply pwp_region | (apply px_run; (first | (apply opv_assign; first | rfl) | (apply opv_not_dec <;> rfl) | (apply opv_load_str 1 st_G; rfl; rfl; rfl) | (apply opv_load_str 0 st_O; rfl; rfl; rfl) | (apply opv_call; rfl; rfl; exact Cl.stable _ _ _; exact fun w hw => s_IsTransitive_c _ _ _ rows to _ (by first | exact hw.arr (by assumption)) (by first | exact hw.arr (by assumption)) hb)); rfl; rfl) | apply px_nil | apply qseq_normal | apply qseq_ret | apply pwp_ret | (apply pwp_cond_ndec; rfl; all_goals (intro hc; try (first | contradiction))) | (apply px_box; rfl; rfl; rfl; rfl; intro bk) | (apply px_lit0 ez_int; rfl; rfl; rfl; intro sv))
    refine qbody_ret1 (v := sv) rfl rfl ⟨_, rfl, fun w' h => ?_⟩
    rw [heightsL, if_neg hg]
    exact Cl.sub (by assumption) (by repeat (first | exact List.Sublist.slnil | exact List.Sublist.refl _ | apply List.Sublist.cons_cons | exact List.sublist_append_left _ _ | exact List.sublist_append_right _ _ | apply List.Sublist.cons))
  obtain ⟨n, rfl, hrl, hn1, hn7⟩ := isG_size hg.1.1
  have htl := hg.1.2.1
  have hlt7 := hg.1.lt hb
  have hend : heightsL n rows to = relaxT (bitsP to) rows.length rows.length := by rw [heightsL, if_pos hg]
  have hO : ∀ v u : Nat, v < n → u < n → bitsP to v u = hasB (to.getD v 0) (u : Nat) := fun v u hv hu => by unfold bitsP; rw [decide_eq_true (by omega), Bool.true_and]
  generalize bitsP to = O at hend hO
  rw [hrl] at hend
  rw [hend]
  repeat' (first | apply pwp_seq | apply pwp_region | (apply px_run; (first | (apply opv_assign; first | exact hid_int rfl | rfl) | (apply opv_not_dec <;> rfl) | (apply opv_field fld_G0; rfl) | (apply opv_load_blk 1; (first | with_reducible exact sc_int); rfl; rfl; rfl) | (apply opv_load_str 1 st_G; rfl; rfl; rfl) | (apply opv_load_str 0 st_O; rfl; rfl; rfl) | (apply opv_call; rfl; rfl; exact Cl.stable _ _ _; exact fun w hw => s_IsTransitive_c _ _ _ rows to _ (by first | exact hw.arr (by assumption)) (by first | exact hw.arr (by assumption)) hb)); rfl; rfl) | apply px_nil | apply qseq_normal | apply pwp_block | apply pwp_skip | (apply pwp_cond_ndec; rfl; all_goals (intro hc; try (first | contradiction))) | (apply px_box; rfl; rfl; rfl; rfl; intro bk) | (apply px_make ez_int; rfl; rfl; rfl; rfl; rfl; omega; (simp only [maxLen]; omega); intro sv))
  rename_i b0
  have hz : List.replicate n (Value.int .i64 0) = ints (relaxT O n 0) := by simp [relaxT, ints]
  rw [hz]
  refine pwp_loop (τ := Nat) [(6,8), (17,56)] (fun t => [(6, .int .i64 (t : Int))]) (fun t => Cl [] w [.row 3 sv (ints (relaxT O n t)), .blk bk [tv], .blk b0 [.int .i64 (n : Int), gv]]) (fun t => t ≤ n) (fun t => n - t) 0
    ⟨rfl, trivial⟩ (Nat.zero_le _) (fun _ h => h) (fun J t htn => ?_)
  have hBT := HB.relaxT O hn7 t
  have hTl := relaxT_len O n t
  by_cases hlt : t < n
  · repeat' (first | apply pwp_seq | apply pwp_region | (apply px_run; (first | (apply opv_move; first | exact hid_int rfl) | (apply opv_assign; first | exact hid_int rfl) | (apply opv_lss <;> rfl) | (apply opv_field fld_G0; rfl) | (apply opv_load_blk 2; (first | with_reducible exact sc_int); rfl; rfl; rfl)); rfl; rfl) | apply px_nil | apply qseq_normal | apply pwp_block | apply pwp_skip | (apply pwp_cond_dec; rfl; all_goals (intro hc; try (first | (exfalso; omega)))))
    refine pwp_loop (τ := Nat) [(7,8), (23,56)] (fun v => [(7, .int .i64 (v : Int))]) (fun v => Cl [] w [.row 3 sv (ints (relaxV O n v (relaxT O n t))), .blk bk [tv], .blk b0 [.int .i64 (n : Int), gv]]) (fun v => v ≤ n) (fun v => n - v) 0
      ⟨rfl, trivial⟩ (Nat.zero_le _) (fun _ h => h) (fun J2 v hvn => ?_)
    have hBV := hBT.relaxV O hn7 v
    have hVl := relaxV_len O n v (relaxT O n t)
    by_cases hlv : v < n
    · generalize hH : relaxV O n v (relaxT O n t) = H at hBV hVl
      repeat' (first | apply pwp_seq | apply pwp_region | (apply px_run; (first | (apply opv_move; first | exact hid_int rfl) | (apply opv_assign; first | exact hid_int rfl) | (apply opv_lss <;> rfl) | (apply opv_field fld_G0; rfl) | (apply opv_load_blk 2; (first | with_reducible exact sc_int); rfl; rfl; rfl)); rfl; rfl) | apply px_nil | apply qseq_normal | apply pwp_block | apply pwp_skip | (apply pwp_cond_dec; rfl; all_goals (intro hc; try (first | (exfalso; omega)))))
      refine pwp_loop (τ := Nat) [(8,8), (29,56)] (fun u => [(8, .int .i64 (u : Int))]) (fun u => Cl [] w [.row 3 sv (ints (relaxW O v u H)), .blk bk [tv], .blk b0 [.int .i64 (n : Int), gv]])
        (fun u => u ≤ n) (fun u => n - u) 0
        ⟨rfl, trivial⟩ (Nat.zero_le _) (fun w' h => h) (fun J3 u hu => ?_)
      by_cases hlu : u < n
      · have hBU := hBV.relaxW O v u
        have hUl := relaxW_len O v u H
        have hv1 := hBU v
        have hsu : relaxW O v (u + 1) H = relax1 O v u (relaxW O v u H) := rfl
        have hou := hO v u hlv hlu
        rw [hasB_def] at hou
        unfold relax1 at hsu
        rw [hou] at hsu
        repeat' (first | apply pwp_seq | apply pwp_region | (apply px_run; (first | (apply opv_move; first | exact hid_int rfl | rfl) | (apply opv_assign; first | exact hid_int rfl) | (apply opv_lss <;> rfl) | (apply opv_eql <;> rfl) | (apply opv_and <;> rfl) | (apply opv_add_in; rfl; rfl; omega) | (apply opv_shr; rfl; rfl; omega) | (apply opv_field fld_G0; rfl) | (apply opv_field fld_O0; rfl) | (apply opv_load_blk 1; (first | with_reducible exact sc_int | with_reducible exact sc_ints); rfl; rfl; rfl) | (apply opv_load_blk 2; (first | with_reducible exact sc_int); rfl; rfl; rfl) | (apply opv_load_ints sc_int; rfl; (first | exact rd_old (by assumption) | exact rd_row 0 rfl); (first | omega)) | (apply opv_index_nat (vs := ints _) el_int; rfl; rfl; (first | exact rd_old (by assumption) | exact rd_row 0 rfl); (first | (simp only [ints_length]; omega)))); rfl; rfl) | apply px_nil | apply qseq_normal | apply pwp_block | apply qblock_normal | apply pwp_skip | (apply pwp_region_any [0, 1, 2, 3, 4, 5, 6, 7, 8, 9, 10] [13] 3 (Cl [] w [.row 3 sv _, .blk bk [tv], .blk b0 [.int .i64 (n : Int), gv]]); kernel_rfl; decide +kernel; exact Cl.stable _ _ _; exact fun w h => h.sub (by repeat (first | exact List.Sublist.refl _))) | apply qlooks_normal | (apply qstep_out; decide +kernel) | (apply qstep_in; exact fun w h => h.sub (by repeat (first | exact List.Sublist.refl _))) | (apply pxa_nil; decide +kernel) | (apply pxa_one 11; decide +kernel; rfl) | (apply pxa_one 12; decide +kernel; rfl) | (apply pxa_one 13; decide +kernel; rfl) | (apply pwp_cond_dec; rfl; all_goals (intro hc; try (first | (exfalso; omega)))) | (apply px_run; (apply opv_max <;> rfl); rfl; rfl) | (apply px_store_int 0 co_int; rfl; rfl; rfl; (first | omega); rfl))
        · refine qround_normal ?_ ⟨u + 1, ⟨rfl, trivial⟩, by omega, by omega, fun w' h => ?_⟩
          · repeat (first | exact same_refl | refine same_upd rfl ?_ | refine same_junk rfl ?_)
          · rw [hsu, if_pos (decide_eq_true hc)]
            exact Cl.sub (by assumption) (by repeat (first | exact List.Sublist.slnil | exact List.Sublist.refl _ | apply List.Sublist.cons_cons | exact List.sublist_append_left _ _ | exact List.sublist_append_right _ _ | apply List.Sublist.cons))
        · refine qround_normal ?_ ⟨u + 1, ⟨rfl, trivial⟩, by omega, by omega, fun w' h => ?_⟩
          · repeat (first | exact same_refl | refine same_upd rfl ?_ | refine same_junk rfl ?_)
          · rw [hsu, if_neg (fun h => hc (of_decide_eq_true h))]
            exact h
      · obtain rfl : u = n := by omega
        repeat' (first | apply pwp_seq | apply pwp_region | (apply px_run; (first | (apply opv_move; first | exact hid_int rfl) | (apply opv_assign; first | exact hid_int rfl) | (apply opv_lss <;> rfl) | (apply opv_add_in; rfl; rfl; omega) | (apply opv_field fld_G0; rfl) | (apply opv_load_blk 2; (first | with_reducible exact sc_int); rfl; rfl; rfl)); rfl; rfl) | apply px_nil | apply qseq_normal | apply qseq_exit | apply qblock_normal | (apply qblock_exit_same; rfl) | apply pwp_exit | apply qround_exit | (apply pwp_cond_dec; rfl; all_goals (intro hc; try (first | (exfalso; omega)))))
        refine qround_normal ?_ ⟨v + 1, ⟨rfl, trivial⟩, by omega, by omega, fun w' h => ?_⟩
        · repeat (first | exact same_refl | refine same_upd rfl ?_ | refine same_junk rfl ?_)
        · rw [show relaxV O u (v + 1) (relaxT O u t) = relaxW O v u H by rw [relaxV, hH]]
          exact Cl.sub (by assumption) (by repeat (first | exact List.Sublist.slnil | exact List.Sublist.refl _ | apply List.Sublist.cons_cons | exact List.sublist_append_left _ _ | exact List.sublist_append_right _ _ | apply List.Sublist.cons))
    · obtain rfl : v = n := by omega
      repeat' (first | apply pwp_seq | apply pwp_region | (apply px_run; (first | (apply opv_move; first | exact hid_int rfl) | (apply opv_assign; first | exact hid_int rfl) | (apply opv_lss <;> rfl) | (apply opv_add_in; rfl; rfl; omega) | (apply opv_field fld_G0; rfl) | (apply opv_load_blk 2; (first | with_reducible exact sc_int); rfl; rfl; rfl)); rfl; rfl) | apply px_nil | apply qseq_normal | apply qseq_exit | apply qblock_normal | (apply qblock_exit_same; rfl) | apply pwp_exit | apply qround_exit | (apply pwp_cond_dec; rfl; all_goals (intro hc; try (first | (exfalso; omega)))))
      refine qround_normal ?_ ⟨t + 1, ⟨rfl, trivial⟩, by omega, by omega, fun w' h => ?_⟩
      · repeat (first | exact same_refl | refine same_upd rfl ?_ | refine same_junk rfl ?_)
      · exact h
  · obtain rfl : t = n := by omega
    repeat' (first | apply pwp_seq | apply pwp_region | (apply px_run; (first | (apply opv_move; first | exact hid_int rfl | rfl) | (apply opv_assign; first | rfl) | (apply opv_lss <;> rfl) | (apply opv_field fld_G0; rfl) | (apply opv_load_blk 2; (first | with_reducible exact sc_int); rfl; rfl; rfl)); rfl; rfl) | apply px_nil | apply qseq_normal | apply qseq_exit | (apply qblock_exit_same; rfl) | apply pwp_exit | apply pwp_ret | apply qround_exit | (apply pwp_cond_dec; rfl; all_goals (intro hc; try (first | (exfalso; omega)))))
    refine qbody_ret1 (v := sv) rfl rfl ⟨_, rfl, fun w' h => ?_⟩
    exact Cl.sub (by assumption) (by repeat (first | exact List.Sublist.slnil | exact List.Sublist.refl _ | apply List.Sublist.cons_cons | exact List.sublist_append_left _ _ | exact List.sublist_append_right _ _ | apply List.Sublist.cons))
end Go.Proofs.Ytkbjcfabbapnpaa
