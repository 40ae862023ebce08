/- Cliques, splits, edges, counts. -/
import Derived.Test.YtcicdnpmlcjcmaaGreatGs
import Derived.Test.YtcicdnpmlcjcmaaGreatPwPlc
import Derived.Test.YtcicdnpmlcjcmaaGreatPwFun
namespace Go.Proofs.YtcicdnpmlcjcmaaGreat
open Go Go.RowKit Go.Pw

theorem en_i_CountSet : Entry Tryz.prog 46 := ⟨_, Tryz.func46, by kernel_rfl, rfl⟩
theorem i_CountSet_c (s : Int) (w : World) : Pure Tryz.prog 46 #[.int .i64 s] w (.int .i64 (cntS s)) := by
  refine pure_enter (args := [_]) en_i_CountSet Tryz.func46 rfl Tryz.ntmps46 rfl ?_
  repeat' (first | apply pwp_seq | apply pwp_region | (apply px_run; (first | (apply opv_move; first | exact hid_int rfl) | (apply opv_assign; first | exact hid_int rfl) | (apply opv_len_ints el_int; rfl; (first | exact rd_row 0 rfl))); rfl; rfl) | apply px_nil | apply qseq_normal | apply pwp_ret | (apply px_gives; rfl; rfl; rfl; rfl; rfl; exact fun w hw => i_ListOf_c _ _; rintro sl _ rfl))
  refine qbody_ret1 (v := .int _ _) rfl rfl ⟨rfl, fun _ h => h.below⟩
theorem en_s_CountSet : Entry Tryz.prog 52 := ⟨_, Tryz.func52, by kernel_rfl, rfl⟩
theorem s_CountSet_c (s : Int) (w : World) : Pure Tryz.prog 52 #[.int .i64 s] w (.int .i64 (cntS s)) := by
  refine pure_enter (args := [_]) en_s_CountSet Tryz.func52 rfl Tryz.ntmps52 rfl ?_
  repeat' (first | apply pwp_seq | apply pwp_region | (apply px_run; (first | (apply opv_move; first | exact hid_int rfl) | (apply opv_assign; first | exact hid_int rfl) | (apply opv_len_ints el_int; rfl; (first | exact rd_row 0 rfl))); rfl; rfl) | apply px_nil | apply qseq_normal | apply pwp_ret | (apply px_gives; rfl; rfl; rfl; rfl; rfl; exact fun w hw => s_ListOf_c _ _; rintro sl _ rfl))
  refine qbody_ret1 (v := .int _ _) rfl rfl ⟨rfl, fun _ h => h.below⟩
theorem en_i_isClique : Entry Tryz.prog 77 := ⟨_, Tryz.func77, by kernel_rfl, rfl⟩
set_option maxHeartbeats 400000 in
theorem i_isClique_c (size : Int) (sv : Value) (rows : List Int) (s : Int) (w : World) (hr : Arr w sv (ints rows)) (hg : IsG size rows) (hs : 0 ≤ s ∧ s < ishl 1 size) :
    Pure Tryz.prog 77 #[.agg #[.int .i64 size, sv], .int .i64 s] w (.bool (decide (cliqueQ rows s))) := by
  refine pure_enter (args := [_, _]) en_i_isClique Tryz.func77 rfl Tryz.ntmps77 rfl ?_
  have hin := listS_lt hg hs
  have hl7 := listS_length s
  repeat' (first | apply pwp_seq | apply pwp_region | (apply px_run; (first | (apply opv_move; first | exact hid_int rfl) | (apply opv_assign; first | exact hid_bool rfl) | (apply opv_len_ints el_int; rfl; (first | exact rd_row 0 rfl))); rfl; rfl) | apply px_nil | apply qseq_normal | apply pwp_block | (apply px_box; rfl; rfl; rfl; rfl; intro bk) | (apply px_gives; rfl; rfl; rfl; rfl; rfl; exact fun w hw => i_ListOf_c _ _; rintro sl _ rfl))
  refine pwp_loop (τ := Nat) [(4,4), (6,6), (10,24)] (fun k => [(10, .int .i64 (k : Int))]) (fun k => Cl [] w [.row 3 sl (ints (listS s)), .blk bk [.int .i64 size, sv]])
    (fun k => k ≤ (listS s).length ∧ ∀ i, i < k → iandnot s (rows.getD ((listS s).getD i 0).toNat 0) = ishl 1 ((listS s).getD i 0)) (fun k => (listS s).length - k) 0
    ⟨rfl, trivial⟩ ⟨Nat.zero_le _, fun i hi => by omega⟩ (fun _ h => h) (fun J k hk => ?_)
  obtain ⟨hk, he⟩ := hk
  by_cases hlt : k < (listS s).length
  · have hmem : (listS s).getD k 0 ∈ listS s := getD_mem hlt
    obtain ⟨hx1, hx2⟩ := hin _ hmem
    repeat' (first | apply pwp_seq | apply pwp_region | (apply px_run; (first | (apply opv_move; first | exact hid_int rfl) | (apply opv_assign; first | exact hid_int rfl | exact hid_bool rfl) | (apply opv_lss <;> rfl) | (apply opv_neq <;> rfl) | (apply opv_andNot <;> rfl) | (apply opv_add_in; rfl; rfl; omega) | (apply opv_shl; rfl; rfl; omega) | (apply opv_field fld_G1; rfl) | (apply opv_load_blk 1; (first | with_reducible exact sc_int | with_reducible exact sc_ints); rfl; rfl; rfl) | (apply opv_load_ints sc_int; rfl; (first | exact rd_old (by assumption) | exact rd_row 0 rfl); (first | omega)) | (apply opv_index_nat (vs := ints _) el_int; rfl; rfl; (first | exact rd_row 0 rfl); (first | (simp only [ints_length]; omega))) | (apply opv_index (vs := ints _) el_int; rfl; rfl; (first | exact rd_old (by assumption)); omega; (first | (simp only [ints_length]; omega)))); rfl; rfl) | apply px_nil | apply qseq_normal | apply qseq_ret | apply pwp_block | apply qblock_normal | apply qblock_ret | apply pwp_skip | apply pwp_ret | apply qround_ret | (apply pwp_region_mix; kernel_rfl; decide +kernel; exact Cl.stable _ _ _) | (apply pwp_cond_ndec; rfl; all_goals (intro hc; try (first | fail))) | (apply pwp_cond_dec; rfl; all_goals (intro hc; try (first | (exfalso; omega)))))
    · refine qbody_ret1 (v := .bool _) rfl rfl ⟨ret_false rfl fun h => hc ((clique_list hg hs).1 h _ hmem), fun _ h => h.below⟩
    · refine qround_normal ?_ ⟨k + 1, ⟨rfl, trivial⟩, ⟨by omega, fun i hi => ?_⟩, by omega, fun _ h => h⟩
      · repeat (first | exact same_refl | refine same_upd rfl ?_ | refine same_junk rfl ?_)
      · by_cases hik : i < k
        · exact he i hik
        · obtain rfl : i = k := by omega
          exact hc
  · repeat' (first | apply pwp_seq | apply pwp_region | (apply px_run; (first | (apply opv_assign; first | exact hid_bool rfl) | (apply opv_lss <;> rfl)); rfl; rfl) | apply px_nil | apply qseq_normal | apply qseq_exit | (apply qblock_exit_same; rfl) | apply pwp_exit | apply pwp_ret | apply qround_exit | (apply pwp_cond_dec; rfl; all_goals (intro hc; try (first | (exfalso; omega)))))
    refine qbody_ret1 (v := .bool _) rfl rfl ⟨ret_true rfl ((clique_list hg hs).2 fun x hx => ?_), fun _ h => h.below⟩
    obtain ⟨i, hi, rfl⟩ := mem_getD hx
    exact he i (by omega)
theorem en_i_IsClique : Entry Tryz.prog 39 := ⟨_, Tryz.func39, by kernel_rfl, rfl⟩
theorem i_IsClique_c (size : Int) (sv : Value) (rows : List Int) (s : Int) (w : World) (hr : Arr w sv (ints rows)) :
    Pure Tryz.prog 39 #[.agg #[.int .i64 size, sv], .int .i64 s] w (.bool (decide (cliqueP size rows s))) := by
  refine pure_enter (args := [_, _]) en_i_IsClique Tryz.func39 rfl Tryz.ntmps39 rfl ?_
  by_cases hg : IsG size rows ∧ 0 ≤ s ∧ s < ishl 1 size
  · repeat' (first | apply pwp_seq | apply pwp_region | (apply px_run; (first | (apply opv_move; first | exact hid_int rfl | exact hid_bool rfl) | (apply opv_assign; first | exact hid_bool rfl) | (apply opv_pick_t <;> rfl) | (apply opv_load_str 0 st_G; rfl; rfl; rfl) | (apply opv_call; rfl; rfl; exact Cl.stable _ _ _; exact fun w hw => i_IsSet_c _ _ rows _ _ (by first | exact hw.arr (by assumption))) | (apply opv_call; rfl; rfl; exact Cl.stable _ _ _; exact fun w hw => i_isClique_c _ _ rows _ _ (by first | exact hw.arr (by assumption)) hg.1 hg.2)); rfl; rfl) | apply px_nil | apply qseq_normal | apply pwp_ret | (apply px_guard_dec; rfl; rfl; rfl; all_goals (intro hc; try (first | contradiction))) | (apply px_box; rfl; rfl; rfl; rfl; intro bk))
    refine qbody_ret1 (v := .bool (decide _)) rfl rfl ⟨ret_iff ⟨fun h => ⟨hg, h⟩, fun h => h.2⟩, fun _ h => h.below⟩
  · repeat' (first | apply pwp_seq | apply pwp_region | (apply px_run; (first | (apply opv_move; first | exact hid_int rfl | exact hid_bool rfl) | (apply opv_assign; first | exact hid_bool rfl) | (apply opv_pick_f <;> rfl) | (apply opv_load_str 0 st_G; rfl; rfl; rfl) | (apply opv_call; rfl; rfl; exact Cl.stable _ _ _; exact fun w hw => i_IsSet_c _ _ rows _ _ (by first | exact hw.arr (by assumption)))); rfl; rfl) | apply px_nil | (apply px_skip; rfl; rfl) | apply qseq_normal | apply pwp_ret | (apply px_guard_dec; rfl; rfl; rfl; all_goals (intro hc; try (first | contradiction))) | (apply px_box; rfl; rfl; rfl; rfl; intro bk))
    refine qbody_ret1 (v := .bool _) rfl rfl ⟨ret_false rfl fun h => hg h.1, fun _ h => h.below⟩
theorem en_s_IsClique : Entry Tryz.prog 56 := ⟨_, Tryz.func56, by kernel_rfl, rfl⟩
set_option maxHeartbeats 400000 in
theorem s_IsClique_c (size : Int) (sv : Value) (rows : List Int) (s : Int) (w : World) (hr : Arr w sv (ints rows)) :
    Pure Tryz.prog 56 #[.agg #[.int .i64 size, sv], .int .i64 s] w (.bool (decide (cliqueP size rows s))) := by
  refine pure_enter (args := [_, _]) en_s_IsClique Tryz.func56 rfl Tryz.ntmps56 rfl ?_
  repeat' (first | apply pwp_seq | apply pwp_region | (apply px_run; (first | (apply opv_move; first | exact hid_int rfl) | (apply opv_assign; first | exact hid_int rfl | exact hid_bool rfl) | (apply opv_not_dec <;> rfl) | (apply opv_load_str 0 st_G; rfl; rfl; rfl) | (apply opv_call; rfl; rfl; exact Cl.stable _ _ _; exact fun w hw => s_IsSet_c _ _ rows _ _ (by first | exact hw.arr (by assumption)))); rfl; rfl) | apply px_nil | apply qseq_normal | apply qseq_ret | apply pwp_block | apply pwp_skip | apply pwp_ret | (apply pwp_cond_ndec; rfl; all_goals (intro hc; try (first | fail))) | (apply px_box; rfl; rfl; rfl; rfl; intro bk))
  · refine qbody_ret1 (v := .bool _) rfl rfl ⟨ret_false rfl fun h => hc h.1, fun _ h => h.below⟩
  obtain ⟨hg, hs⟩ := hc
  obtain ⟨n, hn, hl, _, hn7⟩ := isG_size hg
  obtain ⟨_, hz2, hz3⟩ := shl1 (n := size) ⟨by omega, by omega⟩
  refine pwp_loop (τ := Nat) [(4,5), (10,34)] (fun k => [(5, .int .i64 (k : Int))]) (fun _ => Cl [] w [.blk bk [.int .i64 size, sv]]) (fun k => k ≤ rows.length ∧ ∀ v, v < k → hasB s (v : Nat) = true → iandnot s (rows.getD v 0) = ishl 1 v) (fun k => rows.length - k) 0
    ⟨rfl, trivial⟩ ⟨Nat.zero_le _, fun v hv => by omega⟩ (fun _ h => h) (fun J k hk => ?_)
  obtain ⟨hk, hok⟩ := hk
  by_cases hlt : k < rows.length
  · have key : cliqueP size rows s → hasB s (k : Nat) = true → iandnot s (rows.getD k 0) = ishl 1 k := fun h => h.2 k hlt
    have hcr := clique_row hg hs k
    obtain ⟨_, hy2, hy3⟩ := shl1 (n := (k : Int)) ⟨by omega, by omega⟩
    repeat' (first | apply pwp_seq | apply pwp_region | (apply px_run; (first | (apply opv_move; first | exact hid_int rfl | exact hid_bool rfl) | (apply opv_assign; first | exact hid_int rfl | exact hid_bool rfl) | (apply opv_lss <;> rfl) | (apply opv_eql <;> rfl) | (apply opv_neq <;> rfl) | (apply opv_and <;> rfl) | (apply opv_pick_t <;> rfl) | (apply opv_pick_f <;> rfl) | (apply opv_add_in; rfl; rfl; omega) | (apply opv_sub_in; rfl; rfl; omega) | (apply opv_shl; rfl; rfl; omega) | (apply opv_shr; rfl; rfl; omega) | (apply opv_field fld_G0; rfl) | (apply opv_field fld_G1; rfl) | (apply opv_load_blk 0; (first | with_reducible exact sc_int | with_reducible exact sc_ints); rfl; rfl; rfl) | (apply opv_load_ints sc_int; rfl; (first | exact rd_old (by assumption)); (first | omega)) | (apply opv_index_nat (vs := ints _) el_int; rfl; rfl; (first | exact rd_old (by assumption)); (first | (simp only [ints_length]; omega)))); rfl; rfl) | apply px_nil | (apply px_skip; rfl; rfl) | apply qseq_normal | apply qseq_ret | apply pwp_block | apply qblock_normal | apply qblock_ret | apply pwp_skip | apply pwp_ret | apply qround_ret | (apply pwp_cond_f; rfl) | (apply pwp_region_mix; kernel_rfl; decide +kernel; exact Cl.stable _ _ _) | (apply px_guard_dec; rfl; rfl; rfl; all_goals (intro hc; try (first | fail))) | (apply pwp_cond_ndec; rfl; all_goals (intro hc; try (first | fail))) | (apply pwp_cond_dec; rfl; all_goals (intro hc; try (first | (exfalso; omega)))))
    · refine qbody_ret1 (v := .bool _) rfl rfl ⟨ret_false rfl fun h => hc ?_, fun _ h => h.below⟩
      rw [hcr, key h (hasB_iff.2 (by assumption))]
    all_goals
      refine qround_normal ?_ ⟨k + 1, ⟨rfl, trivial⟩, ⟨by omega, fun x hx hb => ?_⟩, by omega, fun _ h => h⟩
      · repeat (first | exact same_refl | refine same_upd rfl ?_ | refine same_junk rfl ?_)
      · by_cases hvk : x < k
        · exact hok x hvk hb
        · obtain rfl : x = k := by omega
          first | (rw [hcr] at hc; omega) | exact (hc (hasB_iff.1 hb)).elim
  · repeat' (first | apply pwp_seq | apply pwp_region | (apply px_run; (first | (apply opv_move; first | exact hid_int rfl) | (apply opv_assign; first | exact hid_bool rfl) | (apply opv_lss <;> rfl) | (apply opv_field fld_G0; rfl) | (apply opv_load_blk 0; (first | with_reducible exact sc_int); rfl; rfl; rfl)); rfl; rfl) | apply px_nil | apply qseq_normal | apply qseq_exit | (apply qblock_exit_same; rfl) | apply pwp_exit | apply pwp_ret | apply qround_exit | (apply pwp_cond_dec; rfl; all_goals (intro hc; try (first | (exfalso; omega)))))
    refine qbody_ret1 (v := .bool _) rfl rfl ⟨ret_true rfl ⟨⟨hg, hs⟩, fun v hv => hok v (by omega)⟩, fun _ h => h.below⟩
theorem en_i_IsSplitPartition : Entry Tryz.prog 15 := ⟨_, Tryz.func15, by kernel_rfl, rfl⟩
theorem i_IsSplitPartition_c (size : Int) (sv : Value) (rows : List Int) (s : Int) (w : World) (hr : Arr w sv (ints rows)) :
    Pure Tryz.prog 15 #[.agg #[.int .i64 size, sv], .int .i64 s] w (.bool (decide (splitP size rows s))) := by
  refine pure_enter (args := [_, _]) en_i_IsSplitPartition Tryz.func15 rfl Tryz.ntmps15 rfl ?_
  by_cases hg : IsG size rows ∧ 0 ≤ s ∧ s < ishl 1 size
  · have hsz : 0 ≤ size ∧ size ≤ 7 := ⟨by have := hg.1.1.1; omega, hg.1.1.2⟩
    have ha := andnot_all hg.1 hg.2
    repeat' (first | apply pwp_seq | apply pwp_region | (apply px_run; (first | (apply opv_move; first | exact hid_int rfl | exact hid_bool rfl) | (apply opv_assign; first | exact hid_bool rfl) | (apply opv_andNot <;> rfl) | (apply opv_pick_t <;> rfl) | (apply opv_pick_f <;> rfl) | (apply opv_load_str 0 st_G; rfl; rfl; rfl) | (apply opv_call; rfl; rfl; exact Cl.stable _ _ _; exact fun w hw => i_IsClique_c _ _ rows _ _ (by first | exact hw.arr (by assumption))) | (apply opv_call; rfl; rfl; exact Cl.stable _ _ _; exact fun w hw => i_all_c _ _ _ hsz) | (apply opv_call; rfl; rfl; exact Cl.stable _ _ _; exact fun w hw => i_IsIndependent_c _ _ rows _ _ (by first | exact hw.arr (by assumption)))); rfl; rfl) | apply px_nil | (apply px_skip; rfl; rfl) | apply qseq_normal | apply pwp_ret | (apply pwp_region_mix; kernel_rfl; decide +kernel; exact Cl.stable _ _ _) | (apply px_guard_dec; rfl; rfl; rfl; all_goals (intro hc; try (first | fail))) | (apply px_box; rfl; rfl; rfl; rfl; intro bk))
    · refine qbody_ret1 (v := .bool (decide _)) rfl rfl ⟨ret_iff (by rw [splitP, ha]; exact ⟨fun h => ⟨by assumption, h⟩, fun h => h.2⟩), fun _ h => h.below⟩
    · refine qbody_ret1 (v := .bool _) rfl rfl ⟨ret_false rfl fun h => hc h.1, fun _ h => h.below⟩
  · have hneg : ¬ cliqueP size rows s := fun h => hg h.1
    repeat' (first | apply pwp_seq | apply pwp_region | (apply px_run; (first | (apply opv_move; first | exact hid_int rfl | exact hid_bool rfl) | (apply opv_assign; first | exact hid_bool rfl) | (apply opv_pick_f <;> rfl) | (apply opv_load_str 0 st_G; rfl; rfl; rfl) | (apply opv_call; rfl; rfl; exact Cl.stable _ _ _; exact fun w hw => i_IsClique_c _ _ rows _ _ (by first | exact hw.arr (by assumption)))); rfl; rfl) | apply px_nil | (apply px_skip; rfl; rfl) | apply qseq_normal | apply pwp_ret | (apply pwp_region_mix; kernel_rfl; decide +kernel; exact Cl.stable _ _ _) | (apply px_guard_dec; rfl; rfl; rfl; all_goals (intro hc; try (first | contradiction))) | (apply px_box; rfl; rfl; rfl; rfl; intro bk))
    refine qbody_ret1 (v := .bool _) rfl rfl ⟨ret_false rfl fun h => hneg h.1, fun _ h => h.below⟩
theorem en_s_IsSplitPartition : Entry Tryz.prog 25 := ⟨_, Tryz.func25, by kernel_rfl, rfl⟩
theorem s_IsSplitPartition_c (size : Int) (sv : Value) (rows : List Int) (s : Int) (w : World) (hr : Arr w sv (ints rows)) :
    Pure Tryz.prog 25 #[.agg #[.int .i64 size, sv], .int .i64 s] w (.bool (decide (splitP size rows s))) := by
  refine pure_enter (args := [_, _]) en_s_IsSplitPartition Tryz.func25 rfl Tryz.ntmps25 rfl ?_
  by_cases hg : IsG size rows ∧ 0 ≤ s ∧ s < ishl 1 size
  · have hsz : 0 ≤ size ∧ size ≤ 7 := ⟨by have := hg.1.1.1; omega, hg.1.1.2⟩
    obtain ⟨hp, h2, h3⟩ := shl1 hsz
    obtain ⟨hg1, hg2, hg3⟩ := id hg
    obtain ⟨hz1, hz2⟩ := hsz
    repeat' (first | apply pwp_seq | apply pwp_region | (apply px_run; (first | (apply opv_move; first | exact hid_int rfl | exact hid_bool rfl) | (apply opv_assign; first | exact hid_bool rfl) | (apply opv_pick_t <;> rfl) | (apply opv_pick_f <;> rfl) | (apply opv_sub_in; rfl; rfl; omega) | (apply opv_shl; rfl; rfl; omega) | (apply opv_field fld_G0; rfl) | (apply opv_load_blk 0; (first | with_reducible exact sc_int); rfl; rfl; rfl) | (apply opv_load_str 0 st_G; rfl; rfl; rfl) | (apply opv_call; rfl; rfl; exact Cl.stable _ _ _; exact fun w hw => s_IsClique_c _ _ rows _ _ (by first | exact hw.arr (by assumption))) | (apply opv_call; rfl; rfl; exact Cl.stable _ _ _; exact fun w hw => s_IsIndependent_c _ _ rows _ _ (by first | exact hw.arr (by assumption)))); rfl; rfl) | apply px_nil | (apply px_skip; rfl; rfl) | apply qseq_normal | apply pwp_ret | (apply pwp_region_mix; kernel_rfl; decide +kernel; exact Cl.stable _ _ _) | (apply px_guard_dec; rfl; rfl; rfl; all_goals (intro hc; try (first | fail))) | (apply px_box; rfl; rfl; rfl; rfl; intro bk))
    · refine qbody_ret1 (v := .bool (decide _)) rfl rfl ⟨ret_iff ⟨fun h => ⟨by assumption, h⟩, fun h => h.2⟩, fun _ h => h.below⟩
    · refine qbody_ret1 (v := .bool _) rfl rfl ⟨ret_false rfl fun h => hc h.1, fun _ h => h.below⟩
  · have hneg : ¬ cliqueP size rows s := fun h => hg h.1
    repeat' (first | apply pwp_seq | apply pwp_region | (apply px_run; (first | (apply opv_move; first | exact hid_int rfl | exact hid_bool rfl) | (apply opv_assign; first | exact hid_bool rfl) | (apply opv_pick_f <;> rfl) | (apply opv_field fld_G0; rfl) | (apply opv_load_str 0 st_G; rfl; rfl; rfl) | (apply opv_call; rfl; rfl; exact Cl.stable _ _ _; exact fun w hw => s_IsClique_c _ _ rows _ _ (by first | exact hw.arr (by assumption)))); rfl; rfl) | apply px_nil | (apply px_skip; rfl; rfl) | apply qseq_normal | apply pwp_ret | (apply pwp_region_mix; kernel_rfl; decide +kernel; exact Cl.stable _ _ _) | (apply px_guard_dec; rfl; rfl; rfl; all_goals (intro hc; try (first | contradiction))) | (apply px_box; rfl; rfl; rfl; rfl; intro bk))
    refine qbody_ret1 (v := .bool _) rfl rfl ⟨ret_false rfl fun h => hneg h.1, fun _ h => h.below⟩
end Go.Proofs.YtcicdnpmlcjcmaaGreat
