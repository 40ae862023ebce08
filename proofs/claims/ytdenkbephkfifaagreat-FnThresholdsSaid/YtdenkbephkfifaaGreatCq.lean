/- Cliques, splits, edges, counts. -/
import Derived.Test.YtdenkbephkfifaaGreatGs
import Derived.Test.YtdenkbephkfifaaGreatPwPlc
import Derived.Test.YtdenkbephkfifaaGreatPwFun
namespace Go.Proofs.YtdenkbephkfifaaGreat
open Go Go.RowKit Go.Pw

theorem en_s_IsClique : Entry Tryz.prog 79 := ⟨_, Tryz.func79, by kernel_rfl, rfl⟩
set_option maxHeartbeats 400000 in
theorem s_IsClique_c (size : Int) (sv : Value) (rows : List Int) (s : Int) (w : World) (hr : Arr w sv (ints rows)) :
    Pure Tryz.prog 79 #[.agg #[.int .i64 size, sv], .int .i64 s] w (.bool (decide (cliqueP size rows s))) := by
  refine pure_enter (args := [_, _]) en_s_IsClique Tryz.func79 rfl Tryz.ntmps79 rfl ?_
  repeat' (first | apply pwp_seq | apply pwp_region | (apply px_run; (first | (apply opv_move; first | exact hid_int rfl) | (apply opv_assign; first | exact hid_int rfl | exact hid_bool rfl) | (apply opv_not_dec <;> rfl) | (apply opv_load_str 0 st_G; rfl; rfl; rfl) | (apply opv_call; rfl; rfl; exact Cl.stable _ _ _; exact fun w hw => s_IsSet_c _ _ rows _ _ (by first | exact hw.arr (by assumption)))); rfl; rfl) | apply px_nil | apply qseq_normal | apply qseq_ret | apply pwp_block | apply pwp_skip | apply pwp_ret | (apply pwp_cond_ndec; rfl; all_goals (intro hc; try (first | fail))) | (apply px_box; rfl; rfl; rfl; rfl; intro bk))
  · refine qbody_ret1 (v := .bool _) rfl rfl ⟨ret_false rfl fun h => hc h.1, fun _ h => h.below⟩
  obtain ⟨hg, hs⟩ := hc
  obtain ⟨n, hn, hl, _, hn7⟩ := isG_size hg
  obtain ⟨_, hz2, hz3⟩ := shl1 (n := size) ⟨by omega, by omega⟩
  refine pwp_loop (τ := Nat) [(4,5), (10,34)] (fun k => [(5, .int .i64 (k : Int))]) (fun _ => Cl [] w [.blk bk [.int .i64 size, sv]]) (fun k => k ≤ rows.length ∧ ∀ v, v < k → hasB s (v : Nat) = true → iandnot s (rows.getD v 0) = ishl 1 v) (fun k => rows.length - k) 0
    ⟨rfl, trivial⟩ ⟨Nat.zero_le _, fun v hv => by omega⟩ (fun _ h => h) (fun J k hk => ?_)
  obtain ⟨hk, hok⟩ := hk
  by_cases hlt : k < rows.length
  · have key : cliqueP size rows s → hasB s (k : Nat) = true → iandnot s (rows.getD k 0) = ishl 1 k := fun h => h.2 k hlt
    have hcr := clique_row hg hs k
    obtain ⟨_, hy2, hy3⟩ := shl1 (n := (k : Int)) ⟨by omega, by omega⟩
    repeat' (first | apply pwp_seq | apply pwp_region | (apply px_run; (first | (apply opv_move; first | exact hid_int rfl | exact hid_bool rfl) | (apply opv_assign; first | exact hid_int rfl | exact hid_bool rfl) | (apply opv_lss <;> rfl) | (apply opv_eql <;> rfl) | (apply opv_neq <;> rfl) | (apply opv_and <;> rfl) | (apply opv_pick_t <;> rfl) | (apply opv_pick_f <;> rfl) | (apply opv_add_in; rfl; rfl; omega) | (apply opv_sub_in; rfl; rfl; omega) | (apply opv_shl; rfl; rfl; omega) | (apply opv_shr; rfl; rfl; omega) | (apply opv_field fld_G0; rfl) | (apply opv_field fld_G1; rfl) | (apply opv_load_blk 0; (first | with_reducible exact sc_int | with_reducible exact sc_ints); rfl; rfl; rfl) | (apply opv_load_ints sc_int; rfl; (first | exact rd_old (by assumption)); (first | omega)) | (apply opv_index_nat (vs := ints _) el_int; rfl; rfl; (first | exact rd_old (by assumption)); (first | (simp only [ints_length]; omega)))); rfl; rfl) | apply px_nil | (apply px_skip; rfl; rfl) | apply qseq_normal | apply qseq_ret | apply pwp_block | apply qblock_normal | apply qblock_ret | apply pwp_skip | apply pwp_ret | apply qround_ret | (apply pwp_cond_f; rfl) | (apply pwp_region_mix; kernel_rfl; decide +kernel; exact Cl.stable _ _ _) | (apply px_guard_dec; rfl; rfl; rfl; all_goals (intro hc; try (first | fail))) | (apply pwp_cond_ndec; rfl; all_goals (intro hc; try (first | fail))) | (apply pwp_cond_dec; rfl; all_goals (intro hc; try (first | (exfalso; omega)))))
    · refine qbody_ret1 (v := .bool _) rfl rfl ⟨ret_false rfl fun h => hc ?_, fun _ h => h.below⟩
      rw [hcr, key h (hasB_iff.2 (by assumption))]
    all_goals
      refine qround_normal ?_ ⟨k + 1, ⟨rfl, trivial⟩, ⟨by omega, fun x hx hb => ?_⟩, by omega, fun _ h => h⟩
      · repeat (first | exact same_refl | refine same_upd rfl ?_ | refine same_junk rfl ?_)
      · by_cases hvk : x < k
        · exact hok x hvk hb
        · obtain rfl : x = k := by omega
          first | (rw [hcr] at hc; omega) | exact (hc (hasB_iff.1 hb)).elim
  · repeat' (first | apply pwp_seq | apply pwp_region | (apply px_run; (first | (apply opv_move; first | exact hid_int rfl) | (apply opv_assign; first | exact hid_bool rfl) | (apply opv_lss <;> rfl) | (apply opv_field fld_G0; rfl) | (apply opv_load_blk 0; (first | with_reducible exact sc_int); rfl; rfl; rfl)); rfl; rfl) | apply px_nil | apply qseq_normal | apply qseq_exit | (apply qblock_exit_same; rfl) | apply pwp_exit | apply pwp_ret | apply qround_exit | (apply pwp_cond_dec; rfl; all_goals (intro hc; try (first | (exfalso; omega)))))
    refine qbody_ret1 (v := .bool _) rfl rfl ⟨ret_true rfl ⟨⟨hg, hs⟩, fun v hv => hok v (by omega)⟩, fun _ h => h.below⟩
theorem en_s_IsSplitPartition : Entry Tryz.prog 63 := ⟨_, Tryz.func63, by kernel_rfl, rfl⟩
theorem s_IsSplitPartition_c (size : Int) (sv : Value) (rows : List Int) (s : Int) (w : World) (hr : Arr w sv (ints rows)) :
    Pure Tryz.prog 63 #[.agg #[.int .i64 size, sv], .int .i64 s] w (.bool (decide (splitP size rows s))) := by
  refine pure_enter (args := [_, _]) en_s_IsSplitPartition Tryz.func63 rfl Tryz.ntmps63 rfl ?_
  by_cases hg : IsG size rows ∧ 0 ≤ s ∧ s < ishl 1 size
  · have hsz : 0 ≤ size ∧ size ≤ 7 := ⟨by have := hg.1.1.1; omega, hg.1.1.2⟩
    obtain ⟨hp, h2, h3⟩ := shl1 hsz
    obtain ⟨hg1, hg2, hg3⟩ := id hg
    obtain ⟨hz1, hz2⟩ := hsz
    repeat' (first | apply pwp_seq | apply pwp_region | (apply px_run; (first | (apply opv_move; first | exact hid_int rfl | exact hid_bool rfl) | (apply opv_assign; first | exact hid_bool rfl) | (apply opv_pick_t <;> rfl) | (apply opv_pick_f <;> rfl) | (apply opv_sub_in; rfl; rfl; omega) | (apply opv_shl; rfl; rfl; omega) | (apply opv_field fld_G0; rfl) | (apply opv_load_blk 0; (first | with_reducible exact sc_int); rfl; rfl; rfl) | (apply opv_load_str 0 st_G; rfl; rfl; rfl) | (apply opv_call; rfl; rfl; exact Cl.stable _ _ _; exact fun w hw => s_IsClique_c _ _ rows _ _ (by first | exact hw.arr (by assumption))) | (apply opv_call; rfl; rfl; exact Cl.stable _ _ _; exact fun w hw => s_IsIndependent_c _ _ rows _ _ (by first | exact hw.arr (by assumption)))); rfl; rfl) | apply px_nil | (apply px_skip; rfl; rfl) | apply qseq_normal | apply pwp_ret | (apply pwp_region_mix; kernel_rfl; decide +kernel; exact Cl.stable _ _ _) | (apply px_guard_dec; rfl; rfl; rfl; all_goals (intro hc; try (first | fail))) | (apply px_box; rfl; rfl; rfl; rfl; intro bk))
    · refine qbody_ret1 (v := .bool (decide _)) rfl rfl ⟨ret_iff ⟨fun h => ⟨by assumption, h⟩, fun h => h.2⟩, fun _ h => h.below⟩
    · refine qbody_ret1 (v := .bool _) rfl rfl ⟨ret_false rfl fun h => hc h.1, fun _ h => h.below⟩
  · have hneg : ¬ cliqueP size rows s := fun h => hg h.1
    repeat' (first | apply pwp_seq | apply pwp_region | (apply px_run; (first | (apply opv_move; first | exact hid_int rfl | exact hid_bool rfl) | (apply opv_assign; first | exact hid_bool rfl) | (apply opv_pick_f <;> rfl) | (apply opv_field fld_G0; rfl) | (apply opv_load_str 0 st_G; rfl; rfl; rfl) | (apply opv_call; rfl; rfl; exact Cl.stable _ _ _; exact fun w hw => s_IsClique_c _ _ rows _ _ (by first | exact hw.arr (by assumption)))); rfl; rfl) | apply px_nil | (apply px_skip; rfl; rfl) | apply qseq_normal | apply pwp_ret | (apply pwp_region_mix; kernel_rfl; decide +kernel; exact Cl.stable _ _ _) | (apply px_guard_dec; rfl; rfl; rfl; all_goals (intro hc; try (first | contradiction))) | (apply px_box; rfl; rfl; rfl; rfl; intro bk))
    refine qbody_ret1 (v := .bool _) rfl rfl ⟨ret_false rfl fun h => hneg h.1, fun _ h => h.below⟩
end Go.Proofs.YtdenkbephkfifaaGreat
