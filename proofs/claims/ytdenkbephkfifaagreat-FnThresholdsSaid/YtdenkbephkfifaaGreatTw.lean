/- Threshold weights. -/
import Derived.Test.YtdenkbephkfifaaGreatGs
import Derived.Test.YtdenkbephkfifaaGreatPwMod
namespace Go.Proofs.YtdenkbephkfifaaGreat
open Go Go.RowKit Go.Pw

theorem en_i_AreThresholdWeights : Entry Tryz.prog 16 := ⟨_, Tryz.func16, by kernel_rfl, rfl⟩
set_option maxHeartbeats 1000000 in
theorem i_AreThresholdWeights_c (size : Int) (sv sw : Value) (rows ws : List Int) (t : Int) (w : World) (hr : Arr w sv (ints rows)) (hw0 : Arr w sw (ints ws)) :
    Pure Tryz.prog 16 #[.agg #[.int .i64 size, sv], sw, .int .i64 t] w (.bool (decide (weightsP size rows ws t))) := by
  refine pure_enter (args := [_, _, _]) en_i_AreThresholdWeights Tryz.func16 rfl Tryz.ntmps16 rfl ?_
  have hlen := hw0.len
  repeat' (first | apply pwp_seq | apply pwp_region | (apply px_run; (first | (apply opv_move; first | exact hid_int rfl | exact hid_bool rfl | rfl) | (apply opv_assign; first | exact hid_bool rfl) | (apply opv_neq <;> rfl) | (apply opv_pick_t <;> rfl) | (apply opv_pick_f <;> rfl) | (apply opv_not_dec <;> rfl) | (apply opv_field fld_G0; rfl) | (apply opv_load_blk 0; (first | with_reducible exact sc_int); rfl; rfl; rfl) | (apply opv_len_ints el_int; rfl; (first | exact rd_old (by assumption))) | (apply opv_load_str 0 st_G; rfl; rfl; rfl) | (apply opv_call; rfl; rfl; exact Cl.stable _ _ _; exact fun w hw => i_IsGraph_c _ _ rows _ (by first | exact hw.arr (by assumption))) | (apply opv_call; rfl; rfl; exact Cl.stable _ _ _; exact fun w hw => i_within_c _ _ _ _)); rfl; rfl) | apply px_nil | (apply px_skip; rfl; rfl) | apply qseq_normal | apply qseq_ret | apply pwp_block | apply pwp_skip | apply pwp_ret | (apply pwp_cond_t; rfl) | (apply px_guard_ndec; rfl; rfl; rfl; all_goals (intro hc; try (first | fail))) | (apply pwp_cond_ndec; rfl; all_goals (intro hc; try (first | fail))) | (apply px_box; rfl; rfl; rfl; rfl; intro bk))
  all_goals try (refine qbody_ret1 (v := .bool _) rfl rfl ⟨ret_false rfl fun h => hc ?_, fun _ h => h.below⟩; first | exact h.1 | exact h.2.1 | exact h.2.2.1)
  · rename_i hg hl
    obtain ⟨n, hn, hrl, _, hn7⟩ := isG_size hg
    refine pwp_loop (τ := Nat) [(6,9), (27,56)] (fun k => [(27, .int .i64 (k : Int))]) (fun _ => Cl [] w [.blk bk [.int .i64 size, sv]])
      (fun k => k ≤ ws.length ∧ (∀ v, v < k → 0 ≤ ws.getD v 0 ∧ ws.getD v 0 ≤ 1000000) ∧ ∀ v, v < k → ∀ u, u < v → weighs rows ws t v u) (fun k => ws.length - k) 0
      ⟨rfl, trivial⟩ ⟨Nat.zero_le _, fun v hv => by omega, fun v hv => by omega⟩ (fun _ h => h) (fun J k hk => ?_)
    obtain ⟨hk, hok, hwe⟩ := hk
    by_cases hlt : k < ws.length
    · repeat' (first | apply pwp_seq | apply pwp_region | (apply px_run; (first | (apply opv_move; first | exact hid_int rfl) | (apply opv_assign; first | exact hid_int rfl | exact hid_bool rfl) | (apply opv_lss <;> rfl) | (apply opv_not_dec <;> rfl) | (apply opv_load_ints sc_int; rfl; (first | exact rd_old (by assumption)); (first | omega)) | (apply opv_index_nat (vs := ints _) el_int; rfl; rfl; (first | exact rd_old (by assumption)); (first | (simp only [ints_length]; omega))) | (apply opv_call; rfl; rfl; exact Cl.stable _ _ _; exact fun w hw => i_within_c _ _ _ _)); rfl; rfl) | apply px_nil | apply qseq_normal | apply qseq_ret | apply pwp_block | apply qblock_ret | apply pwp_skip | apply pwp_ret | apply qround_ret | (apply pwp_cond_ndec; rfl; all_goals (intro hc; try (first | fail))) | (apply pwp_cond_dec; rfl; all_goals (intro hc; try (first | (exfalso; omega)))))
      · refine qbody_ret1 (v := .bool _) rfl rfl ⟨ret_false rfl fun h => hc (h.2.2.2.1 k hlt), fun _ h => h.below⟩
      · have hin := hc
        refine pwp_loop (τ := Nat) [(6,6), (9,9), (36,55)] (fun u => [(36, .int .i64 (u : Int))]) (fun _ => Cl [] w [.blk bk [.int .i64 size, sv]]) (fun u => u ≤ k ∧ ∀ x, x < u → weighs rows ws t k x) (fun u => k - u) 0
          ⟨rfl, trivial⟩ ⟨Nat.zero_le _, fun v hv => by omega⟩ (fun _ h => h) (fun J3 u hu => ?_)
        obtain ⟨hu, hsu⟩ := hu
        by_cases hlu : u < k
        · obtain ⟨hb1, hb2⟩ := hok u hlu
          repeat' (first | apply pwp_seq | apply pwp_region | (apply px_run; (first | (apply opv_move; first | exact hid_int rfl | rfl) | (apply opv_assign; first | exact hid_int rfl | exact hid_bool rfl) | (apply opv_lss <;> rfl) | (apply opv_gtr <;> rfl) | (apply opv_add_in; rfl; rfl; omega) | (apply opv_field fld_G1; rfl) | (apply opv_load_blk 0; (first | with_reducible exact sc_int | with_reducible exact sc_ints); rfl; rfl; rfl) | (apply opv_load_ints sc_int; rfl; (first | exact rd_old (by assumption)); (first | omega)) | (apply opv_index_nat (vs := ints _) el_int; rfl; rfl; (first | exact rd_old (by assumption)); (first | (simp only [ints_length]; omega))) | (apply opv_call; rfl; rfl; exact Cl.stable _ _ _; exact fun w hw => i_has_c _ _ _ (by omega)) | (apply opv_neq_bool ty_bool <;> rfl)); rfl; rfl) | apply px_nil | apply qseq_normal | apply qseq_ret | apply pwp_block | apply qblock_normal | apply qblock_ret | apply pwp_skip | apply pwp_ret | apply qround_ret | (apply pwp_region_draw; kernel_rfl; kernel_rfl; exact Cl.stable _ _ _) | (apply pwp_cond_dec; rfl; all_goals (intro hc; try (first | (exfalso; omega)))) | (apply pwp_cond_not; rfl; all_goals (intro hc; try (first | fail))))
          · refine qbody_ret1 (v := .bool _) rfl rfl ⟨ret_false rfl fun h => ?_, fun _ h => h.below⟩
            have := h.2.2.2.2 k hlt u hlu; simp [weighs] at this; simp [this] at hc
          · refine qround_normal ?_ ⟨u + 1, ⟨rfl, trivial⟩, ⟨by omega, fun x hx => ?_⟩, by omega, fun _ h => h⟩
            · repeat (first | exact same_refl | refine same_upd rfl ?_ | refine same_junk rfl ?_)
            · by_cases hvk : x < u
              · exact hsu x hvk
              · obtain rfl : x = u := by omega
                simpa [weighs] using hc
        · repeat' (first | apply pwp_seq | apply pwp_region | (apply px_run; (first | (apply opv_move; first | exact hid_int rfl) | (apply opv_lss <;> rfl) | (apply opv_add_in; rfl; rfl; omega)); rfl; rfl) | apply px_nil | apply qseq_normal | apply qseq_exit | apply qblock_normal | (apply qblock_exit_same; rfl) | apply pwp_exit | apply qround_exit | (apply pwp_cond_dec; rfl; all_goals (intro hc; try (first | (exfalso; omega)))))
          refine qround_normal ?_ ⟨k + 1, ⟨rfl, trivial⟩, ⟨by omega, fun x hx => ?_, fun x hx => ?_⟩, by omega, fun _ h => h⟩
          · repeat (first | exact same_refl | refine same_upd rfl ?_ | refine same_junk rfl ?_)
          · by_cases hvk : x < k
            · exact hok x hvk
            · obtain rfl : x = k := by omega
              exact hin
          · by_cases hvk : x < k
            · exact hwe x hvk
            · obtain rfl : x = k := by omega
              exact fun u hu => hsu u (by omega)
    · repeat' (first | apply pwp_seq | apply pwp_region | (apply px_run; (first | (apply opv_assign; first | exact hid_bool rfl) | (apply opv_lss <;> rfl)); rfl; rfl) | apply px_nil | apply qseq_normal | apply qseq_exit | (apply qblock_exit_same; rfl) | apply pwp_exit | apply pwp_ret | apply qround_exit | (apply pwp_cond_dec; rfl; all_goals (intro hc; try (first | (exfalso; omega)))))
      obtain rfl : k = ws.length := by omega
      refine qbody_ret1 (v := .bool _) rfl rfl ⟨ret_true rfl ⟨hg, hl, by assumption, hok, hwe⟩, fun _ h => h.below⟩
theorem en_s_AreThresholdWeights : Entry Tryz.prog 24 := ⟨_, Tryz.func24, by kernel_rfl, rfl⟩
set_option maxHeartbeats 1000000 in
theorem s_AreThresholdWeights_c (size : Int) (sv sw : Value) (rows ws : List Int) (t : Int) (w : World) (hr : Arr w sv (ints rows)) (hw0 : Arr w sw (ints ws)) :
    Pure Tryz.prog 24 #[.agg #[.int .i64 size, sv], sw, .int .i64 t] w (.bool (decide (weightsP size rows ws t))) := by
  refine pure_enter (args := [_, _, _]) en_s_AreThresholdWeights Tryz.func24 rfl Tryz.ntmps24 rfl ?_
  have hlen := hw0.len
  repeat' (first | apply pwp_seq | apply pwp_region | (apply px_run; (first | (apply opv_move; first | exact hid_int rfl | exact hid_bool rfl | rfl) | (apply opv_assign; first | exact hid_int rfl | exact hid_bool rfl) | (apply opv_neq <;> rfl) | (apply opv_pick_t <;> rfl) | (apply opv_pick_f <;> rfl) | (apply opv_not_dec <;> rfl) | (apply opv_field fld_G0; rfl) | (apply opv_load_blk 0; (first | with_reducible exact sc_int); rfl; rfl; rfl) | (apply opv_len_ints el_int; rfl; (first | exact rd_old (by assumption))) | (apply opv_load_str 0 st_G; rfl; rfl; rfl) | (apply opv_call; rfl; rfl; exact Cl.stable _ _ _; exact fun w hw => s_IsGraph_c _ _ rows _ (by first | exact hw.arr (by assumption))) | (apply opv_call; rfl; rfl; exact Cl.stable _ _ _; exact fun w hw => s_l1In_c _ _ _ _)); rfl; rfl) | apply px_nil | (apply px_skip; rfl; rfl) | apply qseq_normal | apply qseq_ret | apply pwp_block | apply pwp_skip | apply pwp_ret | (apply pwp_cond_t; rfl) | (apply px_guard_ndec; rfl; rfl; rfl; all_goals (intro hc; try (first | fail))) | (apply pwp_cond_ndec; rfl; all_goals (intro hc; try (first | fail))) | (apply px_box; rfl; rfl; rfl; rfl; intro bk))
  all_goals try (refine qbody_ret1 (v := .bool _) rfl rfl ⟨ret_false rfl fun h => hc ?_, fun _ h => h.below⟩; first | exact h.1 | exact h.2.1 | exact h.2.2.1)
  · rename_i hg hl
    obtain ⟨n, hn, hrl, _, hn7⟩ := isG_size hg
    refine pwp_loop (τ := Nat) [(6,7), (25,36)] (fun k => [(7, .int .i64 (k : Int))]) (fun _ => Cl [] w [.blk bk [.int .i64 size, sv]])
      (fun k => k ≤ ws.length ∧ (∀ v, v < k → 0 ≤ ws.getD v 0 ∧ ws.getD v 0 ≤ 1000000)) (fun k => ws.length - k) 0
      ⟨rfl, trivial⟩ ⟨Nat.zero_le _, fun v hv => by omega⟩ (fun _ h => h) (fun J k hk => ?_)
    obtain ⟨hk, hok⟩ := hk
    by_cases hlt : k < ws.length
    · repeat' (first | apply pwp_seq | apply pwp_region | (apply px_run; (first | (apply opv_move; first | exact hid_int rfl | rfl) | (apply opv_assign; first | exact hid_int rfl | exact hid_bool rfl) | (apply opv_lss <;> rfl) | (apply opv_not_dec <;> rfl) | (apply opv_add_in; rfl; rfl; omega) | (apply opv_field fld_G0; rfl) | (apply opv_load_blk 0; (first | with_reducible exact sc_int); rfl; rfl; rfl) | (apply opv_load_ints sc_int; rfl; (first | exact rd_old (by assumption)); (first | omega)) | (apply opv_index_nat (vs := ints _) el_int; rfl; rfl; (first | exact rd_old (by assumption)); (first | (simp only [ints_length]; omega))) | (apply opv_call; rfl; rfl; exact Cl.stable _ _ _; exact fun w hw => s_l1In_c _ _ _ _)); rfl; rfl) | apply px_nil | apply qseq_normal | apply qseq_ret | apply pwp_block | apply qblock_normal | apply qblock_ret | apply pwp_skip | apply pwp_ret | apply qround_ret | (apply pwp_cond_ndec; rfl; all_goals (intro hc; try (first | fail))) | (apply pwp_cond_dec; rfl; all_goals (intro hc; try (first | (exfalso; omega)))))
      · refine qbody_ret1 (v := .bool _) rfl rfl ⟨ret_false rfl fun h => hc (h.2.2.2.1 k hlt), fun _ h => h.below⟩
      · refine qround_normal ?_ ⟨k + 1, ⟨rfl, trivial⟩, ⟨by omega, fun x hx => ?_⟩, by omega, fun _ h => h⟩
        · repeat (first | exact same_refl | refine same_upd rfl ?_ | refine same_junk rfl ?_)
        · by_cases hvk : x < k
          · exact hok x hvk
          · obtain rfl : x = k := by omega
            exact hc
    · repeat' (first | apply pwp_seq | apply pwp_region | (apply px_run; (first | (apply opv_move; first | exact hid_int rfl) | (apply opv_assign; first | exact hid_int rfl) | (apply opv_lss <;> rfl) | (apply opv_field fld_G0; rfl) | (apply opv_load_blk 0; (first | with_reducible exact sc_int); rfl; rfl; rfl)); rfl; rfl) | apply px_nil | apply qseq_normal | apply qseq_exit | apply pwp_block | (apply qblock_exit_same; rfl) | apply pwp_exit | apply qround_exit | (apply pwp_cond_dec; rfl; all_goals (intro hc; try (first | (exfalso; omega)))))
      obtain rfl : k = ws.length := by omega
      refine pwp_loop (τ := Nat) [(6,6), (8,9), (37,63)] (fun k => [(8, .int .i64 (k : Int))]) (fun _ => Cl [] w [.blk bk [.int .i64 size, sv]])
        (fun k => k ≤ ws.length ∧ ∀ v, v < k → ∀ u, u < v → weighs rows ws t v u) (fun k => ws.length - k) 0
        ⟨rfl, trivial⟩ ⟨Nat.zero_le _, fun v hv => by omega⟩ (fun _ h => h) (fun J2 v hv => ?_)
      obtain ⟨hv, hwe⟩ := hv
      by_cases hlv : v < ws.length
      · repeat' (first | apply pwp_seq | apply pwp_region | (apply px_run; (first | (apply opv_move; first | exact hid_int rfl) | (apply opv_assign; first | exact hid_int rfl) | (apply opv_lss <;> rfl) | (apply opv_field fld_G0; rfl) | (apply opv_load_blk 0; (first | with_reducible exact sc_int); rfl; rfl; rfl)); rfl; rfl) | apply px_nil | apply qseq_normal | apply pwp_block | apply pwp_skip | (apply pwp_cond_dec; rfl; all_goals (intro hc; try (first | (exfalso; omega)))))
        refine pwp_loop (τ := Nat) [(6,6), (9,9), (43,63)] (fun u => [(9, .int .i64 (u : Int))]) (fun _ => Cl [] w [.blk bk [.int .i64 size, sv]]) (fun u => u ≤ v ∧ ∀ x, x < u → weighs rows ws t v x) (fun u => v - u) 0
          ⟨rfl, trivial⟩ ⟨Nat.zero_le _, fun v hv => by omega⟩ (fun _ h => h) (fun J3 u hu => ?_)
        obtain ⟨hu, hsu⟩ := hu
        by_cases hlu : u < v
        · obtain ⟨hb1, hb2⟩ := hok u (by omega)
          obtain ⟨hb3, hb4⟩ := hok v (by omega)
          repeat' (first | apply pwp_seq | apply pwp_region | (apply px_run; (first | (apply opv_move; first | exact hid_int rfl | rfl) | (apply opv_assign; first | exact hid_int rfl | exact hid_bool rfl) | (apply opv_lss <;> rfl) | (apply opv_gtr <;> rfl) | (apply opv_add_in; rfl; rfl; omega) | (apply opv_load_ints sc_int; rfl; (first | exact rd_old (by assumption)); (first | omega)) | (apply opv_index_nat (vs := ints _) el_int; rfl; rfl; (first | exact rd_old (by assumption)); (first | (simp only [ints_length]; omega))) | (apply opv_load_str 0 st_G; rfl; rfl; rfl) | (apply opv_call; rfl; rfl; exact Cl.stable _ _ _; exact fun w hw => s_l2Edge_c _ _ rows _ _ _ (by first | exact hw.arr (by assumption)) (by omega) (by omega)) | (apply opv_neq_bool ty_bool <;> rfl)); rfl; rfl) | apply px_nil | apply qseq_normal | apply qseq_ret | apply pwp_block | apply qblock_normal | apply qblock_ret | apply pwp_skip | apply pwp_ret | apply qround_ret | (apply pwp_region_draw; kernel_rfl; kernel_rfl; exact Cl.stable _ _ _) | (apply pwp_cond_dec; rfl; all_goals (intro hc; try (first | (exfalso; omega)))) | (apply pwp_cond_not; rfl; all_goals (intro hc; try (first | fail))))
          · refine qbody_ret1 (v := .bool _) rfl rfl ⟨ret_false rfl fun h => ?_, fun _ h => h.below⟩
            have := h.2.2.2.2 v hlv u hlu; simp [weighs] at this; rw [Int.add_comm] at hc; simp [this] at hc
          · refine qround_normal ?_ ⟨u + 1, ⟨rfl, trivial⟩, ⟨by omega, fun x hx => ?_⟩, by omega, fun _ h => h⟩
            · repeat (first | exact same_refl | refine same_upd rfl ?_ | refine same_junk rfl ?_)
            · by_cases hvk : x < u
              · exact hsu x hvk
              · obtain rfl : x = u := by omega
                rw [Int.add_comm] at hc; simpa [weighs] using hc
        · repeat' (first | apply pwp_seq | apply pwp_region | (apply px_run; (first | (apply opv_move; first | exact hid_int rfl) | (apply opv_assign; first | exact hid_int rfl) | (apply opv_lss <;> rfl) | (apply opv_add_in; rfl; rfl; omega)); rfl; rfl) | apply px_nil | apply qseq_normal | apply qseq_exit | apply qblock_normal | (apply qblock_exit_same; rfl) | apply pwp_exit | apply qround_exit | (apply pwp_cond_dec; rfl; all_goals (intro hc; try (first | (exfalso; omega)))))
          refine qround_normal ?_ ⟨v + 1, ⟨rfl, trivial⟩, ⟨by omega, fun x hx => ?_⟩, by omega, fun _ h => h⟩
          · repeat (first | exact same_refl | refine same_upd rfl ?_ | refine same_junk rfl ?_)
          · by_cases hvk : x < v
            · exact hwe x hvk
            · obtain rfl : x = v := by omega
              exact fun u hu => hsu u (by omega)
      · repeat' (first | apply pwp_seq | apply pwp_region | (apply px_run; (first | (apply opv_move; first | exact hid_int rfl) | (apply opv_assign; first | exact hid_bool rfl) | (apply opv_lss <;> rfl) | (apply opv_field fld_G0; rfl) | (apply opv_load_blk 0; (first | with_reducible exact sc_int); rfl; rfl; rfl)); rfl; rfl) | apply px_nil | apply qseq_normal | apply qseq_exit | (apply qblock_exit_same; rfl) | apply pwp_exit | apply pwp_ret | apply qround_exit | (apply pwp_cond_dec; rfl; all_goals (intro hc; try (first | (exfalso; omega)))))
        obtain rfl : v = ws.length := by omega
        refine qbody_ret1 (v := .bool _) rfl rfl ⟨ret_true rfl ⟨hg, hl, by assumption, hok, hwe⟩, fun _ h => h.below⟩
end Go.Proofs.YtdenkbephkfifaaGreat
