/- Splits found; fewest covers. -/
import Derived.Test.YtdenkbephkfifaaGreatCq
namespace Go.Proofs.YtdenkbephkfifaaGreat
open Go Go.RowKit Go.Pw

theorem en_s_SplitOf : Entry Tryz.prog 36 := ⟨_, Tryz.func36, by kernel_rfl, rfl⟩
set_option maxHeartbeats 400000 in
theorem s_SplitOf_c (size : Int) (sv : Value) (rows : List Int) (w : World) (hr : Arr w sv (ints rows)) :
    Pure Tryz.prog 36 #[.agg #[.int .i64 size, sv]] w (.tuple #[.int .i64 (leastX (IsG size rows) (fun s => decide (splitP size rows s)) (ishl 1 size)), .bool (leastB (IsG size rows) (fun s => decide (splitP size rows s)) (ishl 1 size))]) := by
  refine pure_enter (args := [_]) en_s_SplitOf Tryz.func36 rfl Tryz.ntmps36 rfl ?_
  by_cases hg : IsG size rows
  · have hsz : 0 ≤ size ∧ size ≤ 7 := ⟨by have := hg.1; omega, hg.1.2⟩
    obtain ⟨h1, h2, h3⟩ := shl1 hsz
    obtain ⟨hz1, hz2⟩ := hsz
    rw [leastX, leastB, if_pos hg, if_pos hg]
    obtain ⟨N, hN⟩ := Int.eq_ofNat_of_zero_le (show 0 ≤ ishl 1 size by omega)
    rw [hN] at h2 h3
    have hN' : (ishl 1 size).toNat = N := by rw [hN]; rfl
    rw [hN']
    generalize hp : (fun s => decide (splitP size rows s)) = p
    repeat' (first | apply pwp_seq | apply pwp_region | (apply px_run; (first | (apply opv_assign; first | exact hid_int rfl | exact hid_bool rfl)); rfl; rfl) | apply px_nil | apply qseq_normal | apply pwp_block | (apply px_box; rfl; rfl; rfl; rfl; intro bk))
    refine pwp_loop (τ := Nat) [(2,19)] (fun k => [(4, .int .i64 (k : Int))]) (fun _ => Cl [] w [.blk bk [.int .i64 size, sv]]) (fun k => k ≤ N ∧ leastU p k = none) (fun k => N - k) 0
      ⟨rfl, trivial⟩ ⟨Nat.zero_le _, rfl⟩ (fun _ h => h) (fun J k hk => ?_)
    obtain ⟨hk, hno⟩ := hk
    by_cases hlt : k < N
    · have hs := leastU_succ p k
      rw [hno] at hs
      repeat' (first | apply pwp_seq | apply pwp_region | (apply px_run; (first | (apply opv_move; first | exact hid_int rfl | exact hid_bool rfl) | (apply opv_assign; first | exact hid_int rfl | exact hid_bool rfl) | (apply opv_lss <;> rfl) | (apply opv_pick_t <;> rfl) | (apply opv_add_in; rfl; rfl; omega) | (apply opv_shl; rfl; rfl; omega) | (apply opv_field fld_G0; rfl) | (apply opv_load_blk 0; (first | with_reducible exact sc_int); rfl; rfl; rfl) | (apply opv_load_str 0 st_G; rfl; rfl; rfl) | (apply opv_call; rfl; rfl; exact Cl.stable _ _ _; exact fun w hw => s_IsGraph_c _ _ rows _ (by first | exact hw.arr (by assumption))) | (apply opv_call; rfl; rfl; exact Cl.stable _ _ _; exact fun w hw => s_IsSplitPartition_c _ _ rows _ _ (by first | exact hw.arr (by assumption)))); rfl; rfl) | apply px_nil | apply qseq_normal | apply qseq_ret | apply pwp_block | apply qblock_normal | apply qblock_ret | apply pwp_skip | apply pwp_ret | apply qround_ret | (apply px_guard_dec; rfl; rfl; rfl; all_goals (intro hc; try (first | contradiction))) | (apply pwp_cond_dec; rfl; all_goals (intro hc; try (first | (exfalso; omega)))))
      · refine qbody_ret2 (v := .int _ _) (v' := .bool _) rfl rfl rfl ⟨?_, fun _ h => h.below⟩
        have hpk : p k = true := by rw [← hp]; exact decide_eq_true hc
        rw [hpk] at hs
        rw [leastU_mono hs (by omega)]; rfl
      · refine qround_normal ?_ ⟨k + 1, ⟨rfl, trivial⟩, ⟨by omega, ?_⟩, by omega, fun _ h => h⟩
        · repeat (first | exact same_refl | refine same_upd rfl ?_ | refine same_junk rfl ?_)
        · have hpk : p k = false := by rw [← hp]; exact decide_eq_false hc
          rw [hs, hpk]; rfl
    · repeat' (first | apply pwp_seq | apply pwp_region | (apply px_run; (first | (apply opv_move; first | exact hid_int rfl | exact hid_bool rfl) | (apply opv_assign; first | exact hid_int rfl | exact hid_bool rfl) | (apply opv_lss <;> rfl) | (apply opv_pick_t <;> rfl) | (apply opv_shl; rfl; rfl; omega) | (apply opv_field fld_G0; rfl) | (apply opv_load_blk 0; (first | with_reducible exact sc_int); rfl; rfl; rfl) | (apply opv_load_str 0 st_G; rfl; rfl; rfl) | (apply opv_call; rfl; rfl; exact Cl.stable _ _ _; exact fun w hw => s_IsGraph_c _ _ rows _ (by first | exact hw.arr (by assumption)))); rfl; rfl) | apply px_nil | apply qseq_normal | apply qseq_exit | (apply qblock_exit_same; rfl) | apply pwp_exit | apply pwp_ret | apply qround_exit | (apply px_guard_dec; rfl; rfl; rfl; all_goals (intro hc; try (first | contradiction))) | (apply pwp_cond_dec; rfl; all_goals (intro hc; try (first | (exfalso; omega)))))
      obtain rfl : k = N := by omega
      refine qbody_ret2 (v := .int _ _) (v' := .bool _) rfl rfl rfl ⟨?_, fun _ h => h.below⟩
      rw [hno]; rfl
  · repeat' (first | apply pwp_seq | apply pwp_region | (apply px_run; (first | (apply opv_assign; first | exact hid_int rfl | exact hid_bool rfl)); rfl; rfl) | apply px_nil | apply qseq_normal | apply pwp_block | (apply px_box; rfl; rfl; rfl; rfl; intro bk))
    refine pwp_loop_once ?_
    repeat' (first | apply pwp_seq | apply pwp_region | (apply px_run; (first | (apply opv_move; first | exact hid_int rfl | exact hid_bool rfl) | (apply opv_assign; first | exact hid_int rfl | exact hid_bool rfl) | (apply opv_pick_f <;> rfl) | (apply opv_field fld_G0; rfl) | (apply opv_load_str 0 st_G; rfl; rfl; rfl) | (apply opv_call; rfl; rfl; exact Cl.stable _ _ _; exact fun w hw => s_IsGraph_c _ _ rows _ (by first | exact hw.arr (by assumption)))); rfl; rfl) | apply px_nil | (apply px_skip; rfl; rfl) | apply qseq_normal | apply qseq_exit | (apply qblock_exit_same; rfl) | apply pwp_exit | apply pwp_ret | apply qonce_exit | (apply pwp_cond_f; rfl) | (apply px_guard_dec; rfl; rfl; rfl; all_goals (intro hc; try (first | contradiction))))
    refine qbody_ret2 (v := .int _ _) (v' := .bool _) rfl rfl rfl ⟨?_, fun _ h => h.below⟩
    rw [leastX, leastB, if_neg hg, if_neg hg]
theorem en_s_IsSplit : Entry Tryz.prog 13 := ⟨_, Tryz.func13, by kernel_rfl, rfl⟩
theorem s_IsSplit_c (size : Int) (sv : Value) (rows : List Int) (w : World) (hr : Arr w sv (ints rows)) :
    Pure Tryz.prog 13 #[.agg #[.int .i64 size, sv]] w (.bool (leastB (IsG size rows) (fun s => decide (splitP size rows s)) (ishl 1 size))) := by
  refine pure_enter (args := [_]) en_s_IsSplit Tryz.func13 rfl Tryz.ntmps13 rfl ?_
  repeat' (first | apply pwp_seq | apply pwp_region | (apply px_run; (first | (apply opv_move; first | exact hid_bool rfl | rfl) | (apply opv_assign; first | exact hid_int rfl | exact hid_bool rfl) | (apply opv_load_str 0 st_G; rfl; rfl; rfl) | (apply opv_extract; rfl; rfl) | (apply opv_call; rfl; rfl; exact Cl.stable _ _ _; exact fun w hw => s_SplitOf_c _ _ rows _ (by first | exact hw.arr (by assumption)))); rfl; rfl) | apply px_nil | apply qseq_normal | apply pwp_ret | (apply px_box; rfl; rfl; rfl; rfl; intro bk))
  refine qbody_ret1 (v := .bool _) rfl rfl ⟨rfl, fun _ h => h.below⟩
end Go.Proofs.YtdenkbephkfifaaGreat
