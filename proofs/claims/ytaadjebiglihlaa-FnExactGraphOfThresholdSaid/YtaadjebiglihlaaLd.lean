/- Lists of different vertices; odd cycles; permutation models. -/
import Derived.Test.YtaadjebiglihlaaCq
import Derived.Test.YtaadjebiglihlaaPwPld
namespace Go.Proofs.Ytaadjebiglihlaa
open Go Go.RowKit Go.Pw

theorem en_s_SetOf : Entry Try.prog 67 := ⟨_, Try.func67, by kernel_rfl, rfl⟩
set_option maxHeartbeats 800000 in
theorem s_SetOf_c (lv : Value) (l : List Int) (w : World) (hv : Arr w lv (ints l)) :
    Pure Try.prog 67 #[lv] w (.tuple #[.int .i64 (setX l), .bool (decide (okS l))]) := by
  refine pure_enter (args := [_]) en_s_SetOf Try.func67 rfl Try.ntmps67 rfl ?_
  have hl := hv.len
  repeat' (first | apply pwp_seq | apply pwp_region | (apply px_run; (first | (apply opv_assign; first | exact hid_int rfl | exact hid_bool rfl)); rfl; rfl) | apply px_nil | apply qseq_normal | apply pwp_block)
  refine pwp_loop (τ := Nat) [(2,34)] (fun k => [(5, .int .i64 (k : Int)), (4, .int .i64 (setU l k))]) (fun _ => Cl [] w [])
    (fun k => k ≤ l.length ∧ (∀ i, i < k → 0 ≤ l.getD i 0 ∧ l.getD i 0 ≤ 6) ∧ ∀ i, i < k → ∀ j, j < i → l.getD j 0 ≠ l.getD i 0) (fun k => l.length - k) 0
    ⟨rfl, rfl, trivial⟩ ⟨Nat.zero_le _, fun v hv => by omega, fun v hv => by omega⟩ (fun _ h => h) (fun J k hk => ?_)
  obtain ⟨hk, hok, hap⟩ := hk
  obtain ⟨S, e1, e2, e3⟩ := setU_nat l k hok hap
  by_cases hlt : k < l.length
  · by_cases hin : 0 ≤ l.getD k 0 ∧ l.getD k 0 ≤ 6
    · obtain ⟨hi1, hi2⟩ := id hin
      obtain ⟨_, hy2, hy3⟩ := shl1 (n := l.getD k 0) ⟨by omega, by omega⟩
      repeat' (first | apply pwp_seq | apply pwp_region | (apply px_run; (first | (apply opv_move; first | exact hid_int rfl | exact hid_bool rfl | rfl) | (apply opv_assign; first | exact hid_int rfl | exact hid_bool rfl) | (apply opv_lss <;> rfl) | (apply opv_eql <;> rfl) | (apply opv_and <;> rfl) | (apply opv_pick_f <;> rfl) | (apply opv_not_dec <;> rfl) | (apply opv_add_in; rfl; rfl; omega) | (apply opv_shl; rfl; rfl; omega) | (apply opv_shr; rfl; rfl; omega) | (apply opv_load_ints sc_int; rfl; (first | exact rd_old (by assumption)); (first | omega)) | (apply opv_index_nat (vs := ints _) el_int; rfl; rfl; (first | exact rd_old (by assumption)); (first | (simp only [ints_length]; omega))) | (apply opv_len_ints el_int; rfl; (first | exact rd_old (by assumption))) | (apply opv_call; rfl; rfl; exact Cl.stable _ _ _; exact fun w hw => s_l1In_c _ _ _ _)); rfl; rfl) | apply px_nil | apply qseq_normal | apply qseq_ret | apply pwp_block | apply qblock_normal | apply qblock_ret | apply pwp_skip | apply pwp_ret | apply qround_ret | (apply px_guard_ndec; rfl; rfl; rfl; all_goals (intro hc; try (first | contradiction))) | (apply pwp_cond_dec; rfl; all_goals (intro hc; try (first | (exfalso; omega)))))
      · refine qbody_ret2 (v := .int _ _) (v' := .bool _) rfl rfl rfl ⟨?_, fun _ h => h.below⟩
        obtain ⟨y, hy⟩ := Int.eq_ofNat_of_zero_le hi1
        have hn : ¬ okS l := fun h => by
          have hb := hasB_iff.2 hc
          rw [e1, hy, hasB_nat (by omega) (by omega), e3 y (by omega)] at hb
          obtain ⟨i, hi, e⟩ := hb
          exact h.2 k hlt i hi (by rw [e, hy])
        rw [setX, if_neg hn, decide_eq_false hn]
      · refine qround_normal ?_ ⟨k + 1, ⟨rfl, rfl, trivial⟩, ⟨by omega, fun x hx => ?_, fun x hx j hj => ?_⟩, by omega, fun _ h => h⟩
        · repeat (first | exact same_refl | refine same_upd rfl ?_ | refine same_junk rfl ?_)
        · by_cases hvk : x < k
          · exact hok x hvk
          · obtain rfl : x = k := by omega
            exact hin
        · by_cases hvk : x < k
          · exact hap x hvk j hj
          · obtain rfl : x = k := by omega
            intro e
            obtain ⟨y, hy⟩ := Int.eq_ofNat_of_zero_le hi1
            apply hc
            rw [← hasB_iff, e1, hy, hasB_nat (by omega) (by omega), e3 y (by omega)]
            exact ⟨j, hj, by rw [e, hy]⟩
    · repeat' (first | apply pwp_seq | apply pwp_region | (apply px_run; (first | (apply opv_move; first | exact hid_int rfl | exact hid_bool rfl | rfl) | (apply opv_assign; first | exact hid_int rfl | exact hid_bool rfl) | (apply opv_lss <;> rfl) | (apply opv_pick_t <;> rfl) | (apply opv_not_dec <;> rfl) | (apply opv_load_ints sc_int; rfl; (first | exact rd_old (by assumption)); (first | omega)) | (apply opv_index_nat (vs := ints _) el_int; rfl; rfl; (first | exact rd_old (by assumption)); (first | (simp only [ints_length]; omega))) | (apply opv_len_ints el_int; rfl; (first | exact rd_old (by assumption))) | (apply opv_call; rfl; rfl; exact Cl.stable _ _ _; exact fun w hw => s_l1In_c _ _ _ _)); rfl; rfl) | apply px_nil | (apply px_skip; rfl; rfl) | apply qseq_normal | apply qseq_ret | apply pwp_block | apply qblock_ret | apply pwp_skip | apply pwp_ret | apply qround_ret | (apply pwp_cond_t; rfl) | (apply px_guard_ndec; rfl; rfl; rfl; all_goals (intro hc; try (first | contradiction))) | (apply pwp_cond_dec; rfl; all_goals (intro hc; try (first | (exfalso; omega)))))
      refine qbody_ret2 (v := .int _ _) (v' := .bool _) rfl rfl rfl ⟨?_, fun _ h => h.below⟩
      have hn : ¬ okS l := fun h => hin (h.1 k hlt)
      rw [setX, if_neg hn, decide_eq_false hn]
  · repeat' (first | apply pwp_seq | apply pwp_region | (apply px_run; (first | (apply opv_move; first | exact hid_int rfl | rfl) | (apply opv_assign; first | exact hid_int rfl | exact hid_bool rfl) | (apply opv_lss <;> rfl) | (apply opv_len_ints el_int; rfl; (first | exact rd_old (by assumption)))); rfl; rfl) | apply px_nil | apply qseq_normal | apply qseq_exit | (apply qblock_exit_same; rfl) | apply pwp_exit | apply pwp_ret | apply qround_exit | (apply pwp_cond_dec; rfl; all_goals (intro hc; try (first | (exfalso; omega)))))
    obtain rfl : k = l.length := by omega
    refine qbody_ret2 (v := .int _ _) (v' := .bool _) rfl rfl rfl ⟨?_, fun _ h => h.below⟩
    have hy : okS l := ⟨hok, hap⟩
    rw [setX, if_pos hy, decide_eq_true hy]
end Go.Proofs.Ytaadjebiglihlaa
