/- Least modules. -/
import Derived.Test.YteopfbfcnggbbaaMl
import Derived.Test.YteopfbfcnggbbaaPwPmo
namespace Go.Proofs.Yteopfbfcnggbbaa
open Go Go.RowKit Go.Pw

theorem en_i_LeastModule : Entry Try.prog 15 := ⟨_, Try.func15, by kernel_rfl, rfl⟩
set_option maxHeartbeats 800000 in
theorem i_LeastModule_c (size : Int) (gv : Value) (rows : List Int) (s : Int) (w : World) (hr : Arr w gv (ints rows)) :
    Pure Try.prog 15 #[.agg #[.int .i64 size, gv], .int .i64 s] w (.int .i64 (leastM size rows s)) := by
  refine pure_enter (args := [_, _]) en_i_LeastModule Try.func15 rfl Try.ntmps15 rfl ?_
  have hml := modsL_length size rows
  by_cases hg : (IsG size rows ∧ 0 ≤ s ∧ s < ishl 1 size) ∧ ¬ s = 0
  · obtain ⟨⟨hg1, hg2, hg3⟩, h0⟩ := id hg
    have hg12 := hg.1
    have hsz : 0 ≤ size ∧ size ≤ 7 := ⟨by have := hg1.1; omega, hg1.1.2⟩
    have hme := meet_least hg1 ⟨hg2, hg3⟩ h0
    repeat' (first | apply pwp_seq | apply pwp_region | (apply px_run; (first | (apply opv_move; first | exact hid_int rfl | exact hid_bool rfl) | (apply opv_assign; first | exact hid_int rfl) | (apply opv_eql <;> rfl) | (apply opv_pick_f <;> rfl) | (apply opv_not_dec <;> rfl) | (apply opv_len_ints el_int; rfl; (first | exact rd_row 0 rfl)) | (apply opv_load_str 0 st_G; rfl; rfl; rfl) | (apply opv_call; rfl; rfl; exact Cl.stable _ _ _; exact fun w hw => i_IsSet_c _ _ rows _ _ (by first | exact hw.arr (by assumption))) | (apply opv_call; rfl; rfl; exact Cl.stable _ _ _; exact fun w hw => i_all_c _ _ _ hsz)); rfl; rfl) | apply px_nil | apply qseq_normal | apply pwp_block | apply pwp_skip | (apply px_guard_ndec; rfl; rfl; rfl; all_goals (intro hc; try (first | contradiction))) | (apply pwp_cond_dec; rfl; all_goals (intro hc; try (first | contradiction))) | (apply px_box; rfl; rfl; rfl; rfl; intro bk) | (apply px_gives; rfl; rfl; rfl; rfl; rfl; exact fun w hw => i_ModulesOf_c _ _ rows _ (by first | exact hw.arr (by assumption)); rintro sm _ rfl))
    all_goals try exact (h0 hc).elim
    refine pwp_loop (τ := Nat) [(5,5), (7,7), (21,32)] (fun k => [(21, .int .i64 (k : Int)), (5, .int .i64 (meetF s ((modsL size rows).take k) (ishl 1 size - 1)))])
      (fun _ => Cl [] w [.row 3 sm (ints (modsL size rows)), .blk bk [.int .i64 size, gv]]) (fun k => k ≤ (modsL size rows).length) (fun k => (modsL size rows).length - k) 0
      ⟨rfl, rfl, trivial⟩ (Nat.zero_le _) (fun _ h => h) (fun J k hk => ?_)
    by_cases hlt : k < (modsL size rows).length
    · have hstep := meetF_snoc s ((modsL size rows).take k) ((modsL size rows).getD k 0) (ishl 1 size - 1)
      rw [← take_snoc hlt] at hstep
      repeat' (first | apply pwp_seq | apply pwp_region | (apply px_run; (first | (apply opv_move; first | exact hid_int rfl) | (apply opv_assign; first | exact hid_int rfl) | (apply opv_lss <;> rfl) | (apply opv_eql <;> rfl) | (apply opv_and <;> rfl) | (apply opv_andNot <;> rfl) | (apply opv_add_in; rfl; rfl; omega) | (apply opv_load_ints sc_int; rfl; (first | exact rd_row 0 rfl); (first | omega)) | (apply opv_index_nat (vs := ints _) el_int; rfl; rfl; (first | exact rd_row 0 rfl); (first | (simp only [ints_length]; omega)))); rfl; rfl) | apply px_nil | apply qseq_normal | apply pwp_block | apply qblock_normal | apply pwp_skip | (apply pwp_cond_dec; rfl; all_goals (intro hc; try (first | (exfalso; omega)))))
      all_goals (refine qround_normal ?_ ⟨k + 1, ⟨rfl, ?_, trivial⟩, by omega, by omega, fun _ h => h⟩)
      all_goals (repeat (first | exact same_refl | refine same_upd rfl ?_ | refine same_junk rfl ?_))
      all_goals
        show Value.int .i64 _ = .int .i64 (meetF s ((modsL size rows).take (k + 1)) (ishl 1 size - 1))
        rw [hstep]
        first | rw [if_pos hc] | rw [if_neg hc]
    · repeat' (first | apply pwp_seq | apply pwp_region | (apply px_run; (first | (apply opv_move; first | exact hid_int rfl) | (apply opv_assign; first | exact hid_int rfl) | (apply opv_lss <;> rfl)); rfl; rfl) | apply px_nil | apply qseq_normal | apply qseq_exit | (apply qblock_exit_same; rfl) | apply pwp_exit | apply pwp_ret | apply qround_exit | (apply pwp_cond_dec; rfl; all_goals (intro hc; try (first | (exfalso; omega)))))
      obtain rfl : k = (modsL size rows).length := by omega
      refine qbody_ret1 (v := .int _ _) rfl rfl ⟨by rw [List.take_length, hme], fun _ h => h.below⟩
  · rw [leastM, if_neg hg]
    repeat' (first | apply pwp_seq | apply pwp_region | (apply px_run; (first | (apply opv_move; first | exact hid_int rfl | exact hid_bool rfl) | (apply opv_assign; first | exact hid_int rfl) | (apply opv_eql <;> rfl) | (apply opv_pick_t <;> rfl) | (apply opv_pick_f <;> rfl) | (apply opv_not_dec <;> rfl) | (apply opv_load_str 0 st_G; rfl; rfl; rfl) | (apply opv_call; rfl; rfl; exact Cl.stable _ _ _; exact fun w hw => i_IsSet_c _ _ rows _ _ (by first | exact hw.arr (by assumption)))); rfl; rfl) | apply px_nil | (apply px_skip; rfl; rfl) | apply qseq_normal | apply qseq_ret | apply pwp_skip | apply pwp_ret | (apply pwp_cond_t; rfl) | (apply px_guard_ndec; rfl; rfl; rfl; all_goals (intro hc; try (first | fail))) | (apply pwp_cond_dec; rfl; all_goals (intro hc; try (first | fail))) | (apply px_box; rfl; rfl; rfl; rfl; intro bk))
    all_goals first
      | exact (hg ⟨by assumption, by assumption⟩).elim
      | (refine qbody_ret1 (v := .int _ _) rfl rfl ⟨rfl, fun _ h => h.below⟩)
theorem en_s_LeastModule : Entry Try.prog 24 := ⟨_, Try.func24, by kernel_rfl, rfl⟩
set_option maxHeartbeats 1600000 in
theorem s_LeastModule_c (size : Int) (gv : Value) (rows : List Int) (s : Int) (w : World) (hr : Arr w gv (ints rows)) :
    Pure Try.prog 24 #[.agg #[.int .i64 size, gv], .int .i64 s] w (.int .i64 (leastM size rows s)) := by
  refine pure_enter (args := [_, _]) en_s_LeastModule Try.func24 rfl Try.ntmps24 rfl ?_
  by_cases hg : (IsG size rows ∧ 0 ≤ s ∧ s < ishl 1 size) ∧ ¬ s = 0
  case neg =>
    rw [leastM, if_neg hg]
    repeat' (first | apply pwp_seq | apply pwp_region | (apply px_run; (first | (apply opv_move; first | exact hid_int rfl | exact hid_bool rfl) | (apply opv_assign; first | exact hid_int rfl) | (apply opv_eql <;> rfl) | (apply opv_pick_t <;> rfl) | (apply opv_pick_f <;> rfl) | (apply opv_not_dec <;> rfl) | (apply opv_load_str 0 st_G; rfl; rfl; rfl) | (apply opv_call; rfl; rfl; exact Cl.stable _ _ _; exact fun w hw => s_IsSet_c _ _ rows _ _ (by first | exact hw.arr (by assumption)))); rfl; rfl) | apply px_nil | (apply px_skip; rfl; rfl) | apply qseq_normal | apply qseq_ret | apply pwp_block | apply pwp_skip | apply pwp_ret | (apply pwp_cond_t; rfl) | (apply px_guard_ndec; rfl; rfl; rfl; all_goals (intro hc; try (first | fail))) | (apply pwp_cond_dec; rfl; all_goals (intro hc; try (first | fail))) | (apply px_box; rfl; rfl; rfl; rfl; intro bk))
    all_goals first
      | exact (hg ⟨by assumption, by assumption⟩).elim
      | (refine qbody_ret1 (v := .int _ _) rfl rfl ⟨rfl, fun _ h => h.below⟩)
  obtain ⟨⟨hg1, hg2⟩, h0⟩ := id hg
  have hg12 := hg.1
  obtain ⟨n, hn, hrl, hn1, hn7⟩ := isG_size hg1
  obtain ⟨S, rfl, hS, hS'⟩ := set_nat hn hn7 hg2
  have hng := ng_of hg1 hn
  have hp7 := pow_le7 hn7
  have hres : leastM size rows (S : Int) = (lmN (rowN rows) n S n : Nat) := by rw [leastM, if_pos hg, hn]; simp only [Int.toNat_natCast]
  rw [hres]
  generalize hrr : rowN rows = r at *
  repeat' (first | apply pwp_seq | apply pwp_region | (apply px_run; (first | (apply opv_move; first | exact hid_int rfl | exact hid_bool rfl) | (apply opv_assign; first | exact hid_int rfl) | (apply opv_eql <;> rfl) | (apply opv_pick_f <;> rfl) | (apply opv_not_dec <;> rfl) | (apply opv_load_str 0 st_G; rfl; rfl; rfl) | (apply opv_call; rfl; rfl; exact Cl.stable _ _ _; exact fun w hw => s_IsSet_c _ _ rows _ _ (by first | exact hw.arr (by assumption)))); rfl; rfl) | apply px_nil | apply qseq_normal | apply pwp_block | apply pwp_skip | (apply px_guard_ndec; rfl; rfl; rfl; all_goals (intro hc; try (first | contradiction))) | (apply pwp_cond_dec; rfl; all_goals (intro hc; try (first | contradiction))) | (apply px_box; rfl; rfl; rfl; rfl; intro bk))
  all_goals try exact (h0 hc).elim
  refine pwp_loop (τ := Nat) [(1,1), (5,8), (17,59)] (fun t => [(5, .int .i64 (t : Int)), (1, .int .i64 ((lmN r n S t : Nat) : Int))]) (fun _ => Cl [] w [.blk bk [.int .i64 size, gv]]) (fun t => t ≤ n) (fun t => n - t) 0
    ⟨rfl, rfl, trivial⟩ (Nat.zero_le _) (fun _ h => h) (fun J t ht => ?_)
  by_cases hlt : t < n
  · have hcur := lmN_lt (r := r) hS t
    have hnext : lmN r n S (t + 1) = roundN r (lmN r n S t) n := rfl
    generalize lmN r n S t = D at *
    repeat' (first | apply pwp_seq | apply pwp_region | (apply px_run; (first | (apply opv_move; first | exact hid_int rfl) | (apply opv_assign; first | exact hid_int rfl | rfl) | (apply opv_lss <;> rfl) | (apply opv_field fld_G0; rfl) | (apply opv_load_blk 0; (first | with_reducible exact sc_int); rfl; rfl; rfl)); rfl; rfl) | apply px_nil | apply qseq_normal | apply pwp_block | apply pwp_skip | (apply pwp_cond_dec; rfl; all_goals (intro hc; try (first | (exfalso; omega)))) | (apply px_gives; rfl; rfl; rfl; rfl; rfl; exact fun w hw => s_ListOf_c _ _; rintro sl _ rfl))
    refine pwp_loop (τ := Nat × Value) [(1,1), (6,8), (25,59)] (fun x => [(7, .int .i64 (x.1 : Int)), (1, .int .i64 ((roundN r D x.1 : Nat) : Int)), (6, x.2)]) (fun x => Cl [] w [.row 3 x.2 (ints (listS ((roundN r D x.1 : Nat) : Int))), .blk bk [.int .i64 size, gv]]) (fun x => x.1 ≤ n) (fun x => n - x.1) (0, _)
      ⟨rfl, rfl, rfl, trivial⟩ (Nat.zero_le _) (fun _ h => h) (fun J2 x hx => ?_)
    obtain ⟨v, sl'⟩ := x
    dsimp only at hx ⊢
    by_cases hv : v < n
    · have hD := roundN_lt (r := r) hcur v (by omega)
      have hsucc : roundN r D (v + 1) = stepN r (roundN r D v) v := rfl
      generalize roundN r D v = M at *
      have hR : rows.getD v 0 = (r v : Nat) := by rw [← hrr]; exact rowN_eq hg1 v
      have hRl := hng.lt v
      have hiff := step_iff (R := r v) (S := M) (v := v) (by omega) (by omega) (by omega)
      rw [← hR] at hiff
      have hor : ior ((M : Nat) : Int) (ishl 1 (v : Int)) = ((M ||| 2 ^ v : Nat) : Int) := by rw [ishl_one_nat (by omega), ior_nat (by omega) (by have := Nat.pow_le_pow_right (n := 2) (by omega) (show v ≤ 7 by omega); omega)]
      have hl7 := listS_length ((M : Nat) : Int)
      repeat' (first | apply pwp_seq | apply pwp_region | (apply px_run; (first | (apply opv_move; first | exact hid_int rfl | exact hid_bool rfl | rfl) | (apply opv_assign; first | exact hid_int rfl | rfl) | (apply opv_lss <;> rfl) | (apply opv_gtr <;> rfl) | (apply opv_eql <;> rfl) | (apply opv_and <;> rfl) | (apply opv_or <;> rfl) | (apply opv_pick_t <;> rfl) | (apply opv_pick_f <;> rfl) | (apply opv_add_in; rfl; rfl; omega) | (apply opv_shl; rfl; rfl; omega) | (apply opv_shr; rfl; rfl; omega) | (apply opv_field fld_G0; rfl) | (apply opv_field fld_G1; rfl) | (apply opv_load_blk 1; (first | with_reducible exact sc_int | with_reducible exact sc_ints); rfl; rfl; rfl) | (apply opv_load_ints sc_int; rfl; (first | exact rd_old (by assumption)); (first | omega)) | (apply opv_index_nat (vs := ints _) el_int; rfl; rfl; (first | exact rd_old (by assumption)); (first | (simp only [ints_length]; omega))) | (apply opv_len_ints el_int; rfl; (first | exact rd_row 0 rfl)) | (apply opv_call; rfl; rfl; exact Cl.stable _ _ _; exact fun w hw => s_CountSet_c _ _)); rfl; rfl) | apply px_nil | (apply px_skip; rfl; rfl) | apply qseq_normal | apply pwp_block | apply qblock_normal | apply pwp_skip | (apply pwp_cond_f; rfl) | (apply px_guard_dec; rfl; rfl; rfl; all_goals (intro hc; try (first | fail))) | (apply pwp_cond_dec; rfl; all_goals (intro hc; try (first | (exfalso; omega)))) | (apply px_gives; rfl; rfl; rfl; rfl; rfl; exact fun w hw => s_ListOf_c _ _; rintro sl2 _ rfl))
      · refine qround_normal ?_ ⟨(v + 1, _), ⟨rfl, ?_, rfl, trivial⟩, by dsimp only; omega, by dsimp only; omega, fun w' h => ?_⟩
        · repeat (first | exact same_refl | refine same_upd rfl ?_ | refine same_junk rfl ?_)
        · show Value.int .i64 _ = .int .i64 _
          rw [hsucc, stepN, if_pos (hiff.1 ⟨by assumption, by assumption, by assumption⟩), hor]
        · dsimp only
          rw [hsucc, stepN, if_pos (hiff.1 ⟨by assumption, by assumption, by assumption⟩), ← hor]
          exact Cl.sub (by assumption) (by repeat (first | exact List.Sublist.slnil | exact List.Sublist.refl _ | apply List.Sublist.cons_cons | exact List.sublist_append_left _ _ | exact List.sublist_append_right _ _ | apply List.Sublist.cons))
      all_goals
        have hneg : roundN r D (v + 1) = M := by
          rw [hsucc, stepN, if_neg]
          intro hh
          obtain ⟨q1, q2, q3⟩ := hiff.2 hh
          contradiction
        refine qround_normal ?_ ⟨(v + 1, sl'), ⟨rfl, ?_, rfl, trivial⟩, by dsimp only; omega, by dsimp only; omega, fun w' h => ?_⟩
        · repeat (first | exact same_refl | refine same_upd rfl ?_ | refine same_junk rfl ?_)
        · show Value.int .i64 _ = .int .i64 _
          rw [hneg]
        · dsimp only
          rw [hneg]
          exact Cl.sub (by assumption) (by repeat (first | exact List.Sublist.slnil | exact List.Sublist.refl _ | apply List.Sublist.cons_cons | exact List.sublist_append_left _ _ | exact List.sublist_append_right _ _ | apply List.Sublist.cons))
    · obtain rfl : v = n := by omega
      repeat' (first | apply pwp_seq | apply pwp_region | (apply px_run; (first | (apply opv_move; first | exact hid_int rfl) | (apply opv_assign; first | exact hid_int rfl) | (apply opv_lss <;> rfl) | (apply opv_add_in; rfl; rfl; omega) | (apply opv_field fld_G0; rfl) | (apply opv_load_blk 1; (first | with_reducible exact sc_int); rfl; rfl; rfl)); rfl; rfl) | apply px_nil | apply qseq_normal | apply qseq_exit | apply qblock_normal | (apply qblock_exit_same; rfl) | apply pwp_exit | apply qround_exit | (apply pwp_cond_dec; rfl; all_goals (intro hc; try (first | (exfalso; omega)))))
      refine qround_normal ?_ ⟨t + 1, ⟨rfl, ?_, trivial⟩, by omega, by omega, fun w' h => ?_⟩
      · repeat (first | exact same_refl | refine same_upd rfl ?_ | refine same_junk rfl ?_)
      · show Value.int .i64 _ = .int .i64 _
        rw [hnext]
      · exact Cl.sub (by assumption) (by repeat (first | exact List.Sublist.slnil | exact List.Sublist.refl _ | apply List.Sublist.cons_cons | exact List.sublist_append_left _ _ | exact List.sublist_append_right _ _ | apply List.Sublist.cons))
  · repeat' (first | apply pwp_seq | apply pwp_region | (apply px_run; (first | (apply opv_move; first | exact hid_int rfl) | (apply opv_assign; first | exact hid_int rfl) | (apply opv_lss <;> rfl) | (apply opv_field fld_G0; rfl) | (apply opv_load_blk 0; (first | with_reducible exact sc_int); rfl; rfl; rfl)); rfl; rfl) | apply px_nil | apply qseq_normal | apply qseq_exit | (apply qblock_exit_same; rfl) | apply pwp_exit | apply pwp_ret | apply qround_exit | (apply pwp_cond_dec; rfl; all_goals (intro hc; try (first | (exfalso; omega)))))
    obtain rfl : t = n := by omega
    refine qbody_ret1 (v := .int _ _) rfl rfl ⟨rfl, fun _ h => h.below⟩
end Go.Proofs.Yteopfbfcnggbbaa
