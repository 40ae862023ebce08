/- Fewest covers; lists of modules; primes; twins. -/
import Derived.Test.YteopfbfcnggbbaaCq
import Derived.Test.YteopfbfcnggbbaaMo
namespace Go.Proofs.Yteopfbfcnggbbaa
open Go Go.RowKit Go.Pw

theorem en_i_ModulesOf : Entry Try.prog 6 := ⟨_, Try.func6, by kernel_rfl, rfl⟩
set_option maxHeartbeats 800000 in
theorem i_ModulesOf_c (size : Int) (gv : Value) (rows : List Int) (w : World) (hr : Arr w gv (ints rows)) :
    Gives Try.prog 6 #[.agg #[.int .i64 size, gv]] w (fun v objs => objs = [.row 3 v (ints (modsL size rows))]) := by
  refine gives_enter (args := [_]) en_i_ModulesOf Try.func6 rfl Try.ntmps6 rfl ?_
  by_cases hg : IsG size rows
  · have hsz : 0 ≤ size ∧ size ≤ 7 := ⟨by have := hg.1; omega, hg.1.2⟩
    obtain ⟨N, hN, hN', hN1, hN2⟩ := shl_nat hg
    rw [modsL, if_pos hg, hN']
    repeat' (first | apply pwp_seq | apply pwp_region | (apply px_run; (first | (apply opv_assign; first | exact hid_int rfl | rfl) | (apply opv_not_dec <;> rfl) | (apply opv_load_str 1 st_G; rfl; rfl; rfl) | (apply opv_call; rfl; rfl; exact Cl.stable _ _ _; exact fun w hw => i_IsGraph_c _ _ rows _ (by first | exact hw.arr (by assumption)))); rfl; rfl) | apply px_nil | apply qseq_normal | apply pwp_block | apply pwp_skip | (apply pwp_cond_ndec; rfl; all_goals (intro hc; try (first | contradiction))) | (apply px_box; rfl; rfl; rfl; rfl; intro bk) | (apply px_lit0 ez_int; rfl; rfl; rfl; intro sv))
    refine pwp_loop (τ := Nat × Value) [(3,4), (10,22)] (fun x => [(4, .int .i64 (x.1 : Int)), (3, x.2)]) (fun x => Cl [] w [.row 3 x.2 (ints (modsU rows x.1)), .blk bk [.int .i64 size, gv]]) (fun x => 1 ≤ x.1 ∧ x.1 ≤ N) (fun x => N - x.1) (1, sv)
      ⟨rfl, rfl, trivial⟩ ⟨Nat.le_refl _, hN1⟩ (fun _ h => by dsimp only; rw [modsU_one]; exact h) (fun J x hk => ?_)
    obtain ⟨k, so⟩ := x
    obtain ⟨hk1, hk⟩ := hk
    have hl := modsU_length rows k
    dsimp only at hk hk1 ⊢
    by_cases hlt : k < N
    · have hsucc := modsU_succ rows k
      repeat' (first | apply pwp_seq | apply pwp_region | (apply px_run; (first | (apply opv_move; first | exact hid_int rfl | rfl) | (apply opv_assign; first | exact hid_int rfl | rfl) | (apply opv_leq <;> rfl) | (apply opv_add_in; rfl; rfl; omega) | (apply opv_load_str 1 st_G; rfl; rfl; rfl) | (apply opv_call; rfl; rfl; exact Cl.stable _ _ _; exact fun w hw => i_all_c _ _ _ hsz) | (apply opv_call; rfl; rfl; exact Cl.stable _ _ _; exact fun w hw => i_isModule_c _ _ rows _ _ (by first | exact hw.arr (by assumption)) hg ⟨by omega, by omega⟩)); rfl; rfl) | apply px_nil | apply qseq_normal | apply pwp_block | apply qblock_normal | apply pwp_skip | (apply pwp_cond_dec; rfl; all_goals (intro hc; try (first | (exfalso; omega)))) | (apply px_lit1 ez_int; rfl; (intro w hw; (first | rfl)); rfl; rfl; rfl; intro sv) | (apply px_append 1 ez_int; rfl; rfl; rfl; (first | exact rd_row 0 rfl); (first | (intro _ _ u hu; simp at hu; subst hu; rfl)); (simp [ints]; omega); decide; rfl; rfl; intro sv))
      · refine qround_normal ?_ ⟨(k + 1, _), ⟨rfl, rfl, trivial⟩, ⟨by dsimp only; omega, by dsimp only; omega⟩, by dsimp only; omega, fun w' h => ?_⟩
        · repeat (first | exact same_refl | refine same_upd rfl ?_ | refine same_junk rfl ?_)
        · rw [if_pos hc] at hsucc
          dsimp only
          rw [hsucc, ← ints_snoc]
          exact Cl.sub (by assumption) (by repeat (first | exact List.Sublist.slnil | exact List.Sublist.refl _ | apply List.Sublist.cons_cons | exact List.sublist_append_left _ _ | exact List.sublist_append_right _ _ | apply List.Sublist.cons))
      · refine qround_normal ?_ ⟨(k + 1, so), ⟨rfl, rfl, trivial⟩, ⟨by dsimp only; omega, by dsimp only; omega⟩, by dsimp only; omega, fun w' h => ?_⟩
        · repeat (first | exact same_refl | refine same_upd rfl ?_ | refine same_junk rfl ?_)
        · rw [if_neg hc] at hsucc
          dsimp only
          rw [hsucc]
          exact Cl.sub (by assumption) (by repeat (first | exact List.Sublist.slnil | exact List.Sublist.refl _ | apply List.Sublist.cons_cons | exact List.sublist_append_left _ _ | exact List.sublist_append_right _ _ | apply List.Sublist.cons))
    · obtain rfl : k = N := by omega
      repeat' (first | apply pwp_seq | apply pwp_region | (apply px_run; (first | (apply opv_move; first | exact hid_int rfl | rfl) | (apply opv_assign; first | rfl) | (apply opv_leq <;> rfl) | (apply opv_load_str 1 st_G; rfl; rfl; rfl) | (apply opv_call; rfl; rfl; exact Cl.stable _ _ _; exact fun w hw => i_all_c _ _ _ hsz)); rfl; rfl) | apply px_nil | apply qseq_normal | apply qseq_exit | (apply qblock_exit_same; rfl) | apply pwp_exit | apply pwp_ret | apply qround_exit | (apply pwp_cond_dec; rfl; all_goals (intro hc; try (first | (exfalso; omega)))))
      refine qbody_ret1 (v := so) rfl rfl ⟨_, rfl, fun w' h => ?_⟩
      exact Cl.sub (by assumption) (by repeat (first | exact List.Sublist.slnil | exact List.Sublist.refl _ | apply List.Sublist.cons_cons | exact List.sublist_append_left _ _ | exact List.sublist_append_right _ _ | apply List.Sublist.cons))
  · repeat' (first | apply pwp_seq | apply pwp_region | (apply px_run; (first | (apply opv_move; first | rfl) | (apply opv_assign; first | rfl) | (apply opv_not_dec <;> rfl) | (apply opv_load_str 1 st_G; rfl; rfl; rfl) | (apply opv_call; rfl; rfl; exact Cl.stable _ _ _; exact fun w hw => i_IsGraph_c _ _ rows _ (by first | exact hw.arr (by assumption)))); rfl; rfl) | apply px_nil | apply qseq_normal | apply qseq_ret | apply pwp_ret | (apply pwp_cond_ndec; rfl; all_goals (intro hc; try (first | contradiction))) | (apply px_box; rfl; rfl; rfl; rfl; intro bk) | (apply px_lit0 ez_int; rfl; rfl; rfl; intro sv))
    refine qbody_ret1 rfl rfl ⟨_, rfl, fun w' h => ?_⟩
    rw [modsL, if_neg hg]
    exact Cl.sub (by assumption) (by repeat (first | exact List.Sublist.slnil | exact List.Sublist.refl _ | apply List.Sublist.cons_cons | exact List.sublist_append_left _ _ | exact List.sublist_append_right _ _ | apply List.Sublist.cons))
theorem en_s_ModulesOf : Entry Try.prog 9 := ⟨_, Try.func9, by kernel_rfl, rfl⟩
set_option maxHeartbeats 800000 in
theorem s_ModulesOf_c (size : Int) (gv : Value) (rows : List Int) (w : World) (hr : Arr w gv (ints rows)) :
    Gives Try.prog 9 #[.agg #[.int .i64 size, gv]] w (fun v objs => objs = [.row 3 v (ints (modsL size rows))]) := by
  refine gives_enter (args := [_]) en_s_ModulesOf Try.func9 rfl Try.ntmps9 rfl ?_
  by_cases hg : IsG size rows
  · have hsz : 0 ≤ size ∧ size ≤ 7 := ⟨by have := hg.1; omega, hg.1.2⟩
    obtain ⟨hz1, hz2⟩ := hsz
    obtain ⟨N, hN, hN', hN1, hN2⟩ := shl_nat hg
    rw [modsL, if_pos hg, hN']
    repeat' (first | apply pwp_seq | apply pwp_region | (apply px_run; (first | (apply opv_assign; first | exact hid_int rfl | rfl)); rfl; rfl) | apply px_nil | apply qseq_normal | apply pwp_block | (apply px_box; rfl; rfl; rfl; rfl; intro bk) | (apply px_lit0 ez_int; rfl; rfl; rfl; intro sv))
    refine pwp_loop (τ := Nat × Value) [(3,4), (6,23)] (fun x => [(4, .int .i64 (x.1 : Int)), (3, x.2)]) (fun x => Cl [] w [.row 3 x.2 (ints (modsU rows x.1)), .blk bk [.int .i64 size, gv]]) (fun x => 1 ≤ x.1 ∧ x.1 ≤ N) (fun x => N - x.1) (1, sv)
      ⟨rfl, rfl, trivial⟩ ⟨Nat.le_refl _, hN1⟩ (fun _ h => by dsimp only; rw [modsU_one]; exact h) (fun J x hk => ?_)
    obtain ⟨k, so⟩ := x
    obtain ⟨hk1, hk⟩ := hk
    have hl := modsU_length rows k
    dsimp only at hk hk1 ⊢
    by_cases hlt : k < N
    · have hsucc := modsU_succ rows k
      have hmod : modP size rows (k : Nat) ↔ modQ rows (k : Nat) := ⟨fun h => h.2, fun h => ⟨⟨hg, by omega, by omega⟩, h⟩⟩
      repeat' (first | apply pwp_seq | apply pwp_region | (apply px_run; (first | (apply opv_move; first | exact hid_int rfl | exact hid_bool rfl | rfl) | (apply opv_assign; first | exact hid_int rfl | rfl) | (apply opv_lss <;> rfl) | (apply opv_pick_t <;> rfl) | (apply opv_add_in; rfl; rfl; omega) | (apply opv_shl; rfl; rfl; omega) | (apply opv_field fld_G0; rfl) | (apply opv_load_blk 1; (first | with_reducible exact sc_int); rfl; rfl; rfl) | (apply opv_load_str 1 st_G; rfl; rfl; rfl) | (apply opv_call; rfl; rfl; exact Cl.stable _ _ _; exact fun w hw => s_IsGraph_c _ _ rows _ (by first | exact hw.arr (by assumption))) | (apply opv_call; rfl; rfl; exact Cl.stable _ _ _; exact fun w hw => s_IsModule_c _ _ rows _ _ (by first | exact hw.arr (by assumption)))); rfl; rfl) | apply px_nil | apply qseq_normal | apply pwp_block | apply qblock_normal | apply pwp_skip | (apply px_guard_dec; rfl; rfl; rfl; all_goals (intro hc; try (first | contradiction))) | (apply pwp_cond_dec; rfl; all_goals (intro hc; try (first | (exfalso; omega)))) | (apply px_lit1 ez_int; rfl; (intro w hw; (first | rfl)); rfl; rfl; rfl; intro sv) | (apply px_append 1 ez_int; rfl; rfl; rfl; (first | exact rd_row 0 rfl); (first | (intro _ _ u hu; simp at hu; subst hu; rfl)); (simp [ints]; omega); decide; rfl; rfl; intro sv))
      · refine qround_normal ?_ ⟨(k + 1, _), ⟨rfl, rfl, trivial⟩, ⟨by dsimp only; omega, by dsimp only; omega⟩, by dsimp only; omega, fun w' h => ?_⟩
        · repeat (first | exact same_refl | refine same_upd rfl ?_ | refine same_junk rfl ?_)
        · rw [if_pos (hmod.1 hc)] at hsucc
          dsimp only
          rw [hsucc, ← ints_snoc]
          exact Cl.sub (by assumption) (by repeat (first | exact List.Sublist.slnil | exact List.Sublist.refl _ | apply List.Sublist.cons_cons | exact List.sublist_append_left _ _ | exact List.sublist_append_right _ _ | apply List.Sublist.cons))
      · refine qround_normal ?_ ⟨(k + 1, so), ⟨rfl, rfl, trivial⟩, ⟨by dsimp only; omega, by dsimp only; omega⟩, by dsimp only; omega, fun w' h => ?_⟩
        · repeat (first | exact same_refl | refine same_upd rfl ?_ | refine same_junk rfl ?_)
        · rw [if_neg (fun h => hc (hmod.2 h))] at hsucc
          dsimp only
          rw [hsucc]
          exact Cl.sub (by assumption) (by repeat (first | exact List.Sublist.slnil | exact List.Sublist.refl _ | apply List.Sublist.cons_cons | exact List.sublist_append_left _ _ | exact List.sublist_append_right _ _ | apply List.Sublist.cons))
    · obtain rfl : k = N := by omega
      repeat' (first | apply pwp_seq | apply pwp_region | (apply px_run; (first | (apply opv_move; first | exact hid_int rfl | exact hid_bool rfl | rfl) | (apply opv_assign; first | rfl) | (apply opv_lss <;> rfl) | (apply opv_pick_t <;> rfl) | (apply opv_shl; rfl; rfl; omega) | (apply opv_field fld_G0; rfl) | (apply opv_load_blk 1; (first | with_reducible exact sc_int); rfl; rfl; rfl) | (apply opv_load_str 1 st_G; rfl; rfl; rfl) | (apply opv_call; rfl; rfl; exact Cl.stable _ _ _; exact fun w hw => s_IsGraph_c _ _ rows _ (by first | exact hw.arr (by assumption)))); rfl; rfl) | apply px_nil | apply qseq_normal | apply qseq_exit | (apply qblock_exit_same; rfl) | apply pwp_exit | apply pwp_ret | apply qround_exit | (apply px_guard_dec; rfl; rfl; rfl; all_goals (intro hc; try (first | contradiction))) | (apply pwp_cond_dec; rfl; all_goals (intro hc; try (first | (exfalso; omega)))))
      refine qbody_ret1 (v := so) rfl rfl ⟨_, rfl, fun w' h => ?_⟩
      exact Cl.sub (by assumption) (by repeat (first | exact List.Sublist.slnil | exact List.Sublist.refl _ | apply List.Sublist.cons_cons | exact List.sublist_append_left _ _ | exact List.sublist_append_right _ _ | apply List.Sublist.cons))
  · repeat' (first | apply pwp_seq | apply pwp_region | (apply px_run; (first | (apply opv_assign; first | exact hid_int rfl | rfl)); rfl; rfl) | apply px_nil | apply qseq_normal | apply pwp_block | (apply px_box; rfl; rfl; rfl; rfl; intro bk) | (apply px_lit0 ez_int; rfl; rfl; rfl; intro sv))
    refine pwp_loop_once ?_
    repeat' (first | apply pwp_seq | apply pwp_region | (apply px_run; (first | (apply opv_move; first | exact hid_int rfl | exact hid_bool rfl | rfl) | (apply opv_assign; first | rfl) | (apply opv_pick_f <;> rfl) | (apply opv_field fld_G0; rfl) | (apply opv_load_str 1 st_G; rfl; rfl; rfl) | (apply opv_call; rfl; rfl; exact Cl.stable _ _ _; exact fun w hw => s_IsGraph_c _ _ rows _ (by first | exact hw.arr (by assumption)))); rfl; rfl) | apply px_nil | (apply px_skip; rfl; rfl) | apply qseq_normal | apply qseq_exit | (apply qblock_exit_same; rfl) | apply pwp_exit | apply pwp_ret | apply qonce_exit | (apply pwp_cond_f; rfl) | (apply px_guard_dec; rfl; rfl; rfl; all_goals (intro hc; try (first | contradiction))))
    refine qbody_ret1 (v := sv) rfl rfl ⟨_, rfl, fun w' h => ?_⟩
    rw [modsL, if_neg hg]
    exact Cl.sub (by assumption) (by repeat (first | exact List.Sublist.slnil | exact List.Sublist.refl _ | apply List.Sublist.cons_cons | exact List.sublist_append_left _ _ | exact List.sublist_append_right _ _ | apply List.Sublist.cons))
theorem en_i_IsPrime : Entry Try.prog 11 := ⟨_, Try.func11, by kernel_rfl, rfl⟩
set_option maxHeartbeats 2000000 in
theorem i_IsPrime_c (size : Int) (gv : Value) (rows : List Int) (w : World) (hr : Arr w gv (ints rows)) :
    Pure Try.prog 11 #[.agg #[.int .i64 size, gv]] w (.bool (decide (primeP size rows))) := by
  refine pure_enter (args := [_]) en_i_IsPrime Try.func11 rfl Try.ntmps11 rfl ?_
  have hl := modsL_length size rows
  by_cases hg : IsG size rows
  · obtain ⟨hg1, hg2⟩ := hg.1
    repeat' (first | apply pwp_seq | apply pwp_region | (apply px_run; (first | (apply opv_move; first | exact hid_bool rfl) | (apply opv_assign; first | exact hid_bool rfl) | (apply opv_geq <;> rfl) | (apply opv_eql <;> rfl) | (apply opv_pick_t <;> rfl) | (apply opv_pick_f <;> rfl) | (apply opv_add_in; rfl; rfl; omega) | (apply opv_field fld_G0; rfl) | (apply opv_load_blk 0; (first | with_reducible exact sc_int); rfl; rfl; rfl) | (apply opv_len_ints el_int; rfl; (first | exact rd_row 0 rfl)) | (apply opv_load_str 0 st_G; rfl; rfl; rfl) | (apply opv_call; rfl; rfl; exact Cl.stable _ _ _; exact fun w hw => i_IsGraph_c _ _ rows _ (by first | exact hw.arr (by assumption)))); rfl; rfl) | apply px_nil | (apply px_skip; rfl; rfl) | apply qseq_normal | apply pwp_ret | (apply pwp_region_ord [0,1,2,3,4,5,6,7,8,11,12,13,9,10,14,15,16]; kernel_rfl; decide +kernel; exact Cl.stable _ _ _) | (apply px_guard_dec; rfl; rfl; rfl; all_goals (intro hc; try (first | contradiction))) | (apply px_box; rfl; rfl; rfl; rfl; intro bk) | (apply px_gives; rfl; rfl; rfl; rfl; rfl; exact fun w hw => i_ModulesOf_c _ _ rows _ (by first | exact hw.arr (by assumption)); rintro sm _ rfl))
    all_goals first
      | (refine qbody_ret1 (v := .bool (decide _)) rfl rfl ⟨ret_iff ⟨fun h => ⟨hg, by assumption, by exact h⟩, fun h => h.2.2⟩, fun _ h => h.below⟩; done)
      | (refine qbody_ret1 (v := .bool _) rfl rfl ⟨ret_false rfl fun h => hc h.2.1, fun _ h => h.below⟩; done)
  · repeat' (first | apply pwp_seq | apply pwp_region | (apply px_run; (first | (apply opv_move; first | exact hid_bool rfl) | (apply opv_assign; first | exact hid_bool rfl) | (apply opv_pick_f <;> rfl) | (apply opv_field fld_G0; rfl) | (apply opv_load_str 0 st_G; rfl; rfl; rfl) | (apply opv_call; rfl; rfl; exact Cl.stable _ _ _; exact fun w hw => i_IsGraph_c _ _ rows _ (by first | exact hw.arr (by assumption)))); rfl; rfl) | apply px_nil | (apply px_skip; rfl; rfl) | apply qseq_normal | apply pwp_ret | (apply pwp_region_ord [0,1,2,3,4,5,6,7,8,11,12,13,9,10,14,15,16]; kernel_rfl; decide +kernel; exact Cl.stable _ _ _) | (apply px_guard_dec; rfl; rfl; rfl; all_goals (intro hc; try (first | contradiction))) | (apply px_box; rfl; rfl; rfl; rfl; intro bk))
    refine qbody_ret1 (v := .bool _) rfl rfl ⟨ret_false rfl fun h => hg h.1, fun _ h => h.below⟩
theorem en_s_IsPrime : Entry Try.prog 12 := ⟨_, Try.func12, by kernel_rfl, rfl⟩
set_option maxHeartbeats 2000000 in
theorem s_IsPrime_c (size : Int) (gv : Value) (rows : List Int) (w : World) (hr : Arr w gv (ints rows)) :
    Pure Try.prog 12 #[.agg #[.int .i64 size, gv]] w (.bool (decide (primeP size rows))) := by
  refine pure_enter (args := [_]) en_s_IsPrime Try.func12 rfl Try.ntmps12 rfl ?_
  have hl := modsL_length size rows
  by_cases hg : IsG size rows
  · obtain ⟨hg1, hg2⟩ := hg.1
    repeat' (first | apply pwp_seq | apply pwp_region | (apply px_run; (first | (apply opv_move; first | exact hid_bool rfl) | (apply opv_assign; first | exact hid_bool rfl) | (apply opv_geq <;> rfl) | (apply opv_eql <;> rfl) | (apply opv_pick_t <;> rfl) | (apply opv_pick_f <;> rfl) | (apply opv_add_in; rfl; rfl; omega) | (apply opv_field fld_G0; rfl) | (apply opv_load_blk 0; (first | with_reducible exact sc_int); rfl; rfl; rfl) | (apply opv_len_ints el_int; rfl; (first | exact rd_row 0 rfl)) | (apply opv_load_str 0 st_G; rfl; rfl; rfl) | (apply opv_call; rfl; rfl; exact Cl.stable _ _ _; exact fun w hw => s_IsGraph_c _ _ rows _ (by first | exact hw.arr (by assumption)))); rfl; rfl) | apply px_nil | (apply px_skip; rfl; rfl) | apply qseq_normal | apply pwp_ret | (apply pwp_region_ord [0,1,2,3,4,5,6,7,8,11,12,13,9,10,14,15,16]; kernel_rfl; decide +kernel; exact Cl.stable _ _ _) | (apply px_guard_dec; rfl; rfl; rfl; all_goals (intro hc; try (first | contradiction))) | (apply px_box; rfl; rfl; rfl; rfl; intro bk) | (apply px_gives; rfl; rfl; rfl; rfl; rfl; exact fun w hw => s_ModulesOf_c _ _ rows _ (by first | exact hw.arr (by assumption)); rintro sm _ rfl))
    all_goals first
      | (refine qbody_ret1 (v := .bool (decide _)) rfl rfl ⟨ret_iff ⟨fun h => ⟨hg, by assumption, by exact h⟩, fun h => h.2.2⟩, fun _ h => h.below⟩; done)
      | (refine qbody_ret1 (v := .bool _) rfl rfl ⟨ret_false rfl fun h => hc h.2.1, fun _ h => h.below⟩; done)
  · repeat' (first | apply pwp_seq | apply pwp_region | (apply px_run; (first | (apply opv_move; first | exact hid_bool rfl) | (apply opv_assign; first | exact hid_bool rfl) | (apply opv_pick_f <;> rfl) | (apply opv_field fld_G0; rfl) | (apply opv_load_str 0 st_G; rfl; rfl; rfl) | (apply opv_call; rfl; rfl; exact Cl.stable _ _ _; exact fun w hw => s_IsGraph_c _ _ rows _ (by first | exact hw.arr (by assumption)))); rfl; rfl) | apply px_nil | (apply px_skip; rfl; rfl) | apply qseq_normal | apply pwp_ret | (apply pwp_region_ord [0,1,2,3,4,5,6,7,8,11,12,13,9,10,14,15,16]; kernel_rfl; decide +kernel; exact Cl.stable _ _ _) | (apply px_guard_dec; rfl; rfl; rfl; all_goals (intro hc; try (first | contradiction))) | (apply px_box; rfl; rfl; rfl; rfl; intro bk))
    refine qbody_ret1 (v := .bool _) rfl rfl ⟨ret_false rfl fun h => hg h.1, fun _ h => h.below⟩
theorem en_i_TwinsOf : Entry Try.prog 25 := ⟨_, Try.func25, by kernel_rfl, rfl⟩
set_option maxHeartbeats 800000 in
theorem i_TwinsOf_c (size : Int) (gv : Value) (rows : List Int) (v : Int) (w : World) (hr : Arr w gv (ints rows)) :
    Pure Try.prog 25 #[.agg #[.int .i64 size, gv], .int .i64 v] w (.int .i64 (twinX size rows v)) := by
  refine pure_enter (args := [_, _]) en_i_TwinsOf Try.func25 rfl Try.ntmps25 rfl ?_
  by_cases hg : IsG size rows ∧ 0 ≤ v ∧ v < size
  · obtain ⟨hg0, hv1, hv2⟩ := id hg
    obtain ⟨n, hn, hrl, _, hn7⟩ := isG_size hg0
    obtain ⟨u, rfl⟩ := Int.eq_ofNat_of_zero_le hv1
    have hlist : IsG size rows ∧ ∀ i, i < [(u : Int)].length → 0 ≤ [(u : Int)].getD i 0 ∧ [(u : Int)].getD i 0 ≤ size - 1 := ⟨hg0, fun i hi => by
      have : i = 0 := by simp at hi; omega
      subst this
      exact ⟨hv1, by show (u : Int) ≤ size - 1; omega⟩⟩
    rw [twinX, if_pos hg]
    repeat' (first | apply pwp_seq | apply pwp_region | (apply px_run; (first | (apply opv_move; first | exact hid_int rfl) | (apply opv_assign; first | exact hid_int rfl) | (apply opv_not_dec <;> rfl) | (apply opv_field fld_G0; rfl) | (apply opv_load_blk 1; (first | with_reducible exact sc_int); rfl; rfl; rfl) | (apply opv_load_str 0 st_G; rfl; rfl; rfl) | (apply opv_call; rfl; rfl; exact Cl.stable _ _ _; exact fun w hw => i_isVertex_c _ _ _ rows [(u : Int)] _ (by first | exact hw.arr (by assumption)) (by first | exact hw.rowArr (k := 0) rfl))); rfl; rfl) | apply px_nil | apply qseq_normal | apply pwp_block | apply pwp_skip | (apply pwp_cond_ndec; rfl; all_goals (intro hc; try (first | contradiction))) | (apply px_box; rfl; rfl; rfl; rfl; intro bk) | (apply px_lit1 ez_int; rfl; (intro w hw; (first | rfl)); rfl; rfl; rfl; intro sv))
    refine pwp_loop (τ := Nat) [(5,6), (14,33)] (fun k => [(14, .int .i64 (k : Int)), (5, .int .i64 (twinU rows u k))]) (fun _ => Cl [] w [.blk bk [.int .i64 size, gv]]) (fun k => k ≤ n) (fun k => n - k) 0
      ⟨rfl, rfl, trivial⟩ (Nat.zero_le _) (fun _ h => by first | exact h | (refine h.sub ?_; repeat (first | exact List.Sublist.slnil | exact List.Sublist.refl _ | apply List.Sublist.cons_cons | apply List.Sublist.cons))) (fun J k hk => ?_)
    by_cases hlt : k < n
    · obtain ⟨hp1, hp2⟩ := pair_lt (v := u) (u := k) hn hn7 (by omega) hlt
      obtain ⟨ht1, ht2, ht3⟩ := twin_add rows u k (by omega)
      repeat' (first | apply pwp_seq | apply pwp_region | (apply px_run; (first | (apply opv_move; first | exact hid_int rfl | exact hid_bool rfl) | (apply opv_assign; first | exact hid_int rfl) | (apply opv_lss <;> rfl) | (apply opv_neq <;> rfl) | (apply opv_or <;> rfl) | (apply opv_pick_t <;> rfl) | (apply opv_pick_f <;> rfl) | (apply opv_add_in; rfl; rfl; omega) | (apply opv_shl; rfl; rfl; omega) | (apply opv_load_str 0 st_G; rfl; rfl; rfl) | (apply opv_call; rfl; rfl; exact Cl.stable _ _ _; exact fun w hw => i_isModule_c _ _ rows _ _ (by first | exact hw.arr (by assumption)) hg0 ⟨hp1, hp2⟩)); rfl; rfl) | apply px_nil | (apply px_skip; rfl; rfl) | apply qseq_normal | apply pwp_block | apply qblock_normal | apply pwp_skip | (apply pwp_cond_f; rfl) | (apply pwp_region_mix; kernel_rfl; decide +kernel; exact Cl.stable _ _ _) | (apply px_guard_ndec; rfl; rfl; rfl; all_goals (intro hc; try (first | fail))) | (apply pwp_cond_dec; rfl; all_goals (intro hc; try (first | (exfalso; omega)))))
      all_goals (refine qround_normal ?_ ⟨k + 1, ⟨rfl, ?_, trivial⟩, by omega, by omega, fun _ h => h⟩)
      all_goals (repeat (first | exact same_refl | refine same_upd rfl ?_ | refine same_junk rfl ?_))
      all_goals
        show Value.int .i64 _ = .int .i64 (twinU rows u (k + 1))
        congr 1
        rw [twinU]
        split
        all_goals first | rfl | (exfalso; simp_all; done) | (exfalso; simp_all; omega)
    · repeat' (first | apply pwp_seq | apply pwp_region | (apply px_run; (first | (apply opv_move; first | exact hid_int rfl) | (apply opv_assign; first | exact hid_int rfl) | (apply opv_lss <;> rfl)); rfl; rfl) | apply px_nil | apply qseq_normal | apply qseq_exit | (apply qblock_exit_same; rfl) | apply pwp_exit | apply pwp_ret | apply qround_exit | (apply pwp_cond_dec; rfl; all_goals (intro hc; try (first | (exfalso; omega)))))
      obtain rfl : k = n := by omega
      refine qbody_ret1 (v := .int _ _) rfl rfl ⟨by rw [hn]; rfl, fun _ h => h.below⟩
  · have hneg : ¬ (IsG size rows ∧ ∀ i, i < [v].length → 0 ≤ [v].getD i 0 ∧ [v].getD i 0 ≤ size - 1) := fun h => hg ⟨h.1, by have := h.2 0 (by simp); have h1 : (0 ≤ v ∧ v ≤ size - 1) := this; omega⟩
    rw [twinX, if_neg hg]
    repeat' (first | apply pwp_seq | apply pwp_region | (apply px_run; (first | (apply opv_move; first | exact hid_int rfl) | (apply opv_assign; first | exact hid_int rfl) | (apply opv_not_dec <;> rfl) | (apply opv_load_str 0 st_G; rfl; rfl; rfl) | (apply opv_call; rfl; rfl; exact Cl.stable _ _ _; exact fun w hw => i_isVertex_c _ _ _ rows [v] _ (by first | exact hw.arr (by assumption)) (by first | exact hw.rowArr (k := 0) rfl))); rfl; rfl) | apply px_nil | apply qseq_normal | apply qseq_ret | apply pwp_ret | (apply pwp_cond_ndec; rfl; all_goals (intro hc; try (first | contradiction))) | (apply px_box; rfl; rfl; rfl; rfl; intro bk) | (apply px_lit1 ez_int; rfl; (intro w hw; (first | rfl)); rfl; rfl; rfl; intro sv))
    all_goals first | exact (hneg hc).elim | skip
    refine qbody_ret1 (v := .int _ _) rfl rfl ⟨rfl, fun _ h => h.below⟩
theorem en_s_TwinsOf : Entry Try.prog 26 := ⟨_, Try.func26, by kernel_rfl, rfl⟩
set_option maxHeartbeats 800000 in
theorem s_TwinsOf_c (size : Int) (gv : Value) (rows : List Int) (v : Int) (w : World) (hr : Arr w gv (ints rows)) :
    Pure Try.prog 26 #[.agg #[.int .i64 size, gv], .int .i64 v] w (.int .i64 (twinX size rows v)) := by
  refine pure_enter (args := [_, _]) en_s_TwinsOf Try.func26 rfl Try.ntmps26 rfl ?_
  by_cases hg : IsG size rows ∧ 0 ≤ v ∧ v < size
  · obtain ⟨hg0, hv1, hv2⟩ := id hg
    obtain ⟨n, hn, hrl, _, hn7⟩ := isG_size hg0
    obtain ⟨u, rfl⟩ := Int.eq_ofNat_of_zero_le hv1
    rw [twinX, if_pos hg]
    repeat' (first | apply pwp_seq | apply pwp_region | (apply px_run; (first | (apply opv_move; first | exact hid_int rfl | exact hid_bool rfl) | (apply opv_assign; first | exact hid_int rfl) | (apply opv_lss <;> rfl) | (apply opv_geq <;> rfl) | (apply opv_pick_f <;> rfl) | (apply opv_not_dec <;> rfl) | (apply opv_field fld_G0; rfl) | (apply opv_load_blk 0; (first | with_reducible exact sc_int); rfl; rfl; rfl) | (apply opv_load_str 0 st_G; rfl; rfl; rfl) | (apply opv_call; rfl; rfl; exact Cl.stable _ _ _; exact fun w hw => s_IsGraph_c _ _ rows _ (by first | exact hw.arr (by assumption)))); rfl; rfl) | apply px_nil | apply qseq_normal | apply pwp_block | apply pwp_skip | (apply px_guard_ndec; rfl; rfl; rfl; all_goals (intro hc; try (first | contradiction))) | (apply pwp_cond_dec; rfl; all_goals (intro hc; try (first | (exfalso; omega)))) | (apply px_box; rfl; rfl; rfl; rfl; intro bk))
    refine pwp_loop (τ := Nat) [(5,6), (20,41)] (fun k => [(6, .int .i64 (k : Int)), (5, .int .i64 (twinU rows u k))]) (fun _ => Cl [] w [.blk bk [.int .i64 size, gv]]) (fun k => k ≤ n) (fun k => n - k) 0
      ⟨rfl, rfl, trivial⟩ (Nat.zero_le _) (fun _ h => h) (fun J k hk => ?_)
    by_cases hlt : k < n
    · obtain ⟨hp1, hp2⟩ := pair_lt (v := u) (u := k) hn hn7 (by omega) hlt
      obtain ⟨ht1, ht2, ht3⟩ := twin_add rows u k (by omega)
      obtain ⟨_, hy2, hy3⟩ := shl1 (n := (k : Int)) ⟨by omega, by omega⟩
      have hmod : modP size rows (ior (ishl 1 u) (ishl 1 k)) ↔ modQ rows (ior (ishl 1 u) (ishl 1 k)) := ⟨fun h => h.2, fun h => ⟨⟨hg0, hp1, hp2⟩, h⟩⟩
      repeat' (first | apply pwp_seq | apply pwp_region | (apply px_run; (first | (apply opv_move; first | exact hid_int rfl | exact hid_bool rfl) | (apply opv_assign; first | exact hid_int rfl) | (apply opv_lss <;> rfl) | (apply opv_neq <;> rfl) | (apply opv_or <;> rfl) | (apply opv_pick_t <;> rfl) | (apply opv_pick_f <;> rfl) | (apply opv_add_in; rfl; rfl; omega) | (apply opv_shl; rfl; rfl; omega) | (apply opv_field fld_G0; rfl) | (apply opv_load_blk 0; (first | with_reducible exact sc_int); rfl; rfl; rfl) | (apply opv_load_str 0 st_G; rfl; rfl; rfl) | (apply opv_call; rfl; rfl; exact Cl.stable _ _ _; exact fun w hw => s_IsModule_c _ _ rows _ _ (by first | exact hw.arr (by assumption)))); rfl; rfl) | apply px_nil | (apply px_skip; rfl; rfl) | apply qseq_normal | apply pwp_block | apply qblock_normal | apply pwp_skip | (apply pwp_cond_f; rfl) | (apply pwp_region_mix; kernel_rfl; decide +kernel; exact Cl.stable _ _ _) | (apply px_guard_ndec; rfl; rfl; rfl; all_goals (intro hc; try (first | fail))) | (apply pwp_cond_dec; rfl; all_goals (intro hc; try (first | (exfalso; omega)))))
      all_goals (refine qround_normal ?_ ⟨k + 1, ⟨rfl, ?_, trivial⟩, by omega, by omega, fun _ h => h⟩)
      all_goals (repeat (first | exact same_refl | refine same_upd rfl ?_ | refine same_junk rfl ?_))
      all_goals
        show Value.int .i64 _ = .int .i64 (twinU rows u (k + 1))
        congr 1
        rw [twinU, ht1]
        split
        all_goals first | rfl | (exfalso; simp_all; done) | (exfalso; simp_all; omega)
    · repeat' (first | apply pwp_seq | apply pwp_region | (apply px_run; (first | (apply opv_move; first | exact hid_int rfl) | (apply opv_assign; first | exact hid_int rfl) | (apply opv_lss <;> rfl) | (apply opv_field fld_G0; rfl) | (apply opv_load_blk 0; (first | with_reducible exact sc_int); rfl; rfl; rfl)); rfl; rfl) | apply px_nil | apply qseq_normal | apply qseq_exit | (apply qblock_exit_same; rfl) | apply pwp_exit | apply pwp_ret | apply qround_exit | (apply pwp_cond_dec; rfl; all_goals (intro hc; try (first | (exfalso; omega)))))
      obtain rfl : k = n := by omega
      refine qbody_ret1 (v := .int _ _) rfl rfl ⟨by rw [hn]; rfl, fun _ h => h.below⟩
  · rw [twinX, if_neg hg]
    repeat' (first | apply pwp_seq | apply pwp_region | (apply px_run; (first | (apply opv_move; first | exact hid_int rfl | exact hid_bool rfl) | (apply opv_assign; first | exact hid_int rfl) | (apply opv_lss <;> rfl) | (apply opv_geq <;> rfl) | (apply opv_pick_t <;> rfl) | (apply opv_pick_f <;> rfl) | (apply opv_not_dec <;> rfl) | (apply opv_field fld_G0; rfl) | (apply opv_load_blk 0; (first | with_reducible exact sc_int); rfl; rfl; rfl) | (apply opv_load_str 0 st_G; rfl; rfl; rfl) | (apply opv_call; rfl; rfl; exact Cl.stable _ _ _; exact fun w hw => s_IsGraph_c _ _ rows _ (by first | exact hw.arr (by assumption)))); rfl; rfl) | apply px_nil | (apply px_skip; rfl; rfl) | apply qseq_normal | apply qseq_ret | apply pwp_block | apply pwp_skip | apply pwp_ret | (apply pwp_cond_t; rfl) | (apply px_guard_ndec; rfl; rfl; rfl; all_goals (intro hc; try (first | fail))) | (apply px_guard_dec; rfl; rfl; rfl; all_goals (intro hc; try (first | fail))) | (apply pwp_cond_dec; rfl; all_goals (intro hc; try (first | fail))) | (apply px_box; rfl; rfl; rfl; rfl; intro bk))
    all_goals first
      | (refine qbody_ret1 (v := .int _ _) rfl rfl ⟨rfl, fun _ h => h.below⟩; done)
      | (exfalso; apply hg; refine ⟨by assumption, by omega, by omega⟩)
end Go.Proofs.Yteopfbfcnggbbaa
