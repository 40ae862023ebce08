import Derived.Test.YtdenkbephkfifaaGreatGs
import Derived.Test.YtdenkbephkfifaaGreatSl
import Derived.Test.YtdenkbephkfifaaGreatPwPth
import Derived.Test.YtdenkbephkfifaaGreatPwPwt
/- Threshold orders. -/
namespace Go.Proofs.YtdenkbephkfifaaGreat
open Go Go.RowKit Go.Pw

theorem en_i_ThresholdOrder : Entry Tryz.prog 6 := ⟨_, Tryz.func6, by kernel_rfl, rfl⟩
set_option maxHeartbeats 4000000 in
theorem i_ThresholdOrder_c (size : Int) (gv : Value) (rows : List Int) (w : World) (hr : Arr w gv (ints rows)) :
    Gives Tryz.prog 6 #[.agg #[.int .i64 size, gv]] w (fun v objs => ∃ s1 s2, v = .tuple #[s1, s2, .bool (thrX size rows).isSome] ∧ objs = [.row 3 s1 (ints (thrO size rows)), .row 4 s2 (bools (thrJ size rows))]) := by
  refine gives_enter (args := [_]) en_i_ThresholdOrder Tryz.func6 rfl Tryz.ntmps6 rfl ?_
  by_cases hg : IsG size rows
  case neg =>
    repeat' (first | apply pwp_seq | apply pwp_region | (apply px_run; (first | (apply opv_assign; first | exact hid_bool rfl | rfl) | (apply opv_not_dec <;> rfl) | (apply opv_load_str 0 st_G; rfl; rfl; rfl) | (apply opv_call; rfl; rfl; exact Cl.stable _ _ _; exact fun w hw => i_IsGraph_c _ _ rows _ (by first | exact hw.arr (by assumption)))); rfl; rfl) | apply px_nil | apply qseq_normal | apply qseq_ret | apply pwp_ret | (apply pwp_cond_ndec; rfl; all_goals (intro hc; try (first | contradiction))) | (apply px_box; rfl; rfl; rfl; rfl; intro bk))
    have hX := thrX_none hg
    refine qbody_ret3 rfl rfl rfl rfl ⟨_, ⟨_, _, by rw [hX]; rfl, rfl⟩, fun w' h => ?_⟩
    rw [thrO_none hX, thrJ_none hX]
    exact ((h.sub (List.nil_sublist _)).nilRow _).nilRow _
  have hsz : 0 ≤ size ∧ size ≤ 7 := ⟨by have := hg.1; omega, hg.1.2⟩
  obtain ⟨N, hN, hN', hN1, hN2⟩ := shl_nat hg
  obtain ⟨n, hn, hrl, _, hn7⟩ := isG_size hg
  have hX0 := thrX_some hg
  repeat' (first | apply pwp_seq | apply pwp_region | (apply px_run; (first | (apply opv_assign; first | exact hid_int rfl | exact hid_bool rfl | rfl) | (apply opv_not_dec <;> rfl) | (apply opv_load_str 0 st_G; rfl; rfl; rfl) | (apply opv_load_str 2 st_G; rfl; rfl; rfl) | (apply opv_call; rfl; rfl; exact Cl.stable _ _ _; exact fun w hw => i_IsGraph_c _ _ rows _ (by first | exact hw.arr (by assumption))) | (apply opv_call; rfl; rfl; exact Cl.stable _ _ _; exact fun w hw => i_all_c _ _ _ hsz)); rfl; rfl) | apply px_nil | apply qseq_normal | apply pwp_block | apply pwp_skip | (apply pwp_cond_ndec; rfl; all_goals (intro hc; try (first | contradiction))) | (apply px_box; rfl; rfl; rfl; rfl; intro bk) | (apply px_lit0 ez_int; rfl; rfl; rfl; intro sv) | (apply px_lit0 ez_bool; rfl; rfl; rfl; intro sv))
  refine pwp_loop (τ := Nat × Int × List Int × List Bool × Value × Value) [(2,8), (10,11), (19,67)] (fun x => [(7, .int .i64 x.2.1), (5, x.2.2.2.2.1), (6, x.2.2.2.2.2)])
    (fun x => Cl [] w [.row 4 x.2.2.2.2.2 (bools x.2.2.2.1), .row 3 x.2.2.2.2.1 (ints x.2.2.1), .blk bk [.int .i64 size, gv]])
    (fun x => (0 ≤ x.2.1 ∧ x.2.1 < ishl 1 size) ∧ x.2.1 < x.1 ∧ x.2.2.1.length + x.1 ≤ 129 ∧ x.2.2.2.1.length = x.2.2.1.length ∧ thrX size rows = thrR rows x.1 x.2.1 x.2.2.1 x.2.2.2.1) (fun x => x.1) (129, ishl 1 size - 1, [], [], _, _)
    ⟨rfl, rfl, rfl, trivial⟩ ⟨by dsimp only; omega, by dsimp only; omega, by dsimp only; simp, rfl, hX0⟩ (fun _ h => h) (fun J x hk => ?_)
  obtain ⟨f, left, o, j, so, sj⟩ := x
  obtain ⟨hl, hlf, hof, hjo, hX⟩ := hk
  dsimp only at hl hlf hof hjo hX ⊢
  obtain ⟨f, rfl⟩ : ∃ f' : Nat, f = f' + 1 := ⟨f - 1, by omega⟩
  by_cases h0 : left = 0
  · subst h0
    rw [thrR_done] at hX
    repeat' (first | apply pwp_seq | apply pwp_region | (apply px_run; (first | (apply opv_move; first | exact hid_int rfl | rfl) | (apply opv_assign; first | exact hid_bool rfl | rfl) | (apply opv_neq <;> rfl)); rfl; rfl) | apply px_nil | apply qseq_normal | apply qseq_exit | (apply qblock_exit_same; rfl) | apply pwp_exit | apply pwp_ret | apply qround_exit | (apply pwp_cond_f; rfl) | (apply px_turns [0]; rfl; rfl; rfl; rfl; rfl; exact fun w ho => x_ReverseB_c _ _ _ ho) | (apply px_gives; rfl; rfl; rfl; rfl; rfl; exact fun w hw => i_reversed_c _ o _ (by first | exact hw.rowArr (k := 1) rfl) (by omega); rintro sr _ rfl))
    refine qbody_ret3 rfl rfl rfl rfl ⟨_, ⟨_, _, by rw [hX]; rfl, rfl⟩, fun w' h => ?_⟩
    rw [thrO_some hX, thrJ_some hX]
    exact Cl.sub (by assumption) (by repeat (first | exact List.Sublist.slnil | exact List.Sublist.refl _ | apply List.Sublist.cons_cons | exact List.sublist_append_left _ _ | exact List.sublist_append_right _ _ | apply List.Sublist.cons))
  have hin := listS_lt hg hl
  have hl7 := listS_length left
  repeat' (first | apply pwp_seq | apply pwp_region | (apply px_run; (first | (apply opv_move; first | exact hid_int rfl) | (apply opv_assign; first | exact hid_int rfl) | (apply opv_neq <;> rfl) | (apply opv_len_ints el_int; rfl; (first | exact rd_row 0 rfl))); rfl; rfl) | apply px_nil | apply qseq_normal | apply pwp_block | apply pwp_skip | (apply pwp_cond_ndec; rfl; all_goals (intro hc; try (first | contradiction))) | (apply px_gives; rfl; rfl; rfl; rfl; rfl; exact fun w hw => i_ListOf_c _ _; rintro sl _ rfl))
  refine pwp_loop (τ := Nat) [(8,8), (10,11), (24,46)] (fun k => [(24, .int .i64 (k : Int)), (8, .int .i64 (bestL rows left ((listS left).take k)))])
    (fun _ => Cl [] w [.row 3 sl (ints (listS left)), .row 4 sj (bools j), .row 3 so (ints o), .blk bk [.int .i64 size, gv]]) (fun k => k ≤ (listS left).length) (fun k => (listS left).length - k) 0
    ⟨rfl, rfl, trivial⟩ (Nat.zero_le _) (fun _ h => h) (fun J2 k hk => ?_)
  by_cases hlt : k < (listS left).length
  · have hmem : (listS left).getD k 0 ∈ listS left := getD_mem hlt
    obtain ⟨hx1, hx2⟩ := hin _ hmem
    obtain ⟨_, v, hv, hv7, hvb⟩ := mem_listS.1 hmem
    have hiff : (iand (rows.getD ((listS left).getD k 0).toNat 0) left = 0 ∨ ior (iand (rows.getD ((listS left).getD k 0).toNat 0) left) (ishl 1 ((listS left).getD k 0)) = left) ↔ thrQ rows left v := by rw [hv]; exact thr_iff hg hl hvb (by omega)
    have hstep : bestL rows left ((listS left).take (k + 1)) = if thrQ rows left v then (v : Int) else bestL rows left ((listS left).take k) := by rw [take_snoc hlt, bestL_snoc, hv]; rfl
    repeat' (first | apply pwp_seq | apply pwp_region | (apply px_run; (first | (apply opv_move; first | exact hid_int rfl | exact hid_bool rfl) | (apply opv_assign; first | exact hid_int rfl) | (apply opv_lss <;> rfl) | (apply opv_eql <;> rfl) | (apply opv_and <;> rfl) | (apply opv_or <;> rfl) | (apply opv_pick_t <;> rfl) | (apply opv_pick_f <;> rfl) | (apply opv_add_in; rfl; rfl; omega) | (apply opv_shl; rfl; rfl; omega) | (apply opv_field fld_G1; rfl) | (apply opv_load_blk 3; (first | with_reducible exact sc_int | with_reducible exact sc_ints); rfl; rfl; rfl) | (apply opv_load_ints sc_int; rfl; (first | exact rd_old (by assumption) | exact rd_row 0 rfl); (first | omega)) | (apply opv_index_nat (vs := ints _) el_int; rfl; rfl; (first | exact rd_row 0 rfl); (first | (simp only [ints_length]; omega))) | (apply opv_index (vs := ints _) el_int; rfl; rfl; (first | exact rd_old (by assumption)); omega; (first | (simp only [ints_length]; omega)))); rfl; rfl) | apply px_nil | (apply px_skip; rfl; rfl) | apply qseq_normal | apply pwp_block | apply qblock_normal | apply pwp_skip | (apply pwp_cond_t; rfl) | (apply px_guard_dec; rfl; rfl; rfl; all_goals (intro hc; try (first | fail))) | (apply pwp_cond_dec; rfl; all_goals (intro hc; try (first | (exfalso; omega)))))
    all_goals (refine qround_normal ?_ ⟨k + 1, ⟨rfl, ?_, trivial⟩, by omega, by omega, fun _ h => h⟩)
    all_goals (repeat (first | exact same_refl | refine same_upd rfl ?_ | refine same_junk rfl ?_))
    all_goals
      show Value.int .i64 _ = .int .i64 (bestL rows left ((listS left).take (k + 1)))
      rw [hstep]
    · rw [if_pos (hiff.1 (.inl hc)), hv]
    · rw [if_pos (hiff.1 (.inr hc)), hv]
    · rw [if_neg (fun hq => by rcases hiff.2 hq with h | h <;> contradiction)]
  · have hb : bestL rows left ((listS left).take k) = bestU rows left 7 := by
      obtain rfl : k = (listS left).length := by omega
      rw [List.take_length, listS_eq (by have := hl.2; omega), bestL_listU]
    obtain ⟨hb1, hb2, hb3⟩ := bestU_range rows left 7
    rw [hb]
    by_cases hbn : bestU rows left 7 < 0
    · rw [thrR_stop h0 hbn] at hX
      repeat' (first | apply pwp_seq | apply pwp_region | (apply px_run; (first | (apply opv_move; first | exact hid_int rfl) | (apply opv_assign; first | exact hid_bool rfl | rfl) | (apply opv_lss <;> rfl)); rfl; rfl) | apply px_nil | apply qseq_normal | apply qseq_ret | apply qseq_exit | apply qblock_ret | (apply qblock_exit_same; rfl) | apply pwp_exit | apply pwp_ret | apply qround_ret | apply qround_exit | (apply pwp_cond_dec; rfl; all_goals (intro hc; try (first | contradiction | (exfalso; omega)))))
      refine qbody_ret3 rfl rfl rfl rfl ⟨_, ⟨_, _, by rw [hX]; rfl, rfl⟩, fun w' h => ?_⟩
      rw [thrO_none hX, thrJ_none hX]
      exact ((h.sub (List.nil_sublist _)).nilRow _).nilRow _
    · rw [thrR_next h0 hbn] at hX
      obtain ⟨v, hv⟩ := Int.eq_ofNat_of_zero_le (show 0 ≤ bestU rows left 7 by omega)
      rw [hv] at hX hb1 hb2 hb3 ⊢
      have hq := hb3 (by omega)
      rw [Int.toNat_natCast] at hq hX
      obtain ⟨t1, t2, t3⟩ := take_bit hg hl hq.1 (by omega)
      have hvn : v < n := by
        rcases Nat.lt_or_ge v n with h | h
        · exact h
        · have := hasB_top hn7 (by rw [hn] at hl; exact hl) h (by omega); rw [hq.1] at this; cases this
      repeat' (first | apply pwp_seq | apply pwp_region | (apply px_run; (first | (apply opv_move; first | exact hid_int rfl | rfl) | (apply opv_assign; first | exact hid_int rfl | rfl) | (apply opv_lss <;> rfl) | (apply opv_neq <;> rfl) | (apply opv_and <;> rfl) | (apply opv_andNot <;> rfl) | (apply opv_shl; rfl; rfl; omega) | (apply opv_field fld_G1; rfl) | (apply opv_load_blk 0; (first | with_reducible exact sc_int | with_reducible exact sc_ints); rfl; rfl; rfl) | (apply opv_load_ints sc_int; rfl; (first | exact rd_old (by assumption)); (first | omega)) | (apply opv_index_nat (vs := ints _) el_int; rfl; rfl; (first | exact rd_old (by assumption)); (first | (simp only [ints_length]; omega)))); rfl; rfl) | apply px_nil | apply qseq_normal | apply qseq_exit | apply qblock_normal | (apply qblock_exit_same; rfl) | apply pwp_skip | apply pwp_exit | apply qround_exit | (apply pwp_cond_f; rfl) | (apply pwp_region_any [0, 1, 4, 5, 6, 7, 8, 9, 10, 11, 12] [] 6 (Cl [] w [.blk bk [.int .i64 size, gv]]); kernel_rfl; decide +kernel; exact Cl.stable _ _ _; exact fun w h => h.sub (by repeat (first | exact List.Sublist.refl _ | apply List.Sublist.cons))) | apply qlooks_normal | (apply qstep_in; exact fun w h => h.sub (by repeat (first | exact List.Sublist.refl _ | apply List.Sublist.cons))) | (apply pxa_nil; decide +kernel) | (apply pxa_one 2; decide +kernel; rfl) | (apply pxa_one 3; decide +kernel; rfl) | (apply pxa_one 13; decide +kernel; rfl) | (apply pxa_one 14; decide +kernel; rfl) | (apply pxa_one 15; decide +kernel; rfl) | (apply pxa_one 16; decide +kernel; rfl) | (apply pxa_two 2 13; decide +kernel; rfl; rfl) | (apply pxa_two 3 13; decide +kernel; rfl; rfl) | (apply pwp_cond_dec; rfl; all_goals (intro hc; try (first | (exfalso; omega)))) | (apply px_lit1 ez_int; rfl; (intro w hw; (first | rfl)); rfl; rfl; rfl; intro sv) | (apply px_lit1 ez_bool; rfl; (intro w hw; (first | rfl)); rfl; rfl; rfl; intro sv) | (apply px_append 3 ez_int; rfl; rfl; rfl; (first | exact rd_row 0 rfl); (first | (intro _ _ u hu; simp at hu; subst hu; rfl)); (simp [ints]; omega); decide; rfl; rfl; intro sv) | (apply px_append 4 ez_int; rfl; rfl; rfl; (first | exact rd_row 0 rfl | exact rd_row 1 rfl); (first | (intro _ _ u hu; simp at hu; subst hu; rfl)); (simp [ints]; omega); decide; rfl; rfl; intro sv) | (apply px_append 3 ez_bool; rfl; rfl; rfl; (first | exact rd_row 0 rfl | exact rd_row 1 rfl); (first | (intro _ _ u hu; simp at hu; subst hu; rfl)); (simp [bools]; omega); decide; rfl; rfl; intro sv))
      all_goals
        refine qround_normal ?_ ⟨(f, left - ishl 1 v, o ++ [(v : Int)], j ++ [decide (¬ iand (rows.getD v 0) left = 0)], _, _), ⟨?_, rfl, rfl, trivial⟩, ⟨by dsimp only; omega, by dsimp only; omega, by dsimp only; simp; omega, by dsimp only; simp; omega, hX⟩, by dsimp only; omega, fun w' h => ?_⟩
        · repeat (first | exact same_refl | refine same_upd rfl ?_ | refine same_junk rfl ?_)
        · show Value.int .i64 _ = .int .i64 _
          rw [← t1]
        · dsimp only
          rw [← bools_snoc, ← ints_snoc]
          exact Cl.sub (by assumption) (by repeat (first | exact List.Sublist.slnil | exact List.Sublist.refl _ | apply List.Sublist.cons_cons | exact List.sublist_append_left _ _ | exact List.sublist_append_right _ _ | apply List.Sublist.cons))
theorem en_s_ThresholdOrder : Entry Tryz.prog 7 := ⟨_, Tryz.func7, by kernel_rfl, rfl⟩
set_option maxHeartbeats 4000000 in
theorem s_ThresholdOrder_c (size : Int) (gv : Value) (rows : List Int) (w : World) (hr : Arr w gv (ints rows)) :
    Gives Tryz.prog 7 #[.agg #[.int .i64 size, gv]] w (fun v objs => ∃ s1 s2, v = .tuple #[s1, s2, .bool (thrX size rows).isSome] ∧ objs = [.row 3 s1 (ints (thrO size rows)), .row 4 s2 (bools (thrJ size rows))]) := by
  refine gives_enter (args := [_]) en_s_ThresholdOrder Tryz.func7 rfl Tryz.ntmps7 rfl ?_
  by_cases hg : IsG size rows
  case neg =>
    repeat' (first | apply pwp_seq | apply pwp_region | (apply px_run; (first | (apply opv_move; first | rfl) | (apply opv_assign; first | exact hid_bool rfl | rfl) | (apply opv_not_dec <;> rfl) | (apply opv_load_str 2 st_G; rfl; rfl; rfl) | (apply opv_call; rfl; rfl; exact Cl.stable _ _ _; exact fun w hw => s_IsGraph_c _ _ rows _ (by first | exact hw.arr (by assumption)))); rfl; rfl) | apply px_nil | apply qseq_normal | apply qseq_ret | apply pwp_ret | (apply pwp_cond_ndec; rfl; all_goals (intro hc; try (first | contradiction))) | (apply px_box; rfl; rfl; rfl; rfl; intro bk) | (apply px_lit0 ez_int; rfl; rfl; rfl; intro sv) | (apply px_lit0 ez_bool; rfl; rfl; rfl; intro sv))
    have hX := thrX_none hg
    refine qbody_ret3 rfl rfl rfl rfl ⟨_, ⟨_, _, by rw [hX]; rfl, rfl⟩, fun w' h => ?_⟩
    rw [thrO_none hX, thrJ_none hX]
    exact (h.sub (objs' := [_, _]) (by repeat (first | exact List.Sublist.slnil | exact List.Sublist.refl _ | apply List.Sublist.cons_cons | exact List.sublist_append_left _ _ | exact List.sublist_append_right _ _ | apply List.Sublist.cons))).swap2
  have hsz : 0 ≤ size ∧ size ≤ 7 := ⟨by have := hg.1; omega, hg.1.2⟩
  obtain ⟨hz1, hz2⟩ := id hsz
  obtain ⟨N, hN, hN', hN1, hN2⟩ := shl_nat hg
  obtain ⟨n, hn, hrl, _, hn7⟩ := isG_size hg
  have hX0 := thrX_some hg
  repeat' (first | apply pwp_seq | apply pwp_region | (apply px_run; (first | (apply opv_assign; first | exact hid_int rfl | exact hid_bool rfl | rfl) | (apply opv_not_dec <;> rfl) | (apply opv_sub_in; rfl; rfl; omega) | (apply opv_shl; rfl; rfl; omega) | (apply opv_field fld_G0; rfl) | (apply opv_load_blk 2; (first | with_reducible exact sc_int); rfl; rfl; rfl) | (apply opv_load_str 2 st_G; rfl; rfl; rfl) | (apply opv_call; rfl; rfl; exact Cl.stable _ _ _; exact fun w hw => s_IsGraph_c _ _ rows _ (by first | exact hw.arr (by assumption)))); rfl; rfl) | apply px_nil | apply qseq_normal | apply pwp_block | apply pwp_skip | (apply pwp_cond_ndec; rfl; all_goals (intro hc; try (first | contradiction))) | (apply px_box; rfl; rfl; rfl; rfl; intro bk) | (apply px_lit0 ez_int; rfl; rfl; rfl; intro sv) | (apply px_lit0 ez_bool; rfl; rfl; rfl; intro sv))
  refine pwp_loop (τ := Nat × Int × List Int × List Bool × Value × Value) [(2,11), (23,73)] (fun x => [(7, .int .i64 x.2.1), (5, x.2.2.2.2.1), (6, x.2.2.2.2.2)])
    (fun x => Cl [] w [.row 4 x.2.2.2.2.2 (bools x.2.2.2.1.reverse), .row 3 x.2.2.2.2.1 (ints x.2.2.1.reverse), .blk bk [.int .i64 size, gv]])
    (fun x => (0 ≤ x.2.1 ∧ x.2.1 < ishl 1 size) ∧ x.2.1 < x.1 ∧ x.2.2.1.length + x.1 ≤ 129 ∧ x.2.2.2.1.length = x.2.2.1.length ∧ thrX size rows = thrR rows x.1 x.2.1 x.2.2.1 x.2.2.2.1) (fun x => x.1) (129, ishl 1 size - 1, [], [], _, _)
    ⟨rfl, rfl, rfl, trivial⟩ ⟨by dsimp only; omega, by dsimp only; omega, by dsimp only; simp, rfl, hX0⟩ (fun _ h => h) (fun J x hk => ?_)
  obtain ⟨f, left, o, j, so, sj⟩ := x
  obtain ⟨hl, hlf, hof, hjo, hX⟩ := hk
  dsimp only at hl hlf hof hjo hX ⊢
  obtain ⟨f, rfl⟩ : ∃ f' : Nat, f = f' + 1 := ⟨f - 1, by omega⟩
  by_cases h0 : left = 0
  · subst h0
    rw [thrR_done] at hX
    repeat' (first | apply pwp_seq | apply pwp_region | (apply px_run; (first | (apply opv_move; first | exact hid_int rfl | rfl) | (apply opv_assign; first | exact hid_bool rfl | rfl) | (apply opv_gtr <;> rfl)); rfl; rfl) | apply px_nil | apply qseq_normal | apply qseq_exit | (apply qblock_exit_same; rfl) | apply pwp_exit | apply pwp_ret | apply qround_exit | (apply pwp_cond_f; rfl))
    refine qbody_ret3 rfl rfl rfl rfl ⟨_, ⟨_, _, by rw [hX]; rfl, rfl⟩, fun w' h => ?_⟩
    rw [thrO_some hX, thrJ_some hX]
    exact (h.sub (objs' := [_, _]) (by repeat (first | exact List.Sublist.slnil | exact List.Sublist.refl _ | apply List.Sublist.cons_cons | exact List.sublist_append_left _ _ | exact List.sublist_append_right _ _ | apply List.Sublist.cons))).swap2
  repeat' (first | apply pwp_seq | apply pwp_region | (apply px_run; (first | (apply opv_move; first | exact hid_int rfl) | (apply opv_assign; first | exact hid_int rfl | exact hid_bool rfl) | (apply opv_gtr <;> rfl)); rfl; rfl) | apply px_nil | apply qseq_normal | apply pwp_block | apply pwp_skip | (apply pwp_cond_dec; rfl; all_goals (intro hc; try (first | (exfalso; omega)))))
  refine pwp_loop (τ := Nat) [(8,11), (25,57)] (fun k => [(10, .int .i64 (k : Int)), (8, .int .i64 (bestU rows left k)), (9, .bool (allU rows left k))])
    (fun _ => Cl [] w [.row 4 sj (bools j.reverse), .row 3 so (ints o.reverse), .blk bk [.int .i64 size, gv]]) (fun k => k ≤ n) (fun k => n - k) 0
    ⟨rfl, rfl, rfl, trivial⟩ (Nat.zero_le _) (fun _ h => h) (fun J2 k hk => ?_)
  by_cases hlt : k < n
  · obtain ⟨_, hy2, hy3⟩ := shl1 (n := (k : Int)) ⟨by omega, by omega⟩
    have hs1 : bestU rows left (k + 1) = if thrQ rows left k then (k : Int) else bestU rows left k := rfl
    have hs2 : allU rows left (k + 1) = if thrQ rows left k then decide (¬ iand (rows.getD k 0) left = 0) else allU rows left k := rfl
    have hiff : thrQ rows left k ↔ iand (ishr left k) 1 = 1 ∧ (iand (rows.getD k 0) left = 0 ∨ iand (rows.getD k 0) left = left - ishl 1 k) := by unfold thrQ; rw [hasB_iff]
    repeat' (first | apply pwp_seq | apply pwp_region | (apply px_run; (first | (apply opv_move; first | exact hid_int rfl | exact hid_bool rfl | rfl) | (apply opv_assign; first | exact hid_int rfl | exact hid_bool rfl) | (apply opv_lss <;> rfl) | (apply opv_eql <;> rfl) | (apply opv_neq <;> rfl) | (apply opv_and <;> rfl) | (apply opv_pick_t <;> rfl) | (apply opv_pick_f <;> rfl) | (apply opv_add_in; rfl; rfl; omega) | (apply opv_sub_in; rfl; rfl; omega) | (apply opv_shl; rfl; rfl; omega) | (apply opv_shr; rfl; rfl; omega) | (apply opv_field fld_G0; rfl) | (apply opv_field fld_G1; rfl) | (apply opv_load_blk 2; (first | with_reducible exact sc_int | with_reducible exact sc_ints); rfl; rfl; rfl) | (apply opv_load_ints sc_int; rfl; (first | exact rd_old (by assumption)); (first | omega)) | (apply opv_index_nat (vs := ints _) el_int; rfl; rfl; (first | exact rd_old (by assumption)); (first | (simp only [ints_length]; omega)))); rfl; rfl) | apply px_nil | (apply px_skip; rfl; rfl) | apply qseq_normal | apply pwp_block | apply qblock_normal | apply pwp_skip | (apply pwp_cond_t; rfl) | (apply pwp_cond_f; rfl) | (apply px_guard_dec; rfl; rfl; rfl; all_goals (intro hc; try (first | fail))) | (apply pwp_cond_dec; rfl; all_goals (intro hc; try (first | (exfalso; omega)))))
    all_goals (refine qround_normal ?_ ⟨k + 1, ⟨rfl, ?_, ?_, trivial⟩, by omega, by omega, fun _ h => h⟩)
    all_goals first
      | (show Value.int .i64 _ = .int .i64 (bestU rows left (k + 1)); rw [hs1]; first | (rw [if_pos (hiff.2 ⟨by assumption, .inl (by assumption)⟩)]; done) | (rw [if_pos (hiff.2 ⟨by assumption, .inr (by assumption)⟩)]; done) | (rw [if_neg (fun hq => by obtain ⟨q1, q2⟩ := hiff.1 hq; rcases q2 with q2 | q2 <;> contradiction)]; done) | (rw [if_neg (fun hq => by obtain ⟨q1, q2⟩ := hiff.1 hq; contradiction)]; done))
      | (show Value.bool _ = .bool (allU rows left (k + 1)); rw [hs2]; first | (rw [if_pos (hiff.2 ⟨by assumption, .inl (by assumption)⟩)]; done) | (rw [if_pos (hiff.2 ⟨by assumption, .inr (by assumption)⟩)]; done) | (rw [if_neg (fun hq => by obtain ⟨q1, q2⟩ := hiff.1 hq; rcases q2 with q2 | q2 <;> contradiction)]; done) | (rw [if_neg (fun hq => by obtain ⟨q1, q2⟩ := hiff.1 hq; contradiction)]; done))
      | skip
    all_goals (repeat (first | exact same_refl | refine same_upd rfl ?_ | refine same_junk rfl ?_))
  · obtain rfl : k = n := by omega
    have hb : bestU rows left k = bestU rows left 7 := (bestU_top (fun v h1 h2 => hasB_top hn7 (by rw [hn] at hl; exact hl) h1 h2) 7 (by omega) (by omega)).symm
    obtain ⟨hb1, hb2, hb3⟩ := bestU_range rows left 7
    have hall := allU_best rows left k
    rw [hb] at hall
    rw [hb]
    by_cases hbn : bestU rows left 7 < 0
    · rw [thrR_stop h0 hbn] at hX
      repeat' (first | apply pwp_seq | apply pwp_region | (apply px_run; (first | (apply opv_move; first | exact hid_int rfl) | (apply opv_assign; first | exact hid_bool rfl | rfl) | (apply opv_lss <;> rfl) | (apply opv_field fld_G0; rfl) | (apply opv_load_blk 2; (first | with_reducible exact sc_int); rfl; rfl; rfl)); rfl; rfl) | apply px_nil | apply qseq_normal | apply qseq_ret | apply qseq_exit | apply qblock_ret | (apply qblock_exit_same; rfl) | apply pwp_exit | apply pwp_ret | apply qround_ret | apply qround_exit | (apply pwp_cond_dec; rfl; all_goals (intro hc; try (first | contradiction | (exfalso; omega)))) | (apply px_lit0 ez_int; rfl; rfl; rfl; intro sv) | (apply px_lit0 ez_bool; rfl; rfl; rfl; intro sv))
      refine qbody_ret3 rfl rfl rfl rfl ⟨_, ⟨_, _, by rw [hX]; rfl, rfl⟩, fun w' h => ?_⟩
      rw [thrO_none hX, thrJ_none hX]
      exact (h.sub (objs' := [_, _]) (by repeat (first | exact List.Sublist.slnil | exact List.Sublist.refl _ | apply List.Sublist.cons_cons | exact List.sublist_append_left _ _ | exact List.sublist_append_right _ _ | apply List.Sublist.cons))).swap2
    · rw [thrR_next h0 hbn] at hX
      rw [hall (by omega)]
      obtain ⟨v, hv⟩ := Int.eq_ofNat_of_zero_le (show 0 ≤ bestU rows left 7 by omega)
      rw [hv] at hX hb1 hb2 hb3 ⊢
      have hq := hb3 (by omega)
      rw [Int.toNat_natCast] at hq hX ⊢
      obtain ⟨t1, t2, t3⟩ := take_bit hg hl hq.1 (by omega)
      repeat' (first | apply pwp_seq | apply pwp_region | (apply px_run; (first | (apply opv_move; first | exact hid_int rfl | exact hid_bool rfl | rfl) | (apply opv_assign; first | exact hid_int rfl | rfl) | (apply opv_lss <;> rfl) | (apply opv_sub_in; rfl; rfl; omega) | (apply opv_shl; rfl; rfl; omega) | (apply opv_field fld_G0; rfl) | (apply opv_load_blk 2; (first | with_reducible exact sc_int); rfl; rfl; rfl)); rfl; rfl) | apply px_nil | apply qseq_normal | apply qseq_exit | apply qblock_normal | (apply qblock_exit_same; rfl) | apply pwp_skip | apply pwp_exit | apply qround_exit | (apply pwp_cond_f; rfl) | (apply pwp_cond_dec; rfl; all_goals (intro hc; try (first | (exfalso; omega)))) | (apply px_lit1 ez_int; rfl; (intro w hw; (first | rfl)); rfl; rfl; rfl; intro sv) | (apply px_lit1 ez_bool; rfl; (intro w hw; (first | rfl)); rfl; rfl; rfl; intro sv) | (apply px_append 0 ez_int; rfl; rfl; rfl; (first | exact rd_row 2 rfl); (first | exact fun _ _ => stor_ints); (simp [ints]; omega); decide; rfl; rfl; intro sv) | (apply px_append 0 ez_bool; rfl; rfl; rfl; (first | exact rd_row 2 rfl); (first | exact fun _ _ => stor_bools); (simp [bools]; omega); decide; rfl; rfl; intro sv))
      refine qround_normal ?_ ⟨(f, left - ishl 1 v, o ++ [(v : Int)], j ++ [decide (¬ iand (rows.getD v 0) left = 0)], _, _), ⟨rfl, rfl, rfl, trivial⟩, ⟨by dsimp only; omega, by dsimp only; omega, by dsimp only; simp; omega, by dsimp only; simp; omega, hX⟩, by dsimp only; omega, fun w' h => ?_⟩
      · repeat (first | exact same_refl | refine same_upd rfl ?_ | refine same_junk rfl ?_)
      · dsimp only
        rw [List.reverse_append, List.reverse_append]
        exact Cl.sub (by assumption) (by repeat (first | exact List.Sublist.slnil | exact List.Sublist.refl _ | apply List.Sublist.cons_cons | exact List.sublist_append_left _ _ | exact List.sublist_append_right _ _ | apply List.Sublist.cons))
theorem en_i_IsThreshold : Entry Tryz.prog 11 := ⟨_, Tryz.func11, by kernel_rfl, rfl⟩
theorem i_IsThreshold_c (size : Int) (gv : Value) (rows : List Int) (w : World) (hr : Arr w gv (ints rows)) :
    Pure Tryz.prog 11 #[.agg #[.int .i64 size, gv]] w (.bool (thrX size rows).isSome) := by
  refine pure_enter (args := [_]) en_i_IsThreshold Tryz.func11 rfl Tryz.ntmps11 rfl ?_
  repeat' (first | apply pwp_seq | apply pwp_region | (apply px_run; (first | (apply opv_move; first | exact hid_bool rfl | rfl) | (apply opv_assign; first | exact hid_bool rfl | rfl) | (apply opv_load_str 0 st_G; rfl; rfl; rfl) | (apply opv_extract; rfl; rfl)); rfl; rfl) | apply px_nil | apply qseq_normal | apply pwp_ret | (apply px_box; rfl; rfl; rfl; rfl; intro bk) | (apply px_gives; rfl; rfl; rfl; rfl; rfl; exact fun w hw => i_ThresholdOrder_c _ _ rows _ (by first | exact hw.arr (by assumption)); rintro _ _ ⟨s1, s2, rfl, rfl⟩))
  refine qbody_ret1 (v := .bool _) rfl rfl ⟨rfl, fun _ h => h.below⟩
end Go.Proofs.YtdenkbephkfifaaGreat
/- Threshold weights found. -/
namespace Go.Proofs.YtdenkbephkfifaaGreat
open Go Go.RowKit Go.Pw

theorem en_i_WeightsOf : Entry Tryz.prog 8 := ⟨_, Tryz.func8, by kernel_rfl, rfl⟩
set_option maxHeartbeats 4000000 in
theorem i_WeightsOf_c (size : Int) (gv : Value) (rows : List Int) (w : World) (hr : Arr w gv (ints rows)) :
    Gives Tryz.prog 8 #[.agg #[.int .i64 size, gv]] w (fun v objs => ∃ sv, v = .tuple #[sv, .int .i64 (wtL size rows), .bool (thrX size rows).isSome] ∧ objs = [.row 3 sv (ints (wtW size rows))]) := by
  refine gives_enter (args := [_]) en_i_WeightsOf Tryz.func8 rfl Tryz.ntmps8 rfl ?_
  cases hX : thrX size rows with
  | none =>
    have hto := fun w' h => i_ThresholdOrder_c size gv rows w' h
    rw [hX] at hto
    have h1 : wtW size rows = [] := by unfold wtW; rw [hX]; rfl
    have h2 : wtL size rows = 0 := by unfold wtL; rw [hX]; rfl
    rw [h1, h2]
    repeat' (first | apply pwp_seq | apply pwp_region | (apply px_run; (first | (apply opv_move; first | exact hid_bool rfl | rfl) | (apply opv_assign; first | exact hid_int rfl | exact hid_bool rfl | rfl) | (apply opv_not <;> rfl) | (apply opv_load_str 0 st_G; rfl; rfl; rfl) | (apply opv_extract; rfl; rfl)); rfl; rfl) | apply px_nil | apply qseq_normal | apply qseq_ret | apply pwp_ret | (apply pwp_cond_t; rfl) | (apply px_box; rfl; rfl; rfl; rfl; intro bk) | (apply px_gives; rfl; rfl; rfl; rfl; rfl; exact fun w hw => hto _ (by first | exact hw.arr (by assumption)); rintro _ _ ⟨s1, s2, rfl, rfl⟩))
    refine qbody_ret3 rfl rfl rfl rfl ⟨_, ⟨_, rfl, rfl⟩, fun w' h => ?_⟩
    exact (h.sub (List.nil_sublist _)).nilRow _
  | some p =>
    have hto := fun w' h => i_ThresholdOrder_c size gv rows w' h
    rw [hX] at hto
    have hg : IsG size rows := by
      apply Classical.byContradiction
      intro hg
      rw [thrX_none hg] at hX; cases hX
    obtain ⟨n, hn, hrl, hn1, hn7⟩ := isG_size hg
    subst hn
    have hn : (n : Int) = n := rfl
    obtain ⟨ho1, ho2, ho3⟩ := thr_order hg hn hX
    have hlen := (thr_lengths (n : Int) rows).1
    have h1 : wtW (n : Int) rows = (wtU n (thrO (n : Int) rows) (thrJ (n : Int) rows) (thrO (n : Int) rows).length).1 := by unfold wtW; rw [hX]; rfl
    have h2 : wtL (n : Int) rows = (wtU n (thrO (n : Int) rows) (thrJ (n : Int) rows) (thrO (n : Int) rows).length).2 := by unfold wtL; rw [hX]; rfl
    rw [h1, h2]
    generalize thrO (n : Int) rows = o at *
    generalize thrJ (n : Int) rows = j at *
    repeat' (first | apply pwp_seq | apply pwp_region | (apply px_run; (first | (apply opv_move; first | exact hid_int rfl | exact hid_bool rfl | rfl) | (apply opv_assign; first | exact hid_int rfl | exact hid_bool rfl | rfl) | (apply opv_not <;> rfl) | (apply opv_field fld_G0; rfl) | (apply opv_load_blk 2; (first | with_reducible exact sc_int); rfl; rfl; rfl) | (apply opv_len_ints el_int; rfl; (first | exact rd_row 1 rfl)) | (apply opv_load_str 0 st_G; rfl; rfl; rfl) | (apply opv_extract; rfl; rfl)); rfl; rfl) | apply px_nil | apply qseq_normal | apply pwp_block | apply pwp_skip | (apply pwp_cond_f; rfl) | (apply px_box; rfl; rfl; rfl; rfl; intro bk) | (apply px_make ez_int; rfl; rfl; rfl; rfl; rfl; omega; (simp only [maxLen]; omega); intro sv) | (apply px_gives; rfl; rfl; rfl; rfl; rfl; exact fun w hw => hto _ (by first | exact hw.arr (by assumption)); rintro _ _ ⟨s1, s2, rfl, rfl⟩))
    refine pwp_loop (τ := Nat) [(9,11), (13,13), (27,58)] (fun i => [(27, .int .i64 (i : Int)), (9, .int .i64 (wtU n o j i).2)]) (fun i => Cl [] w [.row 3 sv (ints (wtU n o j i).1), .row 3 s1 (ints o), .row 4 s2 (bools j), .blk bk [.int .i64 (n : Int), gv]]) (fun i => i ≤ o.length) (fun i => o.length - i) 0
      ⟨rfl, rfl, trivial⟩ (Nat.zero_le _) (fun _ h => by simpa [ints, wtU] using h) (fun J i hi => ?_)
    obtain ⟨hw1, hw2, hw3⟩ := wtU_spec n o j i
    have hi129 : (i : Int) ≤ 129 := by omega
    have hq : (1000 : Int) * i * i ≤ 1000 * 129 * 129 := Int.mul_le_mul (by omega) hi129 (by omega) (by omega)
    by_cases hlt : i < o.length
    · obtain ⟨q1, q2⟩ := ho1 i hlt
      have hsucc : wtU n o j (i + 1) = if j.getD i false = true then ((wtU n o j i).1.set (o.getD i 0).toNat ((wtU n o j i).2 + 1), (wtU n o j i).2) else (incU o (wtU n o j i).1 i, (wtU n o j i).2 + 2) := rfl
      repeat' (first | apply pwp_seq | apply pwp_region | (apply px_run; (first | (apply opv_move; first | exact hid_int rfl | rfl) | (apply opv_assign; first | exact hid_int rfl) | (apply opv_lss <;> rfl) | (apply opv_add_in; rfl; rfl; omega) | (apply opv_load_ints sc_int; rfl; (first | exact rd_row 1 rfl); (first | omega)) | (apply opv_index_nat (vs := ints _) el_int; rfl; rfl; (first | exact rd_row 1 rfl); (first | (simp only [ints_length]; omega))) | (apply opv_index (vs := ints _) el_int; rfl; rfl; (first | exact rd_row 0 rfl); omega; (first | (simp only [ints_length]; omega))) | (apply opv_len_ints el_int; rfl; (first | exact rd_take (rd_row 1 rfl) (by omega))) | (apply opv_load_bools sc_bool; rfl; (first | exact rd_row 2 rfl); (first | omega)) | (apply opv_index_nat (vs := bools _) el_bool; rfl; rfl; (first | exact rd_row 2 rfl); (first | (simp only [bools_length]; omega))) | (apply opv_take el_int; rfl; rfl; (first | exact rd_row 1 rfl); (first | (simp only [ints_length]; omega)))); rfl; rfl) | apply px_nil | apply qseq_normal | apply qseq_exit | apply pwp_block | (apply qblock_exit_same; rfl) | apply pwp_skip | apply pwp_exit | (apply pwp_cond_dec; rfl; all_goals (intro hc; try (first | (exfalso; omega)))) | (apply pwp_cond; rfl; all_goals (intro hc; try (first | fail))) | (apply px_store_int 0 co_int; rfl; rfl; rfl; (first | omega); rfl))
      · have e : wtU n o j (i + 1) = ((wtU n o j i).1.set (o.getD i 0).toNat ((wtU n o j i).2 + 1), (wtU n o j i).2) := by rw [hsucc, if_pos hc]
        refine qround_normal ?_ ⟨i + 1, ⟨rfl, ?_, trivial⟩, by omega, by omega, fun w' h => ?_⟩
        · repeat (first | exact same_refl | refine same_upd rfl ?_ | refine same_junk rfl ?_)
        · show Value.int .i64 _ = .int .i64 _
          rw [e]
        · rw [e]
          exact Cl.sub (by assumption) (by repeat (first | exact List.Sublist.slnil | exact List.Sublist.refl _ | apply List.Sublist.cons_cons | exact List.sublist_append_left _ _ | exact List.sublist_append_right _ _ | apply List.Sublist.cons))
      · have e : wtU n o j (i + 1) = (incU o (wtU n o j i).1 i, (wtU n o j i).2 + 2) := by rw [hsucc, if_neg (by rw [hc]; exact Bool.false_ne_true)]
        have htl : (o.take i).length = i := by rw [List.length_take]; omega
        refine pwp_loop (τ := Nat) [(13,13), (45,55)] (fun k => [(45, .int .i64 (k : Int))]) (fun k => Cl [] w [.row 3 sv (ints (incU o (wtU n o j i).1 k)), .row 3 s1 (ints o), .row 4 s2 (bools j), .blk bk [.int .i64 (n : Int), gv]]) (fun k => k ≤ i) (fun k => i - k) 0
          ⟨rfl, trivial⟩ (Nat.zero_le _) (fun _ h => h) (fun J2 k hk => ?_)
        by_cases hki : k < i
        · obtain ⟨q3, q4⟩ := ho1 k (by omega)
          have hgt : (o.take i).getD k 0 = o.getD k 0 := by simp only [List.getD, List.getElem?_take]; rw [if_pos hki]
          have hil := incU_length o (wtU n o j i).1 k
          obtain ⟨q5, q6⟩ := incU_bound o (wtU n o j i).1 (1000 * i * i) hw3 k (o.getD k 0).toNat
          rw [← hgt] at q3 q4 q5 q6
          have hk129 : (k : Int) ≤ 129 := by omega
          have hst : incU o (wtU n o j i).1 (k + 1) = (incU o (wtU n o j i).1 k).set (o.getD k 0).toNat ((incU o (wtU n o j i).1 k).getD (o.getD k 0).toNat 0 + 1) := rfl
          rw [← hgt] at hst
          repeat' (first | apply pwp_seq | apply pwp_region | (apply px_run; (first | (apply opv_move; first | exact hid_int rfl | rfl) | (apply opv_assign; first | exact hid_int rfl) | (apply opv_lss <;> rfl) | (apply opv_add_in; rfl; rfl; omega) | (apply opv_load_ints sc_int; rfl; (first | exact rd_row 0 rfl | exact rd_take (rd_row 1 rfl) (by omega)); (first | omega)) | (apply opv_index_nat (vs := ints _) el_int; rfl; rfl; (first | exact rd_take (rd_row 1 rfl) (by omega)); (first | (simp only [ints_length]; omega))) | (apply opv_index (vs := ints _) el_int; rfl; rfl; (first | exact rd_row 0 rfl); omega; (first | (simp only [ints_length]; omega)))); rfl; rfl) | apply px_nil | apply qseq_normal | apply pwp_block | apply qblock_normal | apply pwp_skip | (apply pwp_cond_dec; rfl; all_goals (intro hc; try (first | (exfalso; omega)))) | (apply px_store_int 0 co_int; rfl; rfl; rfl; (first | omega); rfl))
          refine qround_normal ?_ ⟨k + 1, ⟨rfl, trivial⟩, by omega, by omega, fun w' h => ?_⟩
          · repeat (first | exact same_refl | refine same_upd rfl ?_ | refine same_junk rfl ?_)
          · rw [hst]; exact h
        · obtain rfl : k = i := by omega
          repeat' (first | apply pwp_seq | apply pwp_region | (apply px_run; (first | (apply opv_move; first | exact hid_int rfl) | (apply opv_assign; first | exact hid_int rfl) | (apply opv_lss <;> rfl) | (apply opv_add_in; rfl; rfl; omega)); rfl; rfl) | apply px_nil | apply qseq_normal | apply qseq_exit | apply qblock_normal | (apply qblock_exit_same; rfl) | apply pwp_exit | apply qround_exit | (apply pwp_cond_dec; rfl; all_goals (intro hc; try (first | (exfalso; omega)))))
          refine qround_normal ?_ ⟨k + 1, ⟨rfl, ?_, trivial⟩, by omega, by omega, fun w' h => ?_⟩
          · repeat (first | exact same_refl | refine same_upd rfl ?_ | refine same_junk rfl ?_)
          · show Value.int .i64 _ = .int .i64 _
            rw [e]
          · rw [e]
            exact Cl.sub (by assumption) (by repeat (first | exact List.Sublist.slnil | exact List.Sublist.refl _ | apply List.Sublist.cons_cons | exact List.sublist_append_left _ _ | exact List.sublist_append_right _ _ | apply List.Sublist.cons))
    · obtain rfl : i = o.length := by omega
      repeat' (first | apply pwp_seq | apply pwp_region | (apply px_run; (first | (apply opv_move; first | exact hid_int rfl | rfl) | (apply opv_assign; first | exact hid_int rfl | exact hid_bool rfl | rfl) | (apply opv_lss <;> rfl)); rfl; rfl) | apply px_nil | apply qseq_normal | apply qseq_exit | (apply qblock_exit_same; rfl) | apply pwp_exit | apply pwp_ret | apply qround_exit | (apply pwp_cond_dec; rfl; all_goals (intro hc; try (first | (exfalso; omega)))))
      refine qbody_ret3 rfl rfl rfl rfl ⟨_, ⟨_, rfl, rfl⟩, fun w' h => ?_⟩
      exact Cl.sub (by assumption) (by repeat (first | exact List.Sublist.slnil | exact List.Sublist.refl _ | apply List.Sublist.cons_cons | exact List.sublist_append_left _ _ | exact List.sublist_append_right _ _ | apply List.Sublist.cons))
theorem en_s_WeightsOf : Entry Tryz.prog 9 := ⟨_, Tryz.func9, by kernel_rfl, rfl⟩
set_option maxHeartbeats 4000000 in
theorem s_WeightsOf_c (size : Int) (gv : Value) (rows : List Int) (w : World) (hr : Arr w gv (ints rows)) :
    Gives Tryz.prog 9 #[.agg #[.int .i64 size, gv]] w (fun v objs => ∃ sv, v = .tuple #[sv, .int .i64 (wtL size rows), .bool (thrX size rows).isSome] ∧ objs = [.row 3 sv (ints (wtW size rows))]) := by
  refine gives_enter (args := [_]) en_s_WeightsOf Tryz.func9 rfl Tryz.ntmps9 rfl ?_
  cases hX : thrX size rows with
  | none =>
    have hto := fun w' h => s_ThresholdOrder_c size gv rows w' h
    rw [hX] at hto
    have h1 : wtW size rows = [] := by unfold wtW; rw [hX]; rfl
    have h2 : wtL size rows = 0 := by unfold wtL; rw [hX]; rfl
    rw [h1, h2]
    repeat' (first | apply pwp_seq | apply pwp_region | (apply px_run; (first | (apply opv_move; first | exact hid_bool rfl | rfl) | (apply opv_assign; first | exact hid_int rfl | exact hid_bool rfl | rfl) | (apply opv_not <;> rfl) | (apply opv_load_str 0 st_G; rfl; rfl; rfl) | (apply opv_extract; rfl; rfl)); rfl; rfl) | apply px_nil | apply qseq_normal | apply qseq_ret | apply pwp_ret | (apply pwp_cond_t; rfl) | (apply px_box; rfl; rfl; rfl; rfl; intro bk) | (apply px_lit0 ez_int; rfl; rfl; rfl; intro sv) | (apply px_gives; rfl; rfl; rfl; rfl; rfl; exact fun w hw => hto _ (by first | exact hw.arr (by assumption)); rintro _ _ ⟨s1, s2, rfl, rfl⟩))
    refine qbody_ret3 rfl rfl rfl rfl ⟨_, ⟨_, rfl, rfl⟩, fun w' h => ?_⟩
    exact Cl.sub (by assumption) (by repeat (first | exact List.Sublist.slnil | exact List.Sublist.refl _ | apply List.Sublist.cons_cons | exact List.sublist_append_left _ _ | exact List.sublist_append_right _ _ | apply List.Sublist.cons))
  | some p =>
    have hto := fun w' h => s_ThresholdOrder_c size gv rows w' h
    rw [hX] at hto
    have hg : IsG size rows := by
      apply Classical.byContradiction
      intro hg
      rw [thrX_none hg] at hX; cases hX
    obtain ⟨n, hn, hrl, hn1, hn7⟩ := isG_size hg
    subst hn
    have hn : (n : Int) = n := rfl
    obtain ⟨ho1, ho2, ho3⟩ := thr_order hg hn hX
    have hlen := (thr_lengths (n : Int) rows).1
    have h1 : wtW (n : Int) rows = (wtU n (thrO (n : Int) rows) (thrJ (n : Int) rows) (thrO (n : Int) rows).length).1 := by unfold wtW; rw [hX]; rfl
    have h2 : wtL (n : Int) rows = (wtU n (thrO (n : Int) rows) (thrJ (n : Int) rows) (thrO (n : Int) rows).length).2 := by unfold wtL; rw [hX]; rfl
    rw [h1, h2]
    generalize thrO (n : Int) rows = o at *
    generalize thrJ (n : Int) rows = j at *
    repeat' (first | apply pwp_seq | apply pwp_region | (apply px_run; (first | (apply opv_move; first | exact hid_bool rfl | rfl) | (apply opv_assign; first | exact hid_int rfl | exact hid_bool rfl | rfl) | (apply opv_not <;> rfl) | (apply opv_field fld_G0; rfl) | (apply opv_load_blk 2; (first | with_reducible exact sc_int); rfl; rfl; rfl) | (apply opv_load_str 0 st_G; rfl; rfl; rfl) | (apply opv_extract; rfl; rfl)); rfl; rfl) | apply px_nil | apply qseq_normal | apply pwp_block | apply pwp_skip | (apply pwp_cond_f; rfl) | (apply px_box; rfl; rfl; rfl; rfl; intro bk) | (apply px_make ez_int; rfl; rfl; rfl; rfl; rfl; omega; (simp only [maxLen]; omega); intro sv) | (apply px_gives; rfl; rfl; rfl; rfl; rfl; exact fun w hw => hto _ (by first | exact hw.arr (by assumption)); rintro _ _ ⟨s1, s2, rfl, rfl⟩))
    refine pwp_loop (τ := Nat) [(9,11), (24,68)] (fun i => [(10, .int .i64 (i : Int)), (9, .int .i64 (wtU n o j i).2)]) (fun i => Cl [] w [.row 3 sv (ints (wtU n o j i).1), .row 3 s1 (ints o), .row 4 s2 (bools j), .blk bk [.int .i64 (n : Int), gv]]) (fun i => i ≤ o.length) (fun i => o.length - i) 0
      ⟨rfl, rfl, trivial⟩ (Nat.zero_le _) (fun _ h => by simpa [ints, wtU] using h) (fun J i hi => ?_)
    obtain ⟨hw1, hw2, hw3⟩ := wtU_spec n o j i
    have hi129 : (i : Int) ≤ 129 := by omega
    have hq : (1000 : Int) * i * i ≤ 1000 * 129 * 129 := Int.mul_le_mul (by omega) hi129 (by omega) (by omega)
    by_cases hlt : i < o.length
    · obtain ⟨q1, q2⟩ := ho1 i hlt
      have hsucc : wtU n o j (i + 1) = if j.getD i false = true then ((wtU n o j i).1.set (o.getD i 0).toNat ((wtU n o j i).2 + 1), (wtU n o j i).2) else (incU o (wtU n o j i).1 i, (wtU n o j i).2 + 2) := rfl
      repeat' (first | apply pwp_seq | apply pwp_region | (apply px_run; (first | (apply opv_move; first | exact hid_int rfl | rfl) | (apply opv_assign; first | exact hid_int rfl) | (apply opv_lss <;> rfl) | (apply opv_add_in; rfl; rfl; omega) | (apply opv_load_ints sc_int; rfl; (first | exact rd_row 1 rfl); (first | omega)) | (apply opv_index_nat (vs := ints _) el_int; rfl; rfl; (first | exact rd_row 1 rfl); (first | (simp only [ints_length]; omega))) | (apply opv_index (vs := ints _) el_int; rfl; rfl; (first | exact rd_row 0 rfl); omega; (first | (simp only [ints_length]; omega))) | (apply opv_len_ints el_int; rfl; (first | exact rd_row 1 rfl)) | (apply opv_load_bools sc_bool; rfl; (first | exact rd_row 2 rfl); (first | omega)) | (apply opv_index_nat (vs := bools _) el_bool; rfl; rfl; (first | exact rd_row 2 rfl); (first | (simp only [bools_length]; omega)))); rfl; rfl) | apply px_nil | apply qseq_normal | apply qseq_exit | apply pwp_block | (apply qblock_exit_same; rfl) | apply pwp_skip | apply pwp_exit | (apply pwp_cond_dec; rfl; all_goals (intro hc; try (first | (exfalso; omega)))) | (apply pwp_cond; rfl; all_goals (intro hc; try (first | fail))) | (apply px_store_int 0 co_int; rfl; rfl; rfl; (first | omega); rfl))
      · have e : wtU n o j (i + 1) = ((wtU n o j i).1.set (o.getD i 0).toNat ((wtU n o j i).2 + 1), (wtU n o j i).2) := by rw [hsucc, if_pos hc]
        refine qround_normal ?_ ⟨i + 1, ⟨rfl, ?_, trivial⟩, by omega, by omega, fun w' h => ?_⟩
        · repeat (first | exact same_refl | refine same_upd rfl ?_ | refine same_junk rfl ?_)
        · show Value.int .i64 _ = .int .i64 _
          rw [e]
        · rw [e]
          exact Cl.sub (by assumption) (by repeat (first | exact List.Sublist.slnil | exact List.Sublist.refl _ | apply List.Sublist.cons_cons | exact List.sublist_append_left _ _ | exact List.sublist_append_right _ _ | apply List.Sublist.cons))
      · have e : wtU n o j (i + 1) = (incU o (wtU n o j i).1 i, (wtU n o j i).2 + 2) := by rw [hsucc, if_neg (by rw [hc]; exact Bool.false_ne_true)]
        repeat' (first
            | apply pwp_seq
            | apply pwp_region
            | (apply px_run; (first
                | (apply opv_move; first | exact hid_int rfl | exact hid_bool rfl | exact hid_ptr rfl | rfl)
                | (apply opv_assign; first | exact hid_int rfl | exact hid_bool rfl | exact hid_ptr rfl | rfl)
                | (apply opv_lss <;> rfl)
                | (apply opv_leq <;> rfl)
                | (apply opv_gtr <;> rfl)
                | (apply opv_geq <;> rfl)
                | (apply opv_eql <;> rfl)
                | (apply opv_neq <;> rfl)
                | (apply opv_and <;> rfl)
                | (apply opv_or <;> rfl)
                | (apply opv_xor <;> rfl)
                | (apply opv_andNot <;> rfl)
                | (apply opv_pick_t <;> rfl)
                | (apply opv_pick_f <;> rfl)
                | (apply opv_not_dec <;> rfl)
                | (apply opv_not <;> rfl)
                | (apply opv_neg <;> rfl)
                | (apply opv_add_in; rfl; rfl; omega)
                | (apply opv_sub_in; rfl; rfl; omega)
                | (apply opv_mul_in; rfl; rfl; omega)
                | (apply opv_shl; rfl; rfl; omega)
                | (apply opv_shr; rfl; rfl; omega)
                | (apply opv_quo; rfl; rfl; omega)
                | (apply opv_rem; rfl; rfl; omega)
                | (apply opv_field fld_G0; rfl)
                | (apply opv_field fld_G1; rfl)
                | (apply opv_load_blk 0; (first | with_reducible exact sc_int | with_reducible exact sc_ints); rfl; rfl; rfl)
                | (apply opv_load_blk 1; (first | with_reducible exact sc_int | with_reducible exact sc_ints); rfl; rfl; rfl)
                | (apply opv_load_blk 2; (first | with_reducible exact sc_int | with_reducible exact sc_ints); rfl; rfl; rfl)
                | (apply opv_load_blk 3; (first | with_reducible exact sc_int | with_reducible exact sc_ints); rfl; rfl; rfl)
                | (apply opv_load_blk 4; (first | with_reducible exact sc_int | with_reducible exact sc_ints); rfl; rfl; rfl)
                | (apply opv_load_ints sc_int; rfl; (first | exact rd_old (by assumption) | exact rd_row 0 rfl | exact rd_row 1 rfl | exact rd_row 2 rfl | exact rd_row 3 rfl | exact rd_row 4 rfl); (first | omega | (simp only [List.length_set]; omega)))
                | (apply opv_index_nat (vs := ints _) el_int; rfl; rfl; (first | exact rd_old (by assumption) | exact rd_row 0 rfl | exact rd_row 1 rfl | exact rd_row 2 rfl | exact rd_row 3 rfl | exact rd_row 4 rfl); (first | (simp only [ints_length]; omega) | (simp [ints]; omega)))
                | (apply opv_index (vs := ints _) el_int; rfl; rfl; (first | exact rd_old (by assumption) | exact rd_row 0 rfl | exact rd_row 1 rfl | exact rd_row 2 rfl | exact rd_row 3 rfl | exact rd_row 4 rfl); omega; (first | (simp only [ints_length]; omega) | (simp [ints]; omega)))
                | (apply opv_len_ints el_int; rfl; (first | exact rd_old (by assumption) | exact rd_row 0 rfl | exact rd_row 1 rfl | exact rd_row 2 rfl | exact rd_row 3 rfl | exact rd_row 4 rfl))
                | (apply opv_load_str 0 st_G; rfl; rfl; rfl)
                | (apply opv_load_str 1 st_G; rfl; rfl; rfl)
                | (apply opv_load_str 2 st_G; rfl; rfl; rfl)
                | (apply opv_load_str 3 st_G; rfl; rfl; rfl)
                | (apply opv_load_str 4 st_G; rfl; rfl; rfl)
                | (apply opv_add <;> rfl)
                | (apply opv_sub <;> rfl)
                | (apply opv_mul <;> rfl)
                | (apply opv_eql_bool ty_bool <;> rfl)
                | (apply opv_neq_bool ty_bool <;> rfl)); rfl; rfl)
            | apply px_nil
            | (apply px_skip; rfl; rfl)
            | apply qseq_normal
            | apply qseq_ret
            | apply qseq_exit
            | apply pwp_block
            | apply qblock_normal
            | apply qblock_ret
            | (apply qblock_exit_same; rfl)
            | (apply qblock_exit_other; rfl)
            | apply pwp_skip
            | apply pwp_exit
            | apply pwp_ret
            | apply qround_ret
            | apply qround_exit
            | apply qonce_ret
            | apply qonce_exit
            | (apply pwp_cond_t; rfl)
            | (apply pwp_cond_f; rfl)
            | (apply pwp_region_mix; kernel_rfl; decide +kernel; exact Cl.stable _ _ _)
            | (apply pwp_region_draw; kernel_rfl; kernel_rfl; exact Cl.stable _ _ _)
            | (apply px_guard_ndec; rfl; rfl; rfl; all_goals (intro hc; try (first | contradiction | (exfalso; omega) | (exfalso; simp at hc; done))))
            | (apply px_guard_dec; rfl; rfl; rfl; all_goals (intro hc; try (first | contradiction | (exfalso; omega) | (exfalso; simp at hc; done))))
            | (apply px_guard_not; rfl; rfl; rfl; all_goals (intro hc; try (first | contradiction | (exfalso; omega) | (exfalso; simp at hc; done))))
            | (apply px_guard; rfl; rfl; rfl; all_goals (intro hc; (first | contradiction | (fail_if_success (cases hc); try (first | (exfalso; omega) | (exfalso; simp at hc; done))))))
            | (apply pwp_cond_ndec; rfl; all_goals (intro hc; try (first | contradiction | (exfalso; omega) | (exfalso; simp at hc; done))))
            | (apply pwp_cond_dec; rfl; all_goals (intro hc; try (first | contradiction | (exfalso; omega) | (exfalso; simp at hc; done))))
            | (apply pwp_cond_not; rfl; all_goals (intro hc; try (first | contradiction | (exfalso; omega) | (exfalso; simp at hc; done))))
            | (apply pwp_cond; rfl; all_goals (intro hc; try (first | contradiction | (exfalso; omega) | (exfalso; simp at hc; done))))
            | (apply px_box; rfl; rfl; rfl; rfl; intro bk))
        refine pwp_loop (τ := Nat) [(11,11), (42,60)] (fun k => [(11, .int .i64 (k : Int))]) (fun k => Cl [] w [.row 3 sv (ints (incU o (wtU n o j i).1 k)), .row 3 s1 (ints o), .row 4 s2 (bools j), .blk bk [.int .i64 (n : Int), gv]]) (fun k => k ≤ i) (fun k => i - k) 0
          ⟨rfl, trivial⟩ (Nat.zero_le _) (fun _ h => h) (fun J2 k hk => ?_)
        by_cases hki : k < i
        · obtain ⟨q3, q4⟩ := ho1 k (by omega)
          have hil := incU_length o (wtU n o j i).1 k
          obtain ⟨q5, q6⟩ := incU_bound o (wtU n o j i).1 (1000 * i * i) hw3 k (o.getD k 0).toNat
          have hk129 : (k : Int) ≤ 129 := by omega
          have hst : incU o (wtU n o j i).1 (k + 1) = (incU o (wtU n o j i).1 k).set (o.getD k 0).toNat ((incU o (wtU n o j i).1 k).getD (o.getD k 0).toNat 0 + 1) := rfl
          repeat' (first | apply pwp_seq | apply pwp_region | (apply px_run; (first | (apply opv_move; first | exact hid_int rfl | rfl) | (apply opv_assign; first | exact hid_int rfl) | (apply opv_lss <;> rfl) | (apply opv_add_in; rfl; rfl; omega) | (apply opv_load_ints sc_int; rfl; (first | exact rd_row 0 rfl | exact rd_row 1 rfl); (first | omega)) | (apply opv_index_nat (vs := ints _) el_int; rfl; rfl; (first | exact rd_row 1 rfl); (first | (simp only [ints_length]; omega))) | (apply opv_index (vs := ints _) el_int; rfl; rfl; (first | exact rd_row 0 rfl); omega; (first | (simp only [ints_length]; omega)))); rfl; rfl) | apply px_nil | apply qseq_normal | apply pwp_block | apply qblock_normal | apply pwp_skip | (apply pwp_region_any [0, 1, 2, 3, 4, 5, 6, 7, 8, 9, 10, 11, 12, 13] [14] 1 (Cl [] w [.row 3 sv (ints (incU o (wtU n o j i).1 k)), .row 3 s1 (ints o), .row 4 s2 (bools j), .blk bk [.int .i64 (n : Int), gv]]); kernel_rfl; decide +kernel; exact Cl.stable _ _ _; exact fun w h => h.sub (by repeat (first | exact List.Sublist.refl _))) | apply qlooks_normal | (apply qstep_out; decide +kernel) | (apply pxa_nil; decide +kernel) | (apply pxa_one 14; decide +kernel; rfl) | (apply pwp_cond_dec; rfl; all_goals (intro hc; try (first | (exfalso; omega)))) | (apply px_store_int 0 co_int; rfl; rfl; rfl; (first | omega); rfl))
          refine qround_normal ?_ ⟨k + 1, ⟨rfl, trivial⟩, by omega, by omega, fun w' h => ?_⟩
          · repeat (first | exact same_refl | refine same_upd rfl ?_ | refine same_junk rfl ?_)
          · rw [hst]; exact h
        · obtain rfl : k = i := by omega
          have hz : (incU o (wtU n o j k).1 k).getD (o.getD k 0).toNat 0 = 0 := by
            have hne : ∀ m, m < k → (o.getD m 0).toNat ≠ (o.getD k 0).toNat := fun m hm e => by
              have := ho2 k hlt m hm
              have := ho1 m (by omega)
              omega
            rw [incU_same _ _ _ _ hne]
            exact wtU_zero n o j _ k hne
          have hil := incU_length o (wtU n o j k).1 k
          have hss := set_same (incU o (wtU n o j k).1 k) (o.getD k 0).toNat hz (by omega)
          repeat' (first | apply pwp_seq | apply pwp_region | (apply px_run; (first | (apply opv_move; first | exact hid_int rfl | rfl) | (apply opv_assign; first | exact hid_int rfl) | (apply opv_lss <;> rfl) | (apply opv_add_in; rfl; rfl; omega) | (apply opv_load_ints sc_int; rfl; (first | exact rd_row 1 rfl); (first | omega)) | (apply opv_index_nat (vs := ints _) el_int; rfl; rfl; (first | exact rd_row 1 rfl); (first | (simp only [ints_length]; omega))) | (apply opv_index (vs := ints _) el_int; rfl; rfl; (first | exact rd_row 0 rfl); omega; (first | (simp only [ints_length]; omega)))); rfl; rfl) | apply px_nil | apply qseq_normal | apply qseq_exit | apply qblock_normal | (apply qblock_exit_same; rfl) | apply pwp_exit | apply qround_exit | (apply pwp_cond_dec; rfl; all_goals (intro hc; try (first | (exfalso; omega)))) | (apply px_store_int 0 co_int; rfl; rfl; rfl; (first | omega); rfl))
          refine qround_normal ?_ ⟨k + 1, ⟨rfl, ?_, trivial⟩, by omega, by omega, fun w' h => ?_⟩
          · repeat (first | exact same_refl | refine same_upd rfl ?_ | refine same_junk rfl ?_)
          · show Value.int .i64 _ = .int .i64 _
            rw [e]
          · rw [e, ← hss]
            exact Cl.sub (by assumption) (by repeat (first | exact List.Sublist.slnil | exact List.Sublist.refl _ | apply List.Sublist.cons_cons | exact List.sublist_append_left _ _ | exact List.sublist_append_right _ _ | apply List.Sublist.cons))
    · obtain rfl : i = o.length := by omega
      repeat' (first | apply pwp_seq | apply pwp_region | (apply px_run; (first | (apply opv_move; first | exact hid_int rfl | rfl) | (apply opv_assign; first | exact hid_int rfl | exact hid_bool rfl | rfl) | (apply opv_lss <;> rfl) | (apply opv_len_ints el_int; rfl; (first | exact rd_row 1 rfl))); rfl; rfl) | apply px_nil | apply qseq_normal | apply qseq_exit | (apply qblock_exit_same; rfl) | apply pwp_exit | apply pwp_ret | apply qround_exit | (apply pwp_cond_dec; rfl; all_goals (intro hc; try (first | (exfalso; omega)))))
      refine qbody_ret3 rfl rfl rfl rfl ⟨_, ⟨_, rfl, rfl⟩, fun w' h => ?_⟩
      exact Cl.sub (by assumption) (by repeat (first | exact List.Sublist.slnil | exact List.Sublist.refl _ | apply List.Sublist.cons_cons | exact List.sublist_append_left _ _ | exact List.sublist_append_right _ _ | apply List.Sublist.cons))
end Go.Proofs.YtdenkbephkfifaaGreat
