/- Lists sorted and turned round by the reference; degrees; the criterion of degrees. -/
import Derived.Test.YtcicdnpmlcjcmaaGreatSo
import Derived.Test.YtcicdnpmlcjcmaaGreatCq
import Derived.Test.YtcicdnpmlcjcmaaGreatSl
import Derived.Test.YtcicdnpmlcjcmaaGreatKd
import Derived.Test.YtcicdnpmlcjcmaaGreatLk
import Derived.Test.YtcicdnpmlcjcmaaGreatPwPgp
import Derived.Test.YtcicdnpmlcjcmaaGreatPwDrop
namespace Go.Proofs.YtcicdnpmlcjcmaaGreat
open Go Go.RowKit Go.Pw
theorem en_s_l8Sorted : Entry Tryz.prog 54 := ⟨_, Tryz.func54, by kernel_rfl, rfl⟩
set_option maxRecDepth 100000 in
set_option maxHeartbeats 1600000 in
theorem s_l8Sorted_c (lv : Value) (l : List Int) (w : World) (hr : Arr w lv (ints l)) (hl : l.length ≤ 100000) :
    Gives Tryz.prog 54 #[lv] w (fun v objs => objs = [.row 3 v (ints (sortI l))]) := by
  refine gives_enter (args := [_]) en_s_l8Sorted Tryz.func54 rfl Tryz.ntmps54 rfl ?_
  repeat' (first | apply pwp_seq | apply pwp_region | (apply px_run; (first | (apply opv_assign; first | exact hid_int rfl | rfl)); rfl; rfl) | apply px_nil | apply qseq_normal | apply pwp_block | (apply px_lit0i ez_int; rfl; rfl; rfl; intro sv))
  refine pwp_loop (τ := Nat × Value) [(3,5), (7,45)] (fun x => [(4, .int .i64 (x.1 : Int)), (3, x.2)]) (fun x => Cl [] w [.row 3 x.2 (ints (sortI (l.take x.1)))]) (fun x => x.1 ≤ l.length) (fun x => l.length - x.1) (0, sv)
    ⟨rfl, rfl, trivial⟩ (Nat.zero_le _) (fun _ h => h) (fun J x hi => ?_)
  obtain ⟨i, so⟩ := x
  dsimp only at hi ⊢
  have hol : (sortI (l.take i)).length = i := by rw [sortI_len]; simp; omega
  by_cases hlt : i < l.length
  · have hrd : sortI (l.take (i + 1)) = insR ltI (l.getD i 0) (sortI (l.take i)) := sortR_round hlt
    generalize sortI (l.take i) = out at *
    repeat' (first | apply pwp_seq | apply pwp_region | (apply px_run; (first | (apply opv_move; first | exact hid_int rfl | rfl) | (apply opv_assign; first | exact hid_int rfl) | (apply opv_lss <;> rfl) | (apply opv_len_ints el_int; rfl; (first | exact rd_old (by assumption) | exact rd_row 0 rfl))); rfl; rfl) | apply px_nil | apply qseq_normal | apply pwp_block | apply pwp_skip | (apply pwp_cond_dec; rfl; all_goals (intro hc; try (first | (exfalso; omega)))))
    refine pwp_loop (τ := Nat) [(5,5), (15,30)] (fun j => [(5, .int .i64 (j : Int))]) (fun j => Cl [] w [.row 3 so (ints out)]) (fun j => j ≤ i ∧ posR ltI (l.getD i 0) out j = posR ltI (l.getD i 0) out out.length) (fun j => j) i
      ⟨by show Value.int .i64 _ = _; rw [hol], trivial⟩ ⟨Nat.le_refl _, by rw [hol]⟩ (fun _ h => h) (fun J2 j hj => ?_)
    obtain ⟨hji, hpos⟩ := hj
    have done : posR ltI (l.getD i 0) out j = j → sortI (l.take (i + 1)) = out.take j ++ [l.getD i 0] ++ out.drop j := fun e => by
      rw [hrd]; unfold insR; rw [← hpos, e]; simp
    rcases Nat.eq_zero_or_pos j with rfl | hj0
    · repeat' (first | apply pwp_seq | apply pwp_region | (apply px_run; (first | (apply opv_move; first | exact hid_int rfl | exact hid_bool rfl | rfl) | (apply opv_assign; first | exact hid_int rfl | rfl) | (apply opv_gtr <;> rfl) | (apply opv_pick_f <;> rfl) | (apply opv_add_in; rfl; rfl; omega) | (apply opv_load_ints sc_int; rfl; (first | exact rd_old (by assumption)); (first | omega)) | (apply opv_index_nat (vs := ints _) el_int; rfl; rfl; (first | exact rd_old (by assumption)); (first | (simp only [ints_length]; omega))) | (apply opv_drop el_int; rfl; rfl; (first | exact rd_row 0 rfl); (first | (simp only [ints_length]; omega))) | (apply opv_take el_int; rfl; rfl; (first | exact rd_row 0 rfl); (first | (simp only [ints_length]; omega)))); rfl; rfl) | apply px_nil | (apply px_skip; rfl; rfl) | apply qseq_normal | apply qseq_exit | apply qblock_normal | (apply qblock_exit_same; rfl) | apply pwp_exit | apply qround_exit | (apply pwp_cond_f; rfl) | (apply pwp_region_any [1, 2, 3, 5, 6, 7, 8, 11, 12, 13] [] 6 (Cl [] w [.row 3 so _]); kernel_rfl; decide +kernel; exact Cl.stable _ _ _; exact fun w h => h.sub (by repeat (first | exact List.Sublist.refl _))) | apply qlooks_normal | (apply qstep_in; exact fun w h => h.sub (by repeat (first | exact List.Sublist.refl _ | apply List.Sublist.cons))) | (apply pxa_nil; decide +kernel) | (apply pxa_one 0; decide +kernel; rfl) | (apply pxa_one 4; decide +kernel; rfl) | (apply pxa_one 9; decide +kernel; rfl) | (apply pxa_one 10; decide +kernel; rfl) | (apply pxa_one 14; decide +kernel; rfl) | (apply pxa_one 15; decide +kernel; rfl) | (apply pxa_two 0 9; decide +kernel; rfl; rfl) | (apply pxa_two 4 9; decide +kernel; rfl; rfl) | (apply pwp_region_draw; kernel_rfl; kernel_rfl; exact Cl.stable _ _ _) | (apply px_lit0i ez_int; rfl; rfl; rfl; intro sv) | (apply px_lit1 ez_int; rfl; (intro w hw; (first | rfl)); rfl; rfl; rfl; intro sv) | (apply px_append_int1 0 ez_int; rfl; rfl; rfl; (first | exact rd_row 1 rfl); (first | (focus (simp; done))); decide; rfl; rfl; intro sv) | (apply px_append_ints 0 ez_int; rfl; rfl; rfl; (first | exact rd_take (rd_row 1 rfl) (by omega) | exact rd_take (rd_row 2 rfl) (by omega) | exact rd_drop_ints (rd_row 2 rfl) (by omega)); (first | (focus (simp; done)) | (focus (simp; omega))); decide; rfl; rfl; intro sv) | (apply px_append_int1 1 ez_int; rfl; rfl; rfl; (first | exact rd_row 0 rfl); (first | (focus (simp; done))); decide; rfl; rfl; intro sv) | (apply px_append_ints 1 ez_int; rfl; rfl; rfl; (first | exact rd_take (rd_row 2 rfl) (by omega) | exact rd_drop_ints (rd_row 2 rfl) (by omega)); (first | (focus (simp; done)) | (focus (simp; omega))); decide; rfl; rfl; intro sv))
      all_goals (
        refine qround_normal ?_ ⟨(i + 1, sv), ⟨rfl, rfl, trivial⟩, by dsimp only; omega, by dsimp only; omega, fun w' h => ?_⟩
        · repeat (first | exact same_refl | refine same_upd rfl ?_ | refine same_junk rfl ?_)
        · dsimp only
          rw [done rfl]
          exact Cl.sub (by assumption) (by repeat (first | exact List.Sublist.slnil | exact List.Sublist.refl _ | apply List.Sublist.cons_cons | exact List.sublist_append_left _ _ | exact List.sublist_append_right _ _ | apply List.Sublist.cons)))
    · obtain ⟨k, rfl⟩ : ∃ k, j = k + 1 := ⟨j - 1, by omega⟩
      have e3 : ((((k + 1 : Nat) : Int)) - 1).toNat = k := by omega
      by_cases hc0 : l.getD i 0 < out.getD k 0
      · repeat' (first | apply pwp_seq | apply pwp_region | (apply px_run; (first | (apply opv_move; first | exact hid_int rfl | exact hid_bool rfl | rfl) | (apply opv_assign; first | exact hid_int rfl | rfl) | (apply opv_gtr <;> rfl) | (apply opv_pick_t <;> rfl) | (apply opv_add_in; rfl; rfl; omega) | (apply opv_sub_in; rfl; rfl; omega) | (apply opv_load_ints sc_int; rfl; (first | exact rd_old (by assumption) | exact rd_row 0 rfl); (first | omega)) | (apply opv_index_nat (vs := ints _) el_int; rfl; rfl; (first | exact rd_old (by assumption)); (first | (simp only [ints_length]; omega))) | (apply opv_index (vs := ints _) el_int; rfl; rfl; (first | exact rd_row 0 rfl); omega; (first | (simp only [ints_length]; omega))) | (apply opv_drop el_int; rfl; rfl; (first | exact rd_row 0 rfl); (first | (simp only [ints_length]; omega))) | (apply opv_take el_int; rfl; rfl; (first | exact rd_row 0 rfl); (first | (simp only [ints_length]; omega)))); rfl; rfl) | apply px_nil | apply qseq_normal | apply qseq_exit | apply pwp_block | apply qblock_normal | (apply qblock_exit_same; rfl) | apply pwp_skip | apply pwp_exit | apply qround_exit | (apply pwp_region_any [1, 2, 3, 5, 6, 7, 8, 11, 12, 13] [] 6 (Cl [] w [.row 3 so _]); kernel_rfl; decide +kernel; exact Cl.stable _ _ _; exact fun w h => h.sub (by repeat (first | exact List.Sublist.refl _))) | apply qlooks_normal | (apply qstep_in; exact fun w h => h.sub (by repeat (first | exact List.Sublist.refl _ | apply List.Sublist.cons))) | (apply pxa_nil; decide +kernel) | (apply pxa_one 0; decide +kernel; rfl) | (apply pxa_one 4; decide +kernel; rfl) | (apply pxa_one 9; decide +kernel; rfl) | (apply pxa_one 10; decide +kernel; rfl) | (apply pxa_one 14; decide +kernel; rfl) | (apply pxa_one 15; decide +kernel; rfl) | (apply pxa_two 0 9; decide +kernel; rfl; rfl) | (apply pxa_two 4 9; decide +kernel; rfl; rfl) | (apply pwp_region_draw; kernel_rfl; kernel_rfl; exact Cl.stable _ _ _) | (apply px_guard_dec; rfl; rfl; rfl; all_goals (intro hc; try (first | (exfalso; omega)))) | (apply pwp_cond_dec; rfl; all_goals (intro hc; try (first | fail))) | (apply px_lit0i ez_int; rfl; rfl; rfl; intro sv) | (apply px_lit1 ez_int; rfl; (intro w hw; (first | rfl)); rfl; rfl; rfl; intro sv) | (apply px_append_int1 0 ez_int; rfl; rfl; rfl; (first | exact rd_row 1 rfl); (first | (focus (simp; omega))); decide; rfl; rfl; intro sv) | (apply px_append_ints 0 ez_int; rfl; rfl; rfl; (first | exact rd_take (rd_row 1 rfl) (by omega) | exact rd_take (rd_row 2 rfl) (by omega) | exact rd_drop_ints (rd_row 2 rfl) (by omega)); (first | (focus (simp; omega))); decide; rfl; rfl; intro sv) | (apply px_append_int1 1 ez_int; rfl; rfl; rfl; (first | exact rd_row 0 rfl); (first | (focus (simp; omega))); decide; rfl; rfl; intro sv) | (apply px_append_ints 1 ez_int; rfl; rfl; rfl; (first | exact rd_take (rd_row 2 rfl) (by omega) | exact rd_drop_ints (rd_row 2 rfl) (by omega)); (first | (focus (simp; omega))); decide; rfl; rfl; intro sv))
        all_goals first
          | (refine qround_normal ?_ ⟨k, ⟨?_, trivial⟩, ⟨by omega, by rw [← hpos, posR, if_pos (show ltI (l.getD i 0) (out.getD k 0) = true from decide_eq_true hc0)]⟩, by omega, fun w' h => h⟩
             · repeat (first | exact same_refl | refine same_upd rfl ?_ | refine same_junk rfl ?_)
             · show Value.int .i64 _ = .int .i64 _; congr 1; omega)
          | (exfalso; rw [e3] at hc; omega)
      · repeat' (first | apply pwp_seq | apply pwp_region | (apply px_run; (first | (apply opv_move; first | exact hid_int rfl | exact hid_bool rfl | rfl) | (apply opv_assign; first | exact hid_int rfl | rfl) | (apply opv_gtr <;> rfl) | (apply opv_pick_t <;> rfl) | (apply opv_add_in; rfl; rfl; omega) | (apply opv_sub_in; rfl; rfl; omega) | (apply opv_load_ints sc_int; rfl; (first | exact rd_old (by assumption) | exact rd_row 0 rfl); (first | omega)) | (apply opv_index_nat (vs := ints _) el_int; rfl; rfl; (first | exact rd_old (by assumption)); (first | (simp only [ints_length]; omega))) | (apply opv_index (vs := ints _) el_int; rfl; rfl; (first | exact rd_row 0 rfl); omega; (first | (simp only [ints_length]; omega))) | (apply opv_drop el_int; rfl; rfl; (first | exact rd_row 0 rfl); (first | (simp only [ints_length]; omega))) | (apply opv_take el_int; rfl; rfl; (first | exact rd_row 0 rfl); (first | (simp only [ints_length]; omega)))); rfl; rfl) | apply px_nil | apply qseq_normal | apply qseq_exit | apply pwp_block | apply qblock_normal | (apply qblock_exit_same; rfl) | apply pwp_skip | apply pwp_exit | apply qround_exit | (apply pwp_region_any [1, 2, 3, 5, 6, 7, 8, 11, 12, 13] [] 6 (Cl [] w [.row 3 so _]); kernel_rfl; decide +kernel; exact Cl.stable _ _ _; exact fun w h => h.sub (by repeat (first | exact List.Sublist.refl _))) | apply qlooks_normal | (apply qstep_in; exact fun w h => h.sub (by repeat (first | exact List.Sublist.refl _ | apply List.Sublist.cons))) | (apply pxa_nil; decide +kernel) | (apply pxa_one 0; decide +kernel; rfl) | (apply pxa_one 4; decide +kernel; rfl) | (apply pxa_one 9; decide +kernel; rfl) | (apply pxa_one 10; decide +kernel; rfl) | (apply pxa_one 14; decide +kernel; rfl) | (apply pxa_one 15; decide +kernel; rfl) | (apply pxa_two 0 9; decide +kernel; rfl; rfl) | (apply pxa_two 4 9; decide +kernel; rfl; rfl) | (apply pwp_region_draw; kernel_rfl; kernel_rfl; exact Cl.stable _ _ _) | (apply px_guard_dec; rfl; rfl; rfl; all_goals (intro hc; try (first | (exfalso; omega)))) | (apply pwp_cond_dec; rfl; all_goals (intro hc; try (first | fail))) | (apply px_lit0i ez_int; rfl; rfl; rfl; intro sv) | (apply px_lit1 ez_int; rfl; (intro w hw; (first | rfl)); rfl; rfl; rfl; intro sv) | (apply px_append_int1 0 ez_int; rfl; rfl; rfl; (first | exact rd_row 1 rfl); (first | (focus (simp; omega))); decide; rfl; rfl; intro sv) | (apply px_append_ints 0 ez_int; rfl; rfl; rfl; (first | exact rd_take (rd_row 1 rfl) (by omega) | exact rd_take (rd_row 2 rfl) (by omega) | exact rd_drop_ints (rd_row 2 rfl) (by omega)); (first | (focus (simp; omega))); decide; rfl; rfl; intro sv) | (apply px_append_int1 1 ez_int; rfl; rfl; rfl; (first | exact rd_row 0 rfl); (first | (focus (simp; omega))); decide; rfl; rfl; intro sv) | (apply px_append_ints 1 ez_int; rfl; rfl; rfl; (first | exact rd_take (rd_row 2 rfl) (by omega) | exact rd_drop_ints (rd_row 2 rfl) (by omega)); (first | (focus (simp; omega))); decide; rfl; rfl; intro sv))
        all_goals first
          | (refine qround_normal ?_ ⟨(i + 1, sv), ⟨rfl, rfl, trivial⟩, by dsimp only; omega, by dsimp only; omega, fun w' h => ?_⟩
             · repeat (first | exact same_refl | refine same_upd rfl ?_ | refine same_junk rfl ?_)
             · dsimp only
               rw [done (by rw [posR, if_neg (by simpa [ltI] using hc0)])]
               exact Cl.sub (by assumption) (by repeat (first | exact List.Sublist.slnil | exact List.Sublist.refl _ | apply List.Sublist.cons_cons | exact List.sublist_append_left _ _ | exact List.sublist_append_right _ _ | apply List.Sublist.cons)))
          | (exfalso; rw [e3] at hc; omega)
  · repeat' (first | apply pwp_seq | apply pwp_region | (apply px_run; (first | (apply opv_move; first | exact hid_int rfl | rfl) | (apply opv_assign; first | rfl) | (apply opv_lss <;> rfl) | (apply opv_len_ints el_int; rfl; (first | exact rd_old (by assumption)))); rfl; rfl) | apply px_nil | apply qseq_normal | apply qseq_exit | (apply qblock_exit_same; rfl) | apply pwp_exit | apply pwp_ret | apply qround_exit | (apply pwp_cond_dec; rfl; all_goals (intro hc; try (first | (exfalso; omega)))))
    refine qbody_ret1 rfl rfl ⟨_, rfl, fun w' h => ?_⟩
    rw [List.take_of_length_le (by omega)] at h; exact h
theorem en_s_l6Reverse : Entry Tryz.prog 53 := ⟨_, Tryz.func53, by kernel_rfl, rfl⟩
set_option maxHeartbeats 800000 in
theorem s_l6Reverse_c (lv : Value) (l : List Int) (w : World) (hr : Arr w lv (ints l)) (hl : l.length ≤ 100000) :
    Gives Tryz.prog 53 #[lv] w (fun v objs => objs = [.row 3 v (ints l.reverse)]) := by
  refine gives_enter (args := [_]) en_s_l6Reverse Tryz.func53 rfl Tryz.ntmps53 rfl ?_
  repeat' (first | apply pwp_seq | apply pwp_region | (apply px_run; (first | (apply opv_move; first | rfl) | (apply opv_assign; first | exact hid_int rfl | rfl) | (apply opv_sub_in; rfl; rfl; omega) | (apply opv_len_ints el_int; rfl; (first | exact rd_old (by assumption)))); rfl; rfl) | apply px_nil | apply qseq_normal | apply pwp_block | (apply px_lit0i ez_int; rfl; rfl; rfl; intro sv))
  refine pwp_loop (τ := Nat × Value) [(3,4), (9,19)] (fun x => [(4, .int .i64 ((x.1 : Int) - 1)), (3, x.2)]) (fun x => Cl [] w [.row 3 x.2 (ints (l.drop x.1).reverse)]) (fun x => x.1 ≤ l.length) (fun x => x.1) (l.length, sv)
    ⟨rfl, rfl, trivial⟩ (Nat.le_refl _) (fun _ h => by simpa using h) (fun J x hi => ?_)
  obtain ⟨i, so⟩ := x
  dsimp only at hi ⊢
  rcases Nat.eq_zero_or_pos i with rfl | hi0
  · repeat' (first | apply pwp_seq | apply pwp_region | (apply px_run; (first | (apply opv_move; first | exact hid_int rfl | rfl) | (apply opv_assign; first | rfl) | (apply opv_geq <;> rfl)); rfl; rfl) | apply px_nil | apply qseq_normal | apply qseq_exit | (apply qblock_exit_same; rfl) | apply pwp_exit | apply pwp_ret | apply qround_exit | (apply pwp_cond_f; rfl))
    refine qbody_ret1 rfl rfl ⟨_, rfl, fun w' h => ?_⟩
    exact h
  · obtain ⟨k, rfl⟩ : ∃ k, i = k + 1 := ⟨i - 1, by omega⟩
    have e : (((k + 1 : Nat) : Int)) - 1 = (k : Nat) := by omega
    have hdl : (l.drop (k + 1)).reverse.length ≤ 100000 := by rw [List.length_reverse, List.length_drop]; omega
    rw [e]
    repeat' (first | apply pwp_seq | apply pwp_region | (apply px_run; (first | (apply opv_move; first | exact hid_int rfl | rfl) | (apply opv_assign; first | exact hid_int rfl | rfl) | (apply opv_geq <;> rfl) | (apply opv_sub_in; rfl; rfl; omega) | (apply opv_load_ints sc_int; rfl; (first | exact rd_old (by assumption)); (first | omega)) | (apply opv_index_nat (vs := ints _) el_int; rfl; rfl; (first | exact rd_old (by assumption)); (first | (simp only [ints_length]; omega)))); rfl; rfl) | apply px_nil | apply qseq_normal | apply pwp_block | apply qblock_normal | apply pwp_skip | (apply pwp_cond_t; rfl) | (apply px_lit1 ez_int; rfl; (intro w hw; (first | rfl)); rfl; rfl; rfl; intro sv) | (apply px_append 1 ez_int; rfl; rfl; rfl; (first | exact rd_row 0 rfl); (first | (intro _ _ u hu; simp at hu; subst hu; rfl)); (simp [ints]; omega); decide; rfl; rfl; intro sv))
    refine qround_normal ?_ ⟨(k, sv), ⟨rfl, rfl, trivial⟩, by dsimp only; omega, by dsimp only; omega, fun w' h => ?_⟩
    · repeat (first | exact same_refl | refine same_upd rfl ?_ | refine same_junk rfl ?_)
    · dsimp only
      rw [drop_cons (show k < l.length by omega), List.reverse_cons, ← ints_snoc]
      exact Cl.sub (by assumption) (by repeat (first | exact List.Sublist.slnil | exact List.Sublist.refl _ | apply List.Sublist.cons_cons | exact List.sublist_append_left _ _ | exact List.sublist_append_right _ _ | apply List.Sublist.cons))
theorem en_s_DegreesOf : Entry Tryz.prog 23 := ⟨_, Tryz.func23, by kernel_rfl, rfl⟩
set_option maxHeartbeats 800000 in
theorem s_DegreesOf_c (size : Int) (gv : Value) (rows : List Int) (w : World) (hr : Arr w gv (ints rows)) :
    Gives Tryz.prog 23 #[.agg #[.int .i64 size, gv]] w (fun v objs => objs = [.row 3 v (ints (degL size rows))]) := by
  refine gives_enter (args := [_]) en_s_DegreesOf Tryz.func23 rfl Tryz.ntmps23 rfl ?_
  by_cases hg : IsG size rows
  · obtain ⟨n, hn, hrl, hn1, hn7⟩ := isG_size hg
    repeat' (first | apply pwp_seq | apply pwp_region | (apply px_run; (first | (apply opv_assign; first | exact hid_int rfl | rfl)); rfl; rfl) | apply px_nil | apply qseq_normal | apply pwp_block | (apply px_box; rfl; rfl; rfl; rfl; intro bk) | (apply px_lit0 ez_int; rfl; rfl; rfl; intro sv))
    refine pwp_loop (τ := Nat × Value) [(3,4), (6,24)] (fun x => [(4, .int .i64 (x.1 : Int)), (3, x.2)]) (fun x => Cl [] w [.row 3 x.2 (ints (degU rows x.1)), .blk bk [.int .i64 size, gv]]) (fun x => x.1 ≤ n) (fun x => n - x.1) (0, sv)
      ⟨rfl, rfl, trivial⟩ (Nat.zero_le _) (fun _ h => h) (fun J x hi => ?_)
    obtain ⟨i, so⟩ := x
    dsimp only at hi ⊢
    have hdl := degU_len rows i
    by_cases hlt : i < n
    · repeat' (first | apply pwp_seq | apply pwp_region | (apply px_run; (first | (apply opv_move; first | exact hid_int rfl | exact hid_bool rfl | rfl) | (apply opv_assign; first | exact hid_int rfl | rfl) | (apply opv_lss <;> rfl) | (apply opv_pick_t <;> rfl) | (apply opv_add_in; rfl; rfl; omega) | (apply opv_field fld_G0; rfl) | (apply opv_field fld_G1; rfl) | (apply opv_load_blk 1; (first | with_reducible exact sc_int | with_reducible exact sc_ints); rfl; rfl; rfl) | (apply opv_load_ints sc_int; rfl; (first | exact rd_old (by assumption)); (first | omega)) | (apply opv_index_nat (vs := ints _) el_int; rfl; rfl; (first | exact rd_old (by assumption)); (first | (simp only [ints_length]; omega))) | (apply opv_load_str 1 st_G; rfl; rfl; rfl) | (apply opv_call; rfl; rfl; exact Cl.stable _ _ _; exact fun w hw => s_IsGraph_c _ _ rows _ (by first | exact hw.arr (by assumption))) | (apply opv_call; rfl; rfl; exact Cl.stable _ _ _; exact fun w hw => s_CountSet_c _ _)); rfl; rfl) | apply px_nil | apply qseq_normal | apply pwp_block | apply qblock_normal | apply pwp_skip | (apply px_guard_dec; rfl; rfl; rfl; all_goals (intro hc; try (first | (exfalso; omega)))) | (apply pwp_cond_dec; rfl; all_goals (intro hc; try (first | contradiction))) | (apply px_lit1 ez_int; rfl; (intro w hw; (first | rfl)); rfl; rfl; rfl; intro sv) | (apply px_append 1 ez_int; rfl; rfl; rfl; (first | exact rd_row 0 rfl); (first | (intro _ _ u hu; simp at hu; subst hu; rfl)); (simp [ints]; omega); decide; rfl; rfl; intro sv))
      · refine qround_normal ?_ ⟨(i + 1, sv), ⟨rfl, rfl, trivial⟩, by dsimp only; omega, by dsimp only; omega, fun w' h => ?_⟩
        · repeat (first | exact same_refl | refine same_upd rfl ?_ | refine same_junk rfl ?_)
        · dsimp only
          rw [degU_succ, ← ints_snoc]
          exact Cl.sub (by assumption) (by repeat (first | exact List.Sublist.slnil | exact List.Sublist.refl _ | apply List.Sublist.cons_cons | exact List.sublist_append_left _ _ | exact List.sublist_append_right _ _ | apply List.Sublist.cons))
      all_goals exact absurd hg (by assumption)
    · obtain rfl : i = n := by omega
      have hso := sortI_len (degU rows i)
      repeat' (first | apply pwp_seq | apply pwp_region | (apply px_run; (first | (apply opv_move; first | exact hid_int rfl | exact hid_bool rfl | rfl) | (apply opv_assign; first | rfl) | (apply opv_lss <;> rfl) | (apply opv_pick_f <;> rfl) | (apply opv_field fld_G0; rfl) | (apply opv_load_blk 1; (first | with_reducible exact sc_int); rfl; rfl; rfl) | (apply opv_load_str 1 st_G; rfl; rfl; rfl)); rfl; rfl) | apply px_nil | (apply px_skip; rfl; rfl) | apply qseq_normal | apply qseq_exit | (apply qblock_exit_same; rfl) | apply pwp_exit | apply pwp_ret | apply qround_exit | (apply pwp_cond_f; rfl) | (apply px_guard_dec; rfl; rfl; rfl; all_goals (intro hc; try (first | (exfalso; omega)))) | (apply px_gives; rfl; rfl; rfl; rfl; rfl; exact fun w hw => s_l8Sorted_c _ (degU rows i) _ (by first | exact hw.rowArr (k := 0) rfl) (by omega); rintro s1 _ rfl) | (apply px_gives; rfl; rfl; rfl; rfl; rfl; exact fun w hw => s_l6Reverse_c _ (sortI (degU rows i)) _ (by first | exact hw.rowArr (k := 0) rfl) (by omega); rintro s2 _ rfl))
      refine qbody_ret1 rfl rfl ⟨_, rfl, fun w' h => ?_⟩
      rw [degL, if_pos hg, hrl]
      exact Cl.sub (by assumption) (by repeat (first | exact List.Sublist.slnil | exact List.Sublist.refl _ | apply List.Sublist.cons_cons | exact List.sublist_append_left _ _ | exact List.sublist_append_right _ _ | apply List.Sublist.cons))
  · repeat' (first | apply pwp_seq | apply pwp_region | (apply px_run; (first | (apply opv_assign; first | exact hid_int rfl | rfl)); rfl; rfl) | apply px_nil | apply qseq_normal | apply pwp_block | (apply px_box; rfl; rfl; rfl; rfl; intro bk) | (apply px_lit0 ez_int; rfl; rfl; rfl; intro sv))
    refine pwp_loop_once ?_
    have hs2 : (sortI []).length ≤ 100000 := by rw [sortI_len]; simp
    have hd : degL size rows = [] := if_neg hg
    repeat' (first | apply pwp_seq | apply pwp_region | (apply px_run; (first | (apply opv_move; first | exact hid_int rfl | exact hid_bool rfl | rfl) | (apply opv_assign; first | rfl) | (apply opv_lss <;> rfl) | (apply opv_pick_t <;> rfl) | (apply opv_pick_f <;> rfl) | (apply opv_field fld_G0; rfl) | (apply opv_load_blk 1; (first | with_reducible exact sc_int); rfl; rfl; rfl) | (apply opv_load_str 1 st_G; rfl; rfl; rfl) | (apply opv_call; rfl; rfl; exact Cl.stable _ _ _; exact fun w hw => s_IsGraph_c _ _ rows _ (by first | exact hw.arr (by assumption)))); rfl; rfl) | apply px_nil | (apply px_skip; rfl; rfl) | apply qseq_normal | apply qseq_exit | (apply qblock_exit_same; rfl) | apply pwp_exit | apply pwp_ret | apply qonce_exit | (apply pwp_cond_f; rfl) | (apply px_guard_dec; rfl; rfl; rfl; all_goals (intro hc; try (first | fail))) | (apply pwp_cond_dec; rfl; all_goals (intro hc; try (first | contradiction))) | (apply px_gives; rfl; rfl; rfl; rfl; rfl; exact fun w hw => s_l8Sorted_c _ [] _ (by first | exact hw.rowArr (k := 0) rfl) (by simp); rintro s1 _ rfl) | (apply px_gives; rfl; rfl; rfl; rfl; rfl; exact fun w hw => s_l6Reverse_c _ (sortI []) _ (by first | exact hw.rowArr (k := 0) rfl) hs2; rintro s2 _ rfl))
    all_goals first
      | (refine qbody_ret1 rfl rfl ⟨_, rfl, fun w' h => ?_⟩
         rw [hd]
         have : (sortI []).reverse = [] := rfl
         rw [this] at h
         exact Cl.sub (by assumption) (by repeat (first | exact List.Sublist.slnil | exact List.Sublist.refl _ | apply List.Sublist.cons_cons | exact List.sublist_append_left _ _ | exact List.sublist_append_right _ _ | apply List.Sublist.cons)))
      | exact absurd (by assumption) hg
theorem en_i_DegreesOf : Entry Tryz.prog 19 := ⟨_, Tryz.func19, by kernel_rfl, rfl⟩
set_option maxHeartbeats 800000 in
theorem i_DegreesOf_c (size : Int) (gv : Value) (rows : List Int) (w : World) (hr : Arr w gv (ints rows)) :
    Gives Tryz.prog 19 #[.agg #[.int .i64 size, gv]] w (fun v objs => objs = [.row 3 v (ints (degL size rows))]) := by
  refine gives_enter (args := [_]) en_i_DegreesOf Tryz.func19 rfl Tryz.ntmps19 rfl ?_
  by_cases hg : IsG size rows
  · obtain ⟨n, hn, hrl, hn1, hn7⟩ := isG_size hg
    repeat' (first | apply pwp_seq | apply pwp_region | (apply px_run; (first | (apply opv_move; first | exact hid_int rfl) | (apply opv_assign; first | rfl) | (apply opv_not_dec <;> rfl) | (apply opv_field fld_G1; rfl) | (apply opv_load_blk 1; (first | with_reducible exact sc_ints); rfl; rfl; rfl) | (apply opv_len_ints el_int; rfl; (first | exact rd_old (by assumption))) | (apply opv_load_str 1 st_G; rfl; rfl; rfl) | (apply opv_call; rfl; rfl; exact Cl.stable _ _ _; exact fun w hw => i_IsGraph_c _ _ rows _ (by first | exact hw.arr (by assumption)))); rfl; rfl) | apply px_nil | apply qseq_normal | apply pwp_block | apply pwp_skip | (apply pwp_cond_ndec; rfl; all_goals (intro hc; try (first | contradiction))) | (apply px_box; rfl; rfl; rfl; rfl; intro bk) | (apply px_lit0 ez_int; rfl; rfl; rfl; intro sv))
    refine pwp_loop (τ := Nat × Value) [(3,3), (5,5), (14,23)] (fun x => [(14, .int .i64 (x.1 : Int)), (3, x.2)]) (fun x => Cl [] w [.row 3 x.2 (ints (degU rows x.1)), .blk bk [.int .i64 size, gv]]) (fun x => x.1 ≤ n) (fun x => n - x.1) (0, sv)
      ⟨rfl, rfl, trivial⟩ (Nat.zero_le _) (fun _ h => h) (fun J x hi => ?_)
    obtain ⟨i, so⟩ := x
    dsimp only at hi ⊢
    have hdl := degU_len rows i
    by_cases hlt : i < n
    · repeat' (first | apply pwp_seq | apply pwp_region | (apply px_run; (first | (apply opv_move; first | exact hid_int rfl | rfl) | (apply opv_assign; first | exact hid_int rfl | rfl) | (apply opv_lss <;> rfl) | (apply opv_add_in; rfl; rfl; omega) | (apply opv_load_ints sc_int; rfl; (first | exact rd_old (by assumption)); (first | omega)) | (apply opv_index_nat (vs := ints _) el_int; rfl; rfl; (first | exact rd_old (by assumption)); (first | (simp only [ints_length]; omega))) | (apply opv_call; rfl; rfl; exact Cl.stable _ _ _; exact fun w hw => i_CountSet_c _ _)); rfl; rfl) | apply px_nil | apply qseq_normal | apply pwp_block | apply qblock_normal | apply pwp_skip | (apply pwp_cond_dec; rfl; all_goals (intro hc; try (first | (exfalso; omega)))) | (apply px_lit1 ez_int; rfl; (intro w hw; (first | rfl)); rfl; rfl; rfl; intro sv) | (apply px_append 1 ez_int; rfl; rfl; rfl; (first | exact rd_row 0 rfl); (first | (intro _ _ u hu; simp at hu; subst hu; rfl)); (simp [ints]; omega); decide; rfl; rfl; intro sv))
      refine qround_normal ?_ ⟨(i + 1, sv), ⟨rfl, rfl, trivial⟩, by dsimp only; omega, by dsimp only; omega, fun w' h => ?_⟩
      · repeat (first | exact same_refl | refine same_upd rfl ?_ | refine same_junk rfl ?_)
      · dsimp only
        rw [degU_succ, ← ints_snoc]
        exact Cl.sub (by assumption) (by repeat (first | exact List.Sublist.slnil | exact List.Sublist.refl _ | apply List.Sublist.cons_cons | exact List.sublist_append_left _ _ | exact List.sublist_append_right _ _ | apply List.Sublist.cons))
    · obtain rfl : i = n := by omega
      have hso := sortI_len (degU rows i)
      repeat' (first | apply pwp_seq | apply pwp_region | (apply px_run; (first | (apply opv_move; first | rfl) | (apply opv_assign; first | rfl) | (apply opv_lss <;> rfl)); rfl; rfl) | apply px_nil | apply qseq_normal | apply qseq_exit | (apply qblock_exit_same; rfl) | apply pwp_exit | apply pwp_ret | apply qround_exit | (apply pwp_cond_dec; rfl; all_goals (intro hc; try (first | (exfalso; omega)))) | (apply px_gives; rfl; rfl; rfl; rfl; rfl; exact fun w hw => i_sorted_c _ (degU rows i) _ (by first | exact hw.rowArr (k := 0) rfl) (by omega); rintro s1 _ rfl) | (apply px_gives; rfl; rfl; rfl; rfl; rfl; exact fun w hw => i_reversed_c _ (sortI (degU rows i)) _ (by first | exact hw.rowArr (k := 0) rfl) (by omega); rintro s2 _ rfl))
      refine qbody_ret1 rfl rfl ⟨_, rfl, fun w' h => ?_⟩
      rw [degL, if_pos hg, hrl]
      exact Cl.sub (by assumption) (by repeat (first | exact List.Sublist.slnil | exact List.Sublist.refl _ | apply List.Sublist.cons_cons | exact List.sublist_append_left _ _ | exact List.sublist_append_right _ _ | apply List.Sublist.cons))
  · have hd : degL size rows = [] := if_neg hg
    repeat' (first | apply pwp_seq | apply pwp_region | (apply px_run; (first | (apply opv_move; first | rfl) | (apply opv_assign; first | rfl) | (apply opv_not_dec <;> rfl) | (apply opv_load_str 1 st_G; rfl; rfl; rfl) | (apply opv_call; rfl; rfl; exact Cl.stable _ _ _; exact fun w hw => i_IsGraph_c _ _ rows _ (by first | exact hw.arr (by assumption)))); rfl; rfl) | apply px_nil | apply qseq_normal | apply qseq_ret | apply pwp_ret | (apply pwp_cond_ndec; rfl; all_goals (intro hc; try (first | contradiction))) | (apply px_box; rfl; rfl; rfl; rfl; intro bk) | (apply px_lit0 ez_int; rfl; rfl; rfl; intro sv))
    refine qbody_ret1 rfl rfl ⟨_, rfl, fun w' h => ?_⟩
    rw [hd]
    exact Cl.sub (by assumption) (by repeat (first | exact List.Sublist.slnil | exact List.Sublist.refl _ | apply List.Sublist.cons_cons | exact List.sublist_append_left _ _ | exact List.sublist_append_right _ _ | apply List.Sublist.cons))
theorem en_i_SplitByDegrees : Entry Tryz.prog 13 := ⟨_, Tryz.func13, by kernel_rfl, rfl⟩
set_option maxHeartbeats 1600000 in
theorem i_SplitByDegrees_c (size : Int) (gv : Value) (rows : List Int) (w : World) (hr : Arr w gv (ints rows)) :
    Pure Tryz.prog 13 #[.agg #[.int .i64 size, gv]] w (.bool (decide (sbdP size rows))) := by
  refine pure_enter (args := [_]) en_i_SplitByDegrees Tryz.func13 rfl Tryz.ntmps13 rfl ?_
  have hl := degL_len size rows
  have hb := degL_bound size rows
  have hiff : sbdP size rows ↔ IsG size rows ∧ hiU (degL size rows) (mL (degL size rows)) (degL size rows).length = mL (degL size rows) * (mL (degL size rows) - 1) + loU (degL size rows) (mL (degL size rows)) (degL size rows).length := Iff.rfl
  have hdeg := fun (w' : World) (h : Arr w' gv (ints rows)) => i_DegreesOf_c size gv rows w' h
  have hm : mL (degL size rows) = mU (degL size rows) (degL size rows).length := rfl
  rw [hm] at hiff
  generalize degL size rows = d at *
  repeat' (first | apply pwp_seq | apply pwp_region | (apply px_run; (first | (apply opv_move; first | exact hid_int rfl | rfl) | (apply opv_assign; first | exact hid_int rfl | exact hid_bool rfl | rfl) | (apply opv_len_ints el_int; rfl; (first | exact rd_row 0 rfl)) | (apply opv_load_str 0 st_G; rfl; rfl; rfl)); rfl; rfl) | apply px_nil | apply qseq_normal | apply pwp_block | (apply px_box; rfl; rfl; rfl; rfl; intro bk) | (apply px_gives; rfl; rfl; rfl; rfl; rfl; exact fun w hw => hdeg _ (by first | exact hw.arr (by assumption)); rintro sd _ rfl))
  refine pwp_loop (τ := Nat) [(4,6), (14,24)] (fun x => [(14, .int .i64 (x : Int)), (4, .int .i64 (mU d x))]) (fun x => Cl [] w [.row 3 sd (ints d), .blk bk [.int .i64 size, gv]]) (fun x => x ≤ d.length) (fun x => d.length - x) 0
    ⟨rfl, rfl, trivial⟩ (Nat.zero_le _) (fun _ h => h) (fun J i hi => ?_)
  by_cases hlt : i < d.length
  · have e : mU d (i + 1) = if d.getD i 0 ≥ i then (i : Int) + 1 else mU d i := rfl
    repeat' (first | apply pwp_seq | apply pwp_region | (apply px_run; (first | (apply opv_move; first | exact hid_int rfl) | (apply opv_assign; first | exact hid_int rfl) | (apply opv_lss <;> rfl) | (apply opv_geq <;> rfl) | (apply opv_add_in; rfl; rfl; omega) | (apply opv_load_ints sc_int; rfl; (first | exact rd_row 0 rfl); (first | omega)) | (apply opv_index_nat (vs := ints _) el_int; rfl; rfl; (first | exact rd_row 0 rfl); (first | (simp only [ints_length]; omega)))); rfl; rfl) | apply px_nil | apply qseq_normal | apply pwp_block | apply qblock_normal | apply pwp_skip | (apply pwp_cond_dec; rfl; all_goals (intro hc; try (first | (exfalso; omega)))))
    · refine qround_normal ?_ ⟨i + 1, ⟨rfl, by rw [e, if_pos (by omega)]; rfl, trivial⟩, by omega, by omega, fun w' h => h⟩
      repeat (first | exact same_refl | refine same_upd rfl ?_ | refine same_junk rfl ?_)
    · refine qround_normal ?_ ⟨i + 1, ⟨rfl, by rw [e, if_neg (by omega)]; rfl, trivial⟩, by omega, by omega, fun w' h => h⟩
      repeat (first | exact same_refl | refine same_upd rfl ?_ | refine same_junk rfl ?_)
  obtain rfl : i = d.length := by omega
  have hmr := mU_range d d.length
  generalize mU d d.length = m at *
  have hmm : 0 ≤ m * (m - 1) ∧ m * (m - 1) ≤ 100 := by
    have : m = 0 ∨ m = 1 ∨ m = 2 ∨ m = 3 ∨ m = 4 ∨ m = 5 ∨ m = 6 ∨ m = 7 := by omega
    rcases this with rfl | rfl | rfl | rfl | rfl | rfl | rfl | rfl <;> decide
  repeat' (first | apply pwp_seq | apply pwp_region | (apply px_run; (first | (apply opv_move; first | exact hid_int rfl | rfl) | (apply opv_assign; first | exact hid_int rfl) | (apply opv_lss <;> rfl) | (apply opv_sub_in; rfl; rfl; omega) | (apply opv_mul_in; rfl; rfl; omega) | (apply opv_len_ints el_int; rfl; (first | exact rd_row 0 rfl))); rfl; rfl) | apply px_nil | apply qseq_normal | apply qseq_exit | apply pwp_block | (apply qblock_exit_same; rfl) | apply pwp_exit | apply qround_exit | (apply pwp_cond_dec; rfl; all_goals (intro hc; try (first | (exfalso; omega)))))
  refine pwp_loop (τ := Nat) [(7,9), (31,45)] (fun x => [(31, .int .i64 (x : Int)), (7, .int .i64 (m * (m - 1) - hiU d m x + loU d m x))]) (fun x => Cl [] w [.row 3 sd (ints d), .blk bk [.int .i64 size, gv]]) (fun x => x ≤ d.length) (fun x => d.length - x) 0
    ⟨rfl, by show Value.int .i64 _ = .int .i64 _; congr 1; simp [hiU, loU], trivial⟩ (Nat.zero_le _) (fun _ h => h) (fun J i hi => ?_)
  have hr1 := hiU_range (m := m) hb i
  have hbi := hb i
  by_cases hlt : i < d.length
  · have e : hiU d m (i + 1) = if (i : Int) < m then hiU d m i + d.getD i 0 else hiU d m i := rfl
    have e2 : loU d m (i + 1) = if (i : Int) < m then loU d m i else loU d m i + d.getD i 0 := rfl
    repeat' (first | apply pwp_seq | apply pwp_region | (apply px_run; (first | (apply opv_move; first | exact hid_int rfl) | (apply opv_assign; first | exact hid_int rfl) | (apply opv_lss <;> rfl) | (apply opv_add_in; rfl; rfl; omega) | (apply opv_sub_in; rfl; rfl; omega) | (apply opv_load_ints sc_int; rfl; (first | exact rd_row 0 rfl); (first | omega)) | (apply opv_index_nat (vs := ints _) el_int; rfl; rfl; (first | exact rd_row 0 rfl); (first | (simp only [ints_length]; omega)))); rfl; rfl) | apply px_nil | apply qseq_normal | apply pwp_block | apply qblock_normal | apply pwp_skip | (apply pwp_cond_dec; rfl; all_goals (intro hc; try (first | (exfalso; omega)))))
    · refine qround_normal ?_ ⟨i + 1, ⟨rfl, by rw [e, if_pos hc, e2, if_pos hc]; show Value.int .i64 _ = .int .i64 _; congr 1; omega, trivial⟩, by omega, by omega, fun w' h => h⟩
      repeat (first | exact same_refl | refine same_upd rfl ?_ | refine same_junk rfl ?_)
    · refine qround_normal ?_ ⟨i + 1, ⟨rfl, by rw [e, if_neg hc, e2, if_neg hc]; show Value.int .i64 _ = .int .i64 _; congr 1; omega, trivial⟩, by omega, by omega, fun w' h => h⟩
      repeat (first | exact same_refl | refine same_upd rfl ?_ | refine same_junk rfl ?_)
  obtain rfl : i = d.length := by omega
  repeat' (first | apply pwp_seq | apply pwp_region | (apply px_run; (first | (apply opv_move; first | exact hid_int rfl | exact hid_bool rfl) | (apply opv_assign; first | exact hid_bool rfl) | (apply opv_lss <;> rfl) | (apply opv_eql <;> rfl) | (apply opv_pick_t <;> rfl) | (apply opv_pick_f <;> rfl) | (apply opv_load_str 1 st_G; rfl; rfl; rfl) | (apply opv_call; rfl; rfl; exact Cl.stable _ _ _; exact fun w hw => i_IsGraph_c _ _ rows _ (by first | exact hw.arr (by assumption)))); rfl; rfl) | apply px_nil | (apply px_skip; rfl; rfl) | apply qseq_normal | apply qseq_exit | (apply qblock_exit_same; rfl) | apply pwp_exit | apply pwp_ret | apply qround_exit | (apply px_guard_dec; rfl; rfl; rfl; all_goals (intro hc; try (first | fail))) | (apply pwp_cond_dec; rfl; all_goals (intro hc; try (first | contradiction))))
  · refine qbody_ret1 (v := .bool _) rfl rfl ⟨ret_iff ⟨fun h => hiff.2 ⟨hc, by omega⟩, fun h => by have := (hiff.1 h).2; omega⟩, fun _ h => h.below⟩
  · refine qbody_ret1 (v := .bool _) rfl rfl ⟨ret_false rfl fun h => hc (hiff.1 h).1, fun _ h => h.below⟩
end Go.Proofs.YtcicdnpmlcjcmaaGreat
