/- Permutation models: the program's and the reference's. -/
import Derived.Test.YtpmeehkabaobkaaOi
import Derived.Test.YtpmeehkabaobkaaOs
import Derived.Test.YtpmeehkabaobkaaPg
import Derived.Test.YtpmeehkabaobkaaKd
import Derived.Test.YtpmeehkabaobkaaSl
namespace Go.Proofs.Ytpmeehkabaobkaa
open Go Go.RowKit Go.Pw
theorem en_s_PermutationModelOf : Entry Try.prog 39 := ⟨_, Try.func39, by kernel_rfl, rfl⟩
set_option maxRecDepth 100000 in
set_option maxHeartbeats 6400000 in
theorem s_PermutationModelOf_c (size : Int) (gv : Value) (rows : List Int) (w : World) (hr : Arr w gv (ints rows)) :
    Gives Try.prog 39 #[.agg #[.int .i64 size, gv]] w (fun v objs => ∃ sa sb, v = .tuple #[sa, sb, .bool (pmOk size rows)] ∧ objs = [.row 3 sa (ints (pmA size rows)), .row 3 sb (ints (pmB size rows))]) := by
  refine gives_enter (args := [_]) en_s_PermutationModelOf Try.func39 rfl Try.ntmps39 rfl ?_
  have hpk : pmOk size rows = ((oriX size rows).isSome && (oriX (barZ size rows) (barL size rows)).isSome) := rfl
  cases hok : pmOk size rows with
  | false =>
    have f1 : pmA size rows = [] := if_neg (by rw [hok]; exact Bool.false_ne_true)
    have f2 : pmB size rows = [] := if_neg (by rw [hok]; exact Bool.false_ne_true)
    rw [f1, f2]
    rw [hok] at hpk
    repeat' (first | apply pwp_seq | apply pwp_region | (apply px_run; (first | (apply opv_move; first | exact hid_bool rfl | rfl) | (apply opv_assign; first | exact hid_bool rfl | rfl) | (apply opv_pick_t <;> rfl) | (apply opv_pick_f <;> rfl) | (apply opv_not <;> rfl) | (apply opv_load_str 0 st_G; rfl; rfl; rfl) | (apply opv_load_str 2 st_G; rfl; rfl; rfl) | (apply opv_load_str 6 st_G; rfl; rfl; rfl) | (apply opv_load_str 0 st_O; rfl; rfl; rfl) | (apply opv_load_str 4 st_O; rfl; rfl; rfl) | (apply opv_extract; rfl; rfl)); rfl; rfl) | apply px_nil | (apply px_skip; rfl; rfl) | apply qseq_normal | apply qseq_ret | apply pwp_skip | apply pwp_ret | (apply pwp_cond_t; rfl) | (apply pwp_region_draw; kernel_rfl; kernel_rfl; exact Cl.stable _ _ _) | (apply px_guard_not; rfl; rfl; rfl; all_goals (intro hc; try (first | fail))) | (apply pwp_cond_not; rfl; all_goals (intro hc; try (first | fail))) | (apply px_box; rfl; rfl; rfl; rfl; intro bk) | (apply px_alloc st_G; rfl; rfl; rfl; intro bk) | (apply px_alloc st_O; rfl; rfl; rfl; intro bk) | (apply px_store_str 0 st_G; rfl; rfl; rfl; rfl; rfl; (intro w hw; (first | refine all2 rfl ?_ ?_) <;> (first | rfl | exact stor_row 1 hw rfl)); rfl) | (apply px_store_str 0 st_O; rfl; rfl; rfl; rfl; rfl; (intro w hw; (first | refine all1 rfl ?_) <;> (first | exact stor_row 1 hw rfl)); rfl) | (apply px_lit0 ez_int; rfl; rfl; rfl; intro sv) | (apply px_gives; rfl; rfl; rfl; rfl; rfl; exact fun w hw => s_OrientationOf_c _ _ rows _ (by first | exact hw.arr (by assumption)); rintro _ _ ⟨vo, rfl, rfl⟩) | (apply px_gives; rfl; rfl; rfl; rfl; rfl; exact fun w hw => s_ComplementOf_c _ _ rows _ (by first | exact hw.arr (by assumption)); rintro _ _ ⟨vb, rfl, rfl⟩) | (apply px_gives; rfl; rfl; rfl; rfl; rfl; exact fun w hw => s_OrientationOf_c (barZ size rows) _ (barL size rows) _ (by first | exact hw.rowArr (k := 1) rfl); rintro _ _ ⟨vh, rfl, rfl⟩))
    all_goals first
      | (exfalso; simp_all; done)
      | (refine qbody_ret3 rfl rfl rfl rfl ⟨_, ⟨_, _, rfl, rfl⟩, fun w' h => ?_⟩
         exact Cl.ofSel (by assumption) (by repeat (first | exact sel_nil | refine sel_cons 0 rfl ?_ | refine sel_cons 1 rfl ?_ | refine sel_cons 2 rfl ?_ | refine sel_cons 3 rfl ?_ | refine sel_cons 4 rfl ?_ | refine sel_cons 5 rfl ?_ | refine sel_cons 6 rfl ?_ | refine sel_cons 7 rfl ?_ | refine sel_cons 8 rfl ?_ | refine sel_cons 9 rfl ?_ | refine sel_cons 10 rfl ?_ | refine sel_cons 11 rfl ?_ | refine sel_cons 12 rfl ?_ | refine sel_cons 13 rfl ?_)))
  | true =>
    have hpm := pm_facts hok
    obtain ⟨n, hn, hrl, hn1, hn7⟩ := isG_size hpm.isG
    have k1 : ∀ w', Arr w' gv (ints rows) → Gives Try.prog 32 #[.agg #[.int .i64 size, gv]] w' (fun v objs => ∃ sv, v = .tuple #[.agg #[sv], .bool true] ∧ objs = [.row 3 sv (ints (gRows rows.length (oriQ size rows)))]) := fun w' h => by
      have := s_OrientationOf_c size gv rows w' h
      rw [hpm.one, hpm.o] at this; exact this
    have k2 : ∀ vb w', Arr w' vb (ints (barL size rows)) → Gives Try.prog 32 #[.agg #[.int .i64 (barZ size rows), vb]] w' (fun v objs => ∃ sv, v = .tuple #[.agg #[sv], .bool true] ∧ objs = [.row 3 sv (ints (gRows rows.length (oriQ (barZ size rows) (barL size rows))))]) := fun vb w' h => by
      have := s_OrientationOf_c (barZ size rows) vb (barL size rows) w' h
      rw [hpm.two, hpm.h] at this; exact this
    have e1 : pmA size rows = ordU rows.length (pmFA size rows) rows.length := if_pos hok
    have e2 : pmB size rows = ordU rows.length (pmFB size rows) rows.length := if_pos hok
    have hsz : size = (rows.length : Nat) := by omega
    have k3 : ∀ vo vh w', Arr w' vo (ints (gRows rows.length (oriQ size rows))) → Arr w' vh (ints (gRows rows.length (oriQ (barZ size rows) (barL size rows)))) → Gives Try.prog 78 #[.agg #[.int .i64 size, gv], .agg #[vo], .agg #[vh], .bool false] w' (fun v objs => objs = [.row 3 v (ints (pmA size rows))]) := fun vo vh w' h1 h2 => by
      have := s_l14Sort_c rows.length gv vo vh _ _ false w' h1 h2 (by omega) ori_irr ori_irr
      rw [← hsz, show (fun u v => oriQ (barZ size rows) (barL size rows) u v || if false = true then oriQ size rows v u else oriQ size rows u v) = pmFA size rows from by funext u v; simp [pmFA], ← e1] at this
      exact this
    have k4 : ∀ vo vh w', Arr w' vo (ints (gRows rows.length (oriQ size rows))) → Arr w' vh (ints (gRows rows.length (oriQ (barZ size rows) (barL size rows)))) → Gives Try.prog 78 #[.agg #[.int .i64 size, gv], .agg #[vo], .agg #[vh], .bool true] w' (fun v objs => objs = [.row 3 v (ints (pmB size rows))]) := fun vo vh w' h1 h2 => by
      have := s_l14Sort_c rows.length gv vo vh _ _ true w' h1 h2 (by omega) ori_irr ori_irr
      rw [← hsz, show (fun u v => oriQ (barZ size rows) (barL size rows) u v || if true = true then oriQ size rows v u else oriQ size rows u v) = pmFB size rows from by funext u v; simp [pmFB], ← e2] at this
      exact this
    repeat' (first | apply pwp_seq | apply pwp_region | (apply px_run; (first | (apply opv_move; first | exact hid_bool rfl | rfl) | (apply opv_assign; first | exact hid_bool rfl | rfl) | (apply opv_pick_f <;> rfl) | (apply opv_not <;> rfl) | (apply opv_load_str 0 st_G; rfl; rfl; rfl) | (apply opv_load_str 2 st_G; rfl; rfl; rfl) | (apply opv_extract; rfl; rfl)); rfl; rfl) | apply px_nil | apply qseq_normal | apply pwp_skip | (apply pwp_cond_f; rfl) | (apply px_box; rfl; rfl; rfl; rfl; intro bk) | (apply px_alloc st_G; rfl; rfl; rfl; intro bk) | (apply px_alloc st_O; rfl; rfl; rfl; intro bk) | (apply px_store_str 0 st_G; rfl; rfl; rfl; rfl; rfl; (intro w hw; (first | refine all2 rfl ?_ ?_) <;> (first | rfl | exact stor_row 1 hw rfl)); rfl) | (apply px_store_str 0 st_O; rfl; rfl; rfl; rfl; rfl; (intro w hw; (first | refine all1 rfl ?_) <;> (first | exact stor_row 1 hw rfl)); rfl) | (apply px_gives; rfl; rfl; rfl; rfl; rfl; exact fun w hw => k1 _ (by first | exact hw.arr (by assumption)); rintro _ _ ⟨vo, rfl, rfl⟩) | (apply px_gives; rfl; rfl; rfl; rfl; rfl; exact fun w hw => s_ComplementOf_c _ _ rows _ (by first | exact hw.arr (by assumption)); rintro _ _ ⟨vb, rfl, rfl⟩) | (apply px_gives; rfl; rfl; rfl; rfl; rfl; exact fun w hw => k2 _ _ (by first | exact hw.rowArr (k := 1) rfl); rintro _ _ ⟨vh, rfl, rfl⟩))
    rename_i bg bo bb
    repeat' (first | (apply px_run; (first | (apply opv_assign; first | exact hid_bool rfl | rfl) | (apply opv_load_str 6 st_G; rfl; rfl; rfl) | (apply opv_load_str 0 st_O; rfl; rfl; rfl) | (apply opv_load_str 4 st_O; rfl; rfl; rfl)); rfl; rfl) | apply px_nil | apply qseq_normal | apply pwp_ret | (apply pwp_region_any [0, 1, 2, 4, 5, 6] [] 5 (Cl [] w [.blk bk [vh], .row 3 vh _, .blk bb _, .row 3 vb _, .blk bo _, .row 3 vo _, .blk bg _]); kernel_rfl; decide +kernel; exact Cl.stable _ _ _; exact fun w h => h.sub (by repeat (first | exact List.Sublist.refl _))) | apply qlooks_normal | (apply qstep_in; exact fun w h => h.sub (by repeat (first | exact List.sublist_append_right _ _ | apply List.Sublist.cons))) | (apply pxa_nil; decide +kernel) | (apply pxa_one 3; decide +kernel; rfl) | (apply pxa_one 7; decide +kernel; rfl) | (apply pxa_one 8; decide +kernel; rfl) | (apply pxa_one 9; decide +kernel; rfl) | (apply pxa_one 10; decide +kernel; rfl) | (apply px_gives; rfl; rfl; rfl; rfl; rfl; exact fun w hw => k3 _ _ _ (by first | exact hw.rowArr (k := 5) rfl) (by first | exact hw.rowArr (k := 1) rfl); rintro sa _ rfl) | (apply px_gives; rfl; rfl; rfl; rfl; rfl; exact fun w hw => k4 _ _ _ (by first | exact hw.rowArr (k := 6) rfl) (by first | exact hw.rowArr (k := 2) rfl); rintro sb _ rfl))
    all_goals (
      refine qbody_ret3 rfl rfl rfl rfl ⟨_, ⟨_, _, rfl, rfl⟩, fun w' h => ?_⟩
      exact Cl.ofSel (by assumption) (by repeat (first | exact sel_nil | refine sel_cons 0 rfl ?_ | refine sel_cons 1 rfl ?_ | refine sel_cons 2 rfl ?_ | refine sel_cons 3 rfl ?_ | refine sel_cons 4 rfl ?_ | refine sel_cons 5 rfl ?_ | refine sel_cons 6 rfl ?_ | refine sel_cons 7 rfl ?_ | refine sel_cons 8 rfl ?_ | refine sel_cons 9 rfl ?_ | refine sel_cons 10 rfl ?_ | refine sel_cons 11 rfl ?_ | refine sel_cons 12 rfl ?_ | refine sel_cons 13 rfl ?_)))
theorem en_i_PermutationModelOf : Entry Try.prog 40 := ⟨_, Try.func40, by kernel_rfl, rfl⟩
set_option maxRecDepth 100000 in
set_option maxHeartbeats 6400000 in
theorem i_PermutationModelOf_c (size : Int) (gv : Value) (rows : List Int) (w : World) (hr : Arr w gv (ints rows)) (hlen : rows.length ≤ 1048576) :
    Gives Try.prog 40 #[.agg #[.int .i64 size, gv]] w (fun v objs => ∃ sa sb, v = .tuple #[sa, sb, .bool (pmOk size rows)] ∧ objs = [.row 3 sa (ints (pmA size rows)), .row 3 sb (ints (pmB size rows))]) := by
  refine gives_enter (args := [_]) en_i_PermutationModelOf Try.func40 rfl Try.ntmps40 rfl ?_
  have hpk : pmOk size rows = ((oriX size rows).isSome && (oriX (barZ size rows) (barL size rows)).isSome) := rfl
  have hbl : (barL size rows).length ≤ 1048576 := by
    unfold barL; split <;> simp <;> omega
  cases hok : pmOk size rows with
  | false =>
    have f1 : pmA size rows = [] := if_neg (by rw [hok]; exact Bool.false_ne_true)
    have f2 : pmB size rows = [] := if_neg (by rw [hok]; exact Bool.false_ne_true)
    rw [f1, f2]
    rw [hok] at hpk
    repeat' (first | apply pwp_seq | apply pwp_region | (apply px_run; (first | (apply opv_move; first | exact hid_bool rfl | rfl) | (apply opv_assign; first | exact hid_bool rfl | rfl) | (apply opv_pick_t <;> rfl) | (apply opv_pick_f <;> rfl) | (apply opv_not <;> rfl) | (apply opv_field fld_O0; rfl) | (apply opv_load_blk 0; (first | with_reducible exact sc_ints); rfl; rfl; rfl) | (apply opv_load_str 0 st_G; rfl; rfl; rfl) | (apply opv_load_str 2 st_G; rfl; rfl; rfl) | (apply opv_extract; rfl; rfl)); rfl; rfl) | apply px_nil | (apply px_skip; rfl; rfl) | apply qseq_normal | apply qseq_ret | apply pwp_skip | apply pwp_ret | (apply pwp_cond_t; rfl) | (apply pwp_region_draw; kernel_rfl; kernel_rfl; exact Cl.stable _ _ _) | (apply px_guard_not; rfl; rfl; rfl; all_goals (intro hc; try (first | fail))) | (apply pwp_cond_not; rfl; all_goals (intro hc; try (first | fail))) | (apply px_box; rfl; rfl; rfl; rfl; intro bk) | (apply px_alloc st_G; rfl; rfl; rfl; intro bk) | (apply px_alloc st_O; rfl; rfl; rfl; intro bk) | (apply px_store_str 0 st_G; rfl; rfl; rfl; rfl; rfl; (intro w hw; (first | refine all2 rfl ?_ ?_) <;> (first | rfl | exact stor_row 1 hw rfl)); rfl) | (apply px_store_str 0 st_O; rfl; rfl; rfl; rfl; rfl; (intro w hw; (first | refine all1 rfl ?_) <;> (first | exact stor_row 1 hw rfl)); rfl) | (apply px_gives; rfl; rfl; rfl; rfl; rfl; exact fun w hw => i_ComplementOf_c _ _ rows _ (by first | exact hw.arr (by assumption)); rintro _ _ ⟨vb, rfl, rfl⟩) | (apply px_gives; rfl; rfl; rfl; rfl; rfl; exact fun w hw => i_OrientationOf_c size gv rows _ (by first | exact hw.arr (by assumption)) hlen; rintro _ _ ⟨vo, rfl, rfl⟩) | (apply px_gives; rfl; rfl; rfl; rfl; rfl; exact fun w hw => i_OrientationOf_c (barZ size rows) _ (barL size rows) _ (by first | exact hw.rowArr (k := 3) rfl) hbl; rintro _ _ ⟨vh, rfl, rfl⟩))
    all_goals first
      | (exfalso; simp_all; done)
      | (refine qbody_ret3 rfl rfl rfl rfl ⟨_, ⟨_, _, rfl, rfl⟩, fun w' h => ?_⟩
         exact ((h.sub (List.nil_sublist _)).nilRow _).nilRow _)
  | true =>
    have hpm := pm_facts hok
    obtain ⟨n, hn, hrl, hn1, hn7⟩ := isG_size hpm.isG
    subst hn
    have hrl' : rows.length = n := hrl
    have k1 : ∀ w', Arr w' gv (ints rows) → Gives Try.prog 33 #[.agg #[.int .i64 n, gv]] w' (fun v objs => ∃ sv, v = .tuple #[.agg #[sv], .bool true] ∧ objs = [.row 3 sv (ints (gRows n (oriQ n rows)))]) := fun w' h => by
      have := i_OrientationOf_c n gv rows w' h hlen
      rw [hpm.one, hpm.o, hrl] at this; exact this
    have k2 : ∀ vb w', Arr w' vb (ints (barL n rows)) → Gives Try.prog 33 #[.agg #[.int .i64 (barZ n rows), vb]] w' (fun v objs => ∃ sv, v = .tuple #[.agg #[sv], .bool true] ∧ objs = [.row 3 sv (ints (gRows n (oriQ (barZ n rows) (barL n rows))))]) := fun vb w' h => by
      have := i_OrientationOf_c (barZ n rows) vb (barL n rows) w' h hbl
      rw [hpm.two, hpm.h, hrl] at this; exact this
    have e1 : pmA n rows = ordU n (pmFA n rows) n := by unfold pmA; rw [if_pos hok, hrl]
    have e2 : pmB n rows = ordU n (pmFB n rows) n := by unfold pmB; rw [if_pos hok, hrl]
    rw [e1, e2]
    have hHn : ∀ i, oriQ (barZ n rows) (barL n rows) i i = false := fun i => ori_irr i
    have hOn : ∀ i, oriQ n rows i i = false := fun i => ori_irr i
    have hFA : pmFA n rows = fun u v => oriQ (barZ n rows) (barL n rows) u v || oriQ n rows u v := rfl
    have hFB : pmFB n rows = fun u v => oriQ (barZ n rows) (barL n rows) u v || oriQ n rows v u := rfl
    have hIA := pmFA_irr n rows
    have hIB := pmFB_irr n rows
    generalize pmFA n rows = FA at *
    generalize pmFB n rows = FB at *
    generalize oriQ (barZ n rows) (barL n rows) = H at *
    generalize oriQ n rows = O at *
    repeat' (first | apply pwp_seq | apply pwp_region | (apply px_run; (first | (apply opv_move; first | exact hid_bool rfl | rfl) | (apply opv_assign; first | exact hid_bool rfl | rfl) | (apply opv_pick_f <;> rfl) | (apply opv_not <;> rfl) | (apply opv_load_str 0 st_G; rfl; rfl; rfl) | (apply opv_load_str 2 st_G; rfl; rfl; rfl) | (apply opv_extract; rfl; rfl)); rfl; rfl) | apply px_nil | apply qseq_normal | apply pwp_skip | (apply pwp_cond_f; rfl) | (apply px_box; rfl; rfl; rfl; rfl; intro bk) | (apply px_alloc st_G; rfl; rfl; rfl; intro bk) | (apply px_alloc st_O; rfl; rfl; rfl; intro bk) | (apply px_store_str 0 st_G; rfl; rfl; rfl; rfl; rfl; (intro w hw; (first | refine all2 rfl ?_ ?_) <;> (first | rfl | exact stor_row 1 hw rfl)); rfl) | (apply px_store_str 0 st_O; rfl; rfl; rfl; rfl; rfl; (intro w hw; (first | refine all1 rfl ?_) <;> (first | exact stor_row 1 hw rfl)); rfl) | (apply px_gives; rfl; rfl; rfl; rfl; rfl; exact fun w hw => i_ComplementOf_c _ _ rows _ (by first | exact hw.arr (by assumption)); rintro _ _ ⟨vb, rfl, rfl⟩) | (apply px_gives; rfl; rfl; rfl; rfl; rfl; exact fun w hw => k1 _ (by first | exact hw.arr (by assumption)); rintro _ _ ⟨vo, rfl, rfl⟩) | (apply px_gives; rfl; rfl; rfl; rfl; rfl; exact fun w hw => k2 _ _ (by first | exact hw.rowArr (k := 3) rfl); rintro _ _ ⟨vh, rfl, rfl⟩))
    rename_i bg bb bo
    have hHl := gRows_length n H
    have hOl := gRows_length n O
    repeat' (first | apply pwp_seq | apply pwp_region | (apply px_run; (first | (apply opv_move; first | exact hid_int rfl) | (apply opv_assign; first | rfl) | (apply opv_field fld_O0; rfl) | (apply opv_load_blk 0; (first | with_reducible exact sc_ints); rfl; rfl; rfl) | (apply opv_load_blk 4; (first | with_reducible exact sc_ints); rfl; rfl; rfl) | (apply opv_len_ints el_int; rfl; (first | exact rd_row 5 rfl))); rfl; rfl) | apply px_nil | apply qseq_normal | apply pwp_block | (apply pwp_region_any [0, 1, 3, 4] [] 4 (Cl [] w [.blk bk [vh], .row 3 vh _, .blk bo [vo], .row 3 vo _, .blk bb _, .row 3 vb _, .blk bg _]); kernel_rfl; decide +kernel; exact Cl.stable _ _ _; exact fun w h => h.sub (by repeat (first | exact List.Sublist.refl _))) | apply qlooks_normal | (apply qstep_in; exact fun w h => h.sub (by repeat (first | exact List.sublist_append_right _ _ | apply List.Sublist.cons))) | (apply pxa_nil; decide +kernel) | (apply pxa_one 2; decide +kernel; rfl) | (apply pxa_one 5; decide +kernel; rfl) | (apply pxa_one 6; decide +kernel; rfl) | (apply pxa_one 7; decide +kernel; rfl) | (apply px_gives; rfl; rfl; rfl; rfl; rfl; exact fun w hw => x_Clone_c _ _ _ (by first | exact hw.rowArr (k := 1) rfl | exact hw.rowArr (k := 2) rfl) (by omega); rintro av _ rfl))
    rename_i a1
    refine pwp_loop (τ := Nat) [(13,14), (16,16), (47,75)] (fun i => [(47, .int .i64 (i : Int))]) (fun i => Cl [] w [.row 3 av (ints (gRows n (bU H O i))), .row 3 a1 (ints (gRows n (aU H O i))), .blk bk [vh], .row 3 vh (ints (gRows n H)), .blk bo [vo], .row 3 vo (ints (gRows n O)), .blk bb [.int .i64 (barZ n rows), vb], .row 3 vb (ints (barL n rows)), .blk bg [.int .i64 n, gv]]) (fun i => i ≤ n) (fun i => n - i) 0
      ⟨rfl, trivial⟩ (Nat.zero_le _) (fun w' h => by rw [aU_zero, bU_zero]; exact h) (fun J i hi => ?_)
    by_cases hin : i < n
    · have hal := gRows_length n (aU H O i)
      have has1 := aU_step H O hn7 hin
      have hbs := bU_step H O hn7 hin
      have hrg : ∀ k, k < (listS ((gRows n O).getD i 0)).length → _ := fun k => row_getD (k := k) O hn7 hin
      have hLl := listS_length ((gRows n O).getD i 0)
      generalize hLe : listS ((gRows n O).getD i 0) = L at *
      have kL : ∀ w', Gives Try.prog 81 #[.int .i64 ((gRows n O).getD i 0)] w' (fun v objs => objs = [.row 3 v (ints L)]) := fun w' => by
        have := i_ListOf_c ((gRows n O).getD i 0) w'
        rw [hLe] at this; exact this
      repeat' (first | apply pwp_seq | apply pwp_region | (apply px_run; (first | (apply opv_move; first | exact hid_int rfl | rfl) | (apply opv_assign; first | exact hid_int rfl) | (apply opv_lss <;> rfl) | (apply opv_or <;> rfl) | (apply opv_load_ints sc_int; rfl; (first | exact rd_row 1 rfl | exact rd_row 5 rfl); (first | omega)) | (apply opv_index_nat (vs := ints _) el_int; rfl; rfl; (first | exact rd_row 1 rfl | exact rd_row 5 rfl); (first | (simp only [ints_length]; omega))) | (apply opv_len_ints el_int; rfl; (first | exact rd_row 0 rfl))); rfl; rfl) | apply px_nil | apply qseq_normal | apply pwp_block | apply pwp_skip | (apply pwp_cond_dec; rfl; all_goals (intro hc; try (first | (exfalso; omega)))) | (apply px_store_int 1 co_int; rfl; rfl; rfl; (first | omega); rfl) | (apply px_gives; rfl; rfl; rfl; rfl; rfl; exact fun w hw => kL _; rintro sl _ rfl))
      refine pwp_loop (τ := Nat) [(16,16), (62,74)] (fun k => [(62, .int .i64 (k : Int))]) (fun k => Cl [] w [.row 3 sl (ints L), .row 3 av (ints (gRows n (orC (bU H O i) i L k))), .row 3 a1 (ints (gRows n (aU H O (i + 1)))), .blk bk [vh], .row 3 vh (ints (gRows n H)), .blk bo [vo], .row 3 vo (ints (gRows n O)), .blk bb [.int .i64 (barZ n rows), vb], .row 3 vb (ints (barL n rows)), .blk bg [.int .i64 n, gv]]) (fun k => k ≤ L.length) (fun k => L.length - k) 0
        ⟨rfl, trivial⟩ (Nat.zero_le _) (fun w' h => by rw [← has1]; exact h) (fun J2 k hk => ?_)
      by_cases hkl : k < L.length
      · obtain ⟨x, hx, hxn⟩ := hrg k hkl
        have hql := gRows_length n (orC (bU H O i) i L k)
        have hor := gRows_or (orC (bU H O i) i L k) hn7 hxn hin
        have hsu : orC (bU H O i) i L (k + 1) = addQ (orC (bU H O i) i L k) x i := by rw [orC, hx]; rfl
        have d0 : 0 ≤ L.getD k 0 ∧ L.getD k 0 < n := by omega
        have e0' : (L.getD k 0).toNat = x := by omega
        have hor2 : (gRows n (orC (bU H O i) i L k)).set (L.getD k 0).toNat (ior ((gRows n (orC (bU H O i) i L k)).getD (L.getD k 0).toNat 0) (ishl 1 (i : Int))) = gRows n (orC (bU H O i) i L (k + 1)) := by rw [e0', hsu]; exact hor
        repeat' (first | apply pwp_seq | apply pwp_region | (apply px_run; (first | (apply opv_move; first | exact hid_int rfl | rfl) | (apply opv_assign; first | exact hid_int rfl) | (apply opv_lss <;> rfl) | (apply opv_or <;> rfl) | (apply opv_add_in; rfl; rfl; omega) | (apply opv_shl; rfl; rfl; omega) | (apply opv_load_ints sc_int; rfl; (first | exact rd_row 0 rfl | exact rd_row 1 rfl); (first | omega)) | (apply opv_index_nat (vs := ints _) el_int; rfl; rfl; (first | exact rd_row 0 rfl); (first | (simp only [ints_length]; omega))) | (apply opv_index (vs := ints _) el_int; rfl; rfl; (first | exact rd_row 1 rfl); omega; (first | (simp only [ints_length]; omega)))); rfl; rfl) | apply px_nil | apply qseq_normal | apply pwp_block | apply qblock_normal | apply pwp_skip | (apply pwp_region_any [0, 1, 2, 3, 4, 5, 6] [8] 2 (Cl [] w [.row 3 sl _, .row 3 av _, .row 3 a1 _, .blk bk _, .row 3 vh _, .blk bo _, .row 3 vo _, .blk bb _, .row 3 vb _, .blk bg _]); kernel_rfl; decide +kernel; exact Cl.stable _ _ _; exact fun w h => h.sub (by repeat (first | exact List.Sublist.refl _))) | apply qlooks_normal | (apply qstep_out; decide +kernel) | (apply qstep_in; exact fun w h => h.sub (by repeat (first | exact List.Sublist.refl _))) | (apply pxa_nil; decide +kernel) | (apply pxa_one 7; decide +kernel; rfl) | (apply pxa_one 8; decide +kernel; rfl) | (apply pwp_cond_dec; rfl; all_goals (intro hc; try (first | (exfalso; omega)))) | (apply px_store_int 1 co_int; rfl; rfl; rfl; (first | omega); rfl))
        refine qround_normal ?_ ⟨k + 1, ⟨rfl, trivial⟩, by omega, by omega, fun w' h => ?_⟩
        · repeat (first | exact same_refl | refine same_upd rfl ?_ | refine same_junk rfl ?_)
        · rw [← hor2]
          exact h
      obtain rfl : k = L.length := by omega
      repeat' (first | apply pwp_seq | apply pwp_region | (apply px_run; (first | (apply opv_move; first | exact hid_int rfl) | (apply opv_lss <;> rfl) | (apply opv_add_in; rfl; rfl; omega)); rfl; rfl) | apply px_nil | apply qseq_normal | apply qseq_exit | apply qblock_normal | (apply qblock_exit_same; rfl) | apply pwp_exit | apply qround_exit | (apply pwp_cond_dec; rfl; all_goals (intro hc; try (first | (exfalso; omega)))))
      refine qround_normal ?_ ⟨i + 1, ⟨rfl, trivial⟩, by omega, by omega, fun w' h => ?_⟩
      · repeat (first | exact same_refl | refine same_upd rfl ?_ | refine same_junk rfl ?_)
      · rw [← hbs]
        exact Cl.sub (by assumption) (by repeat (first | exact List.Sublist.slnil | exact List.Sublist.refl _ | apply List.Sublist.cons_cons | exact List.sublist_append_left _ _ | exact List.sublist_append_right _ _ | apply List.Sublist.cons))
    obtain rfl : i = n := by omega
    rw [aU_done, bU_done, ← hFA, ← hFB]
    repeat' (first | apply pwp_seq | apply pwp_region | (apply px_run; (first | (apply opv_move; first | rfl) | (apply opv_assign; first | exact hid_bool rfl | rfl) | (apply opv_lss <;> rfl)); rfl; rfl) | apply px_nil | apply qseq_normal | apply qseq_exit | (apply qblock_exit_same; rfl) | apply pwp_exit | apply pwp_ret | apply qround_exit | (apply pwp_cond_dec; rfl; all_goals (intro hc; try (first | (exfalso; omega)))) | (apply px_gives; rfl; rfl; rfl; rfl; rfl; exact fun w hw => i_orderOf_c _ _ _ _ (by first | exact hw.rowArr (k := 1) rfl) hn7 hIA; rintro sa _ rfl) | (apply px_gives; rfl; rfl; rfl; rfl; rfl; exact fun w hw => i_orderOf_c _ _ _ _ (by first | exact hw.rowArr (k := 1) rfl) hn7 hIB; rintro sb _ rfl))
    refine qbody_ret3 rfl rfl rfl rfl ⟨_, ⟨_, _, rfl, rfl⟩, fun w' h => ?_⟩
    exact Cl.ofSel (by assumption) (by repeat (first | exact sel_nil | refine sel_cons 0 rfl ?_ | refine sel_cons 1 rfl ?_ | refine sel_cons 2 rfl ?_ | refine sel_cons 3 rfl ?_ | refine sel_cons 4 rfl ?_ | refine sel_cons 5 rfl ?_ | refine sel_cons 6 rfl ?_ | refine sel_cons 7 rfl ?_ | refine sel_cons 8 rfl ?_ | refine sel_cons 9 rfl ?_ | refine sel_cons 10 rfl ?_ | refine sel_cons 11 rfl ?_ | refine sel_cons 12 rfl ?_ | refine sel_cons 13 rfl ?_))
theorem en_s_IsPermutationGraph : Entry Try.prog 37 := ⟨_, Try.func37, by kernel_rfl, rfl⟩
theorem s_IsPermutationGraph_c (size : Int) (gv : Value) (rows : List Int) (w : World) (hr : Arr w gv (ints rows)) :
    Pure Try.prog 37 #[.agg #[.int .i64 size, gv]] w (.bool (pmOk size rows)) := by
  refine pure_enter (args := [_]) en_s_IsPermutationGraph Try.func37 rfl Try.ntmps37 rfl ?_
  repeat' (first | apply pwp_seq | apply pwp_region | (apply px_run; (first | (apply opv_move; first | exact hid_bool rfl | rfl) | (apply opv_assign; first | exact hid_bool rfl | rfl) | (apply opv_load_str 0 st_G; rfl; rfl; rfl) | (apply opv_extract; rfl; rfl)); rfl; rfl) | apply px_nil | apply qseq_normal | apply pwp_ret | (apply px_box; rfl; rfl; rfl; rfl; intro bk) | (apply px_gives; rfl; rfl; rfl; rfl; rfl; exact fun w hw => s_PermutationModelOf_c _ _ rows _ (by first | exact hw.arr (by assumption)); rintro _ _ ⟨sa, sb, rfl, rfl⟩))
  refine qbody_ret1 (v := .bool _) rfl rfl ⟨rfl, fun _ h => h.below⟩
theorem en_i_IsPermutationGraph : Entry Try.prog 38 := ⟨_, Try.func38, by kernel_rfl, rfl⟩
theorem i_IsPermutationGraph_c (size : Int) (gv : Value) (rows : List Int) (w : World) (hr : Arr w gv (ints rows)) (hlen : rows.length ≤ 1048576) :
    Pure Try.prog 38 #[.agg #[.int .i64 size, gv]] w (.bool (pmOk size rows)) := by
  refine pure_enter (args := [_]) en_i_IsPermutationGraph Try.func38 rfl Try.ntmps38 rfl ?_
  repeat' (first | apply pwp_seq | apply pwp_region | (apply px_run; (first | (apply opv_move; first | exact hid_bool rfl | rfl) | (apply opv_assign; first | exact hid_bool rfl | rfl) | (apply opv_load_str 0 st_G; rfl; rfl; rfl) | (apply opv_extract; rfl; rfl)); rfl; rfl) | apply px_nil | apply qseq_normal | apply pwp_ret | (apply px_box; rfl; rfl; rfl; rfl; intro bk) | (apply px_gives; rfl; rfl; rfl; rfl; rfl; exact fun w hw => i_PermutationModelOf_c _ _ rows _ (by first | exact hw.arr (by assumption)) hlen; rintro _ _ ⟨sa, sb, rfl, rfl⟩))
  refine qbody_ret1 (v := .bool _) rfl rfl ⟨rfl, fun _ h => h.below⟩
end Go.Proofs.Ytpmeehkabaobkaa
