/- FnSplits holds: for every input true; the input reads as it did. -/
import Derived.Test.YtcicdnpmlcjcmaaGreatLk
import Derived.Test.YtcicdnpmlcjcmaaGreatDs
import Derived.Test.YtcicdnpmlcjcmaaGreatDh
import Derived.Test.YtcicdnpmlcjcmaaGreatCs
import Derived.Test.YtcicdnpmlcjcmaaGreatDg
import Derived.Test.YtcicdnpmlcjcmaaGreatPwPfd
import Derived.Test.YtcicdnpmlcjcmaaGreatPwOrd
import Derived.Test.YtcicdnpmlcjcmaaGreatPwByt
namespace Go.Proofs.YtcicdnpmlcjcmaaGreat
open Go Go.RowKit Go.Pw Go.ChangeShapes Go.WideShapes Go.ChangeAt
theorem en_l_FnSplits : Entry Tryz.prog 3 := ⟨_, Tryz.func3, by kernel_rfl, rfl⟩
theorem sameInts_same (sa sb : Value) (a : List Int) (w : World) (ha : Arr w sa (ints a)) (hb : Arr w sb (ints a)) : Pure Tryz.prog 12 #[sa, sb] w (.bool true) := by
  have h := sameInts_c sa sb a a w ha hb
  rwa [decide_eq_true rfl] at h
theorem s_EdgesOf_n (size : Int) (gv : Value) (rows : List Int) (w : World) (hr : Arr w gv (ints rows)) :
    Gives Tryz.prog 24 #[.agg #[.int .i64 size, gv]] w (fun v objs => ∃ ps, ps.length = (edgesL size rows).length ∧ objs = .row 24 v (svsOf ps) :: rowsOb 3 ps) := by
  have := s_EdgesOf_c size gv rows w hr
  exact ⟨this.entry, this.out.mono fun e w' ⟨v, objs, he, ⟨ps, hps, ho⟩, hc⟩ => ⟨v, objs, he, ⟨ps, by rw [← hps]; simp [lssOf], ho⟩, hc⟩⟩
theorem obs_no {size : Int} {rows : List Int} (hg : ¬ IsG size rows) : (splitObsX size rows).isSome = false := by
  unfold splitObsX fourX
  rw [if_neg hg, holeX_none hg]; rfl
set_option maxRecDepth 100000 in
set_option maxHeartbeats 6400000 in
theorem fnSplits_c (cv : Value) (l : List Int) (w : World) (hr : Arr w cv (byts l)) (hb : ∀ x ∈ l, 0 ≤ x ∧ x ≤ 255) :
    Pure Tryz.prog 3 #[cv] w (.bool true) := by
  refine pure_enter (args := [_]) en_l_FnSplits Tryz.func3 rfl Tryz.ntmps3 rfl ?_
  by_cases hlen : l.length ≤ 1048576
  case neg =>
    have kb := fun w' h => big_c cv l w' h
    rw [decide_eq_true (show (1048576 : Int) < (l.length : Int) by omega)] at kb
    repeat' (first | apply pwp_seq | apply pwp_region | (apply px_run; (first | (apply opv_move; first | rfl) | (apply opv_assign; first | exact hid_bool rfl) | (apply opv_call; rfl; rfl; exact Cl.stable _ _ _; exact fun w hw => kb _ (hw.arr hr))); rfl; rfl) | apply px_nil | apply qseq_normal | apply qseq_ret | apply pwp_ret | (apply pwp_cond_t; rfl))
    refine qbody_ret1 (v := .bool _) rfl rfl ⟨rfl, fun _ h => h.below⟩
  have hcp : CodeP w cv l := ⟨hr, hb, hlen⟩
  have hap := nox (cv := cv) (l := l)
  have kb := fun w' h => big_c cv l w' h
  rw [decide_eq_false (show ¬ (1048576 : Int) < (l.length : Int) by omega)] at kb
  repeat' (first | apply pwp_seq | ((fail_if_success (with_reducible refine pwp_here 4 ?_)); apply pwp_region) | (apply px_run; (first | (apply opv_move; first | rfl) | (apply opv_assign; first | exact hid_bool rfl) | (apply opv_call; rfl; rfl; exact Cl.stable _ _ _; exact fun w hw => kb _ (hw.arr hr))); rfl; rfl) | apply px_nil | apply qseq_normal | apply pwp_skip | (apply pwp_cond_f; rfl) | (apply px_alloc st_G; rfl; rfl; rfl; intro bk) | (apply px_store_str 0 st_G; rfl; rfl; rfl; rfl; rfl; (intro w hw; (first | refine all2 rfl ?_ ?_) <;> (first | rfl | exact stor_row 1 hw rfl)); rfl) | (apply px_gives; rfl; rfl; rfl; rfl; rfl; exact fun w hw => s_DrawSplitOf_c cv l _ (hcp.at hap hw); rintro _ _ ⟨n, gv, rows, rfl, rfl⟩))
  obtain ⟨b, hb0⟩ : ∃ b, isSp n rows = b := ⟨_, rfl⟩
  obtain ⟨e, he0⟩ : ∃ e, (splitObsX n rows).isSome = e := ⟨_, rfl⟩
  have k1 : ∀ sv w', Arr w' sv (ints rows) → Pure Tryz.prog 6 #[.agg #[.int .i64 n, sv]] w' (.tuple #[.int .i64 (leastX (IsG n rows) (fun s => decide (splitP n rows s)) (ishl 1 n)), .bool b]) := fun sv w' h => by rw [← hb0]; exact i_SplitOf_c n sv rows w' h
  have k2 : ∀ sv w', Arr w' sv (ints rows) → Pure Tryz.prog 7 #[.agg #[.int .i64 n, sv]] w' (.tuple #[.int .i64 (leastX (IsG n rows) (fun s => decide (splitP n rows s)) (ishl 1 n)), .bool b]) := fun sv w' h => by rw [← hb0]; exact s_SplitOf_c n sv rows w' h
  have k3 : ∀ sv w', Arr w' sv (ints rows) → Gives Tryz.prog 9 #[.agg #[.int .i64 n, sv]] w' (fun v objs => ∃ sv, v = .tuple #[sv, .bool e] ∧ objs = [.row 3 sv (ints ((splitObsX n rows).getD []))]) := fun sv w' h => by rw [← he0]; exact i_SplitObstacle_c n sv rows w' h
  have k4 : ∀ sv w', Arr w' sv (ints rows) → Gives Tryz.prog 10 #[.agg #[.int .i64 n, sv]] w' (fun v objs => ∃ sv, v = .tuple #[sv, .bool e] ∧ objs = [.row 3 sv (ints ((splitObsX n rows).getD []))]) := fun sv w' h => by rw [← he0]; exact s_SplitObstacle_c n sv rows w' h
  have k5 : ∀ sv w', Arr w' sv (ints rows) → Pure Tryz.prog 11 #[.agg #[.int .i64 n, sv]] w' (.bool b) := fun sv w' h => by rw [← hb0]; exact i_IsSplit_c n sv rows w' h
  have k6 : ∀ sv w', Arr w' sv (ints rows) → Pure Tryz.prog 13 #[.agg #[.int .i64 n, sv]] w' (.bool b) := fun sv w' h => by rw [← hb0, ← sbd_eq]; exact i_SplitByDegrees_c n sv rows w' h
  have hch := isSp_chordal n rows
  rw [hb0] at hch
  obtain ⟨x1, hx1⟩ : ∃ x, elX n rows = x := ⟨_, rfl⟩
  obtain ⟨x2, hx2⟩ : ∃ x, elX (barZ n rows) (barL n rows) = x := ⟨_, rfl⟩
  have k7 : ∀ sv w', Arr w' sv (ints rows) → Pure Tryz.prog 14 #[.agg #[.int .i64 n, sv]] w' (.bool x1) := fun sv w' h => by rw [← hx1]; exact s_IsChordal_c n sv rows w' h
  have k8 : ∀ sv w', Arr w' sv (ints (barL n rows)) → Pure Tryz.prog 14 #[.agg #[.int .i64 (barZ n rows), sv]] w' (.bool x2) := fun sv w' h => by rw [← hx2]; exact s_IsChordal_c _ sv _ w' h
  rw [hx1, hx2] at hch
  repeat' (first | apply pwp_seq | ((fail_if_success (with_reducible refine pwp_here 9 ?_)); apply pwp_region) | (apply px_run; (first | (apply opv_move; first | rfl) | (apply opv_assign; first | exact hid_int rfl | exact hid_bool rfl | rfl) | (apply opv_load_str 0 st_G; rfl; rfl; rfl) | (apply opv_load_str 2 st_G; rfl; rfl; rfl) | (apply opv_load_str 3 st_G; rfl; rfl; rfl) | (apply opv_extract; rfl; rfl) | (apply opv_call; rfl; rfl; exact Cl.stable _ _ _; exact fun w hw => k1 _ _ (by first | exact hw.rowArr (k := 1) rfl)) | (apply opv_call; rfl; rfl; exact Cl.stable _ _ _; exact fun w hw => k2 _ _ (by first | exact hw.rowArr (k := 1) rfl))); rfl; rfl) | apply px_nil | apply qseq_normal | (apply px_alloc st_G; rfl; rfl; rfl; intro bk) | (apply px_store_str 0 st_G; rfl; rfl; rfl; rfl; rfl; (intro w hw; (first | refine all2 rfl ?_ ?_) <;> (first | rfl | exact stor_row 1 hw rfl)); rfl) | (apply px_gives; rfl; rfl; rfl; rfl; rfl; exact fun w hw => s_ComplementOf_c _ _ rows _ (by first | exact hw.rowArr (k := 1) rfl); rintro _ _ ⟨vb, rfl, rfl⟩) | (apply px_gives; rfl; rfl; rfl; rfl; rfl; exact fun w hw => k3 _ _ (by first | exact hw.rowArr (k := 3) rfl); rintro _ _ ⟨o1, rfl, rfl⟩) | (apply px_gives; rfl; rfl; rfl; rfl; rfl; exact fun w hw => k4 _ _ (by first | exact hw.rowArr (k := 4) rfl); rintro _ _ ⟨o2, rfl, rfl⟩))
  refine pwp_join [(52,124)] (fun _ : Unit => [(124, .bool false)]) (fun _ => Cl [] w []) (fun _ => True) ?_ (fun J0 x _ => ?_)
  · by_cases hg : IsG n rows
    case neg =>
      have h1 : b = false := by rw [← hb0]; exact isSp_no hg
      have h2 : e = false := by rw [← he0]; exact obs_no hg
      have h3 : x1 = false := by rw [← hx1]; exact elX_no hg
      subst h1 h2 h3
      have kG := fun sv w' h => s_IsGraph_c n sv rows w' h
      rw [decide_eq_false hg] at kG
      repeat' (first | apply pwp_region | (apply px_run; (first | (apply opv_neq_of ty_bool; rfl; rfl; rfl) | (apply opv_move; first | exact hid_int rfl | exact hid_bool rfl | rfl) | (apply opv_neq <;> rfl) | (apply opv_pick_f <;> rfl) | (apply opv_not <;> rfl) | (apply opv_load_str 2 st_G; rfl; rfl; rfl) | (apply opv_load_str 4 st_G; rfl; rfl; rfl) | (apply opv_call; rfl; rfl; exact Cl.stable _ _ _; exact fun w hw => k5 _ _ (by first | exact hw.rowArr (k := 5) rfl)) | (apply opv_call; rfl; rfl; exact Cl.stable _ _ _; exact fun w hw => k6 _ _ (by first | exact hw.rowArr (k := 5) rfl)) | (apply opv_call; rfl; rfl; exact Cl.stable _ _ _; exact fun w hw => k7 _ _ (by first | exact hw.rowArr (k := 5) rfl)) | (apply opv_call; rfl; rfl; exact Cl.stable _ _ _; exact fun w hw => kG _ _ (by first | exact hw.rowArr (k := 5) rfl)) | (apply opv_call; rfl; rfl; exact Cl.stable _ _ _; exact fun w hw => sameInts_same _ _ ((splitObsX n rows).getD []) _ (by first | exact hw.rowArr (k := 1) rfl) (by first | exact hw.rowArr (k := 0) rfl))); rfl; rfl) | apply px_nil | (apply px_skip; rfl; rfl) | (apply px_guard_ndec; rfl; rfl; rfl; all_goals (intro hc; try (first | contradiction))))
      refine qjoin_normal ?_ ⟨(), ⟨rfl, trivial⟩, trivial, fun _ h => by exact Cl.sub (by assumption) (by repeat (first | exact List.Sublist.slnil | exact List.Sublist.refl _ | apply List.Sublist.cons_cons | exact List.sublist_append_left _ _ | exact List.sublist_append_right _ _ | apply List.Sublist.cons))⟩
      repeat (first | exact same_refl | refine same_upd rfl ?_ | refine same_junk rfl ?_)
    have kG := fun sv w' h => s_IsGraph_c n sv rows w' h
    rw [decide_eq_true hg] at kG
    obtain ⟨m, hm, _, _, _⟩ := isG_size hg
    have hob := obs_iff (hm ▸ hg : IsG (m : Int) rows)
    rw [← hm, he0, hb0] at hob
    cases b with
    | true =>
      obtain rfl : e = false := hob
      obtain ⟨rfl, rfl⟩ : x1 = true ∧ x2 = true := by simpa using hch.symm
      have kP := fun sv w' h => i_IsSplitPartition_c n sv rows (leastX (IsG n rows) (fun s => decide (splitP n rows s)) (ishl 1 n)) w' h
      rw [decide_eq_true (isSp_least hb0)] at kP
      have kB : ∀ sv w', Arr w' sv (ints (barL n rows)) → Pure Tryz.prog 11 #[.agg #[.int .i64 (barZ n rows), sv]] w' (.bool true) := fun sv w' h => by
        have h2 : isSp (barZ n rows) (barL n rows) = true := by rw [hm] at hg hb0 ⊢; exact isSp_bar hg hb0
        rw [← h2]; exact i_IsSplit_c _ sv _ w' h
      repeat' (first | apply pwp_region | (apply px_run; (first | (apply opv_neq_of ty_bool; rfl; rfl; rfl) | (apply opv_move; first | exact hid_int rfl | exact hid_bool rfl | rfl) | (apply opv_neq <;> rfl) | (apply opv_pick_t <;> rfl) | (apply opv_pick_f <;> rfl) | (apply opv_not <;> rfl) | (apply opv_load_str 2 st_G; rfl; rfl; rfl) | (apply opv_load_str 4 st_G; rfl; rfl; rfl) | (apply opv_call; rfl; rfl; exact Cl.stable _ _ _; exact fun w hw => k5 _ _ (by first | exact hw.rowArr (k := 5) rfl)) | (apply opv_call; rfl; rfl; exact Cl.stable _ _ _; exact fun w hw => k6 _ _ (by first | exact hw.rowArr (k := 5) rfl)) | (apply opv_call; rfl; rfl; exact Cl.stable _ _ _; exact fun w hw => k7 _ _ (by first | exact hw.rowArr (k := 5) rfl)) | (apply opv_call; rfl; rfl; exact Cl.stable _ _ _; exact fun w hw => k8 _ _ (by first | exact hw.rowArr (k := 3) rfl)) | (apply opv_call; rfl; rfl; exact Cl.stable _ _ _; exact fun w hw => kG _ _ (by first | exact hw.rowArr (k := 5) rfl)) | (apply opv_call; rfl; rfl; exact Cl.stable _ _ _; exact fun w hw => sameInts_same _ _ ((splitObsX n rows).getD []) _ (by first | exact hw.rowArr (k := 1) rfl) (by first | exact hw.rowArr (k := 0) rfl)) | (apply opv_call; rfl; rfl; exact Cl.stable _ _ _; exact fun w hw => kP _ _ (by first | exact hw.rowArr (k := 5) rfl)) | (apply opv_call; rfl; rfl; exact Cl.stable _ _ _; exact fun w hw => kB _ _ (by first | exact hw.rowArr (k := 3) rfl)) | (apply opv_eql_bool ty_bool <;> rfl)); rfl; rfl) | apply px_nil | (apply px_skip; rfl; rfl) | (apply px_guard_ndec; rfl; rfl; rfl; all_goals (intro hc; try (first | contradiction))))
      refine qjoin_normal ?_ ⟨(), ⟨rfl, trivial⟩, trivial, fun _ h => by exact Cl.sub (by assumption) (by repeat (first | exact List.Sublist.slnil | exact List.Sublist.refl _ | apply List.Sublist.cons_cons | exact List.sublist_append_left _ _ | exact List.sublist_append_right _ _ | apply List.Sublist.cons))⟩
      repeat (first | exact same_refl | refine same_upd rfl ?_ | refine same_junk rfl ?_)
    | false =>
      obtain rfl : e = true := hob
      have hgood : splitObsP n rows ((splitObsX n rows).getD []) := by rw [hm] at hg he0 ⊢; exact obs_good hg he0
      have kO := fun sv lv w' h h2 => i_IsSplitObstacle_c n sv lv rows ((splitObsX n rows).getD []) w' h h2
      rw [decide_eq_true hgood] at kO
      cases x1 with
      | false =>
        repeat' (first | apply pwp_region | (apply px_run; (first | (apply opv_neq_of ty_bool; rfl; rfl; rfl) | (apply opv_move; first | exact hid_int rfl | exact hid_bool rfl | rfl) | (apply opv_neq <;> rfl) | (apply opv_pick_t <;> rfl) | (apply opv_pick_f <;> rfl) | (apply opv_not <;> rfl) | (apply opv_load_str 2 st_G; rfl; rfl; rfl) | (apply opv_load_str 4 st_G; rfl; rfl; rfl) | (apply opv_call; rfl; rfl; exact Cl.stable _ _ _; exact fun w hw => k5 _ _ (by first | exact hw.rowArr (k := 5) rfl)) | (apply opv_call; rfl; rfl; exact Cl.stable _ _ _; exact fun w hw => k6 _ _ (by first | exact hw.rowArr (k := 5) rfl)) | (apply opv_call; rfl; rfl; exact Cl.stable _ _ _; exact fun w hw => k7 _ _ (by first | exact hw.rowArr (k := 5) rfl)) | (apply opv_call; rfl; rfl; exact Cl.stable _ _ _; exact fun w hw => kG _ _ (by first | exact hw.rowArr (k := 5) rfl)) | (apply opv_call; rfl; rfl; exact Cl.stable _ _ _; exact fun w hw => sameInts_same _ _ ((splitObsX n rows).getD []) _ (by first | exact hw.rowArr (k := 1) rfl) (by first | exact hw.rowArr (k := 0) rfl)) | (apply opv_call; rfl; rfl; exact Cl.stable _ _ _; exact fun w hw => kO _ _ _ (by first | exact hw.rowArr (k := 5) rfl) (by first | exact hw.rowArr (k := 0) rfl)) | (apply opv_eql_bool ty_bool <;> rfl)); rfl; rfl) | apply px_nil | (apply px_skip; rfl; rfl) | (apply px_guard_ndec; rfl; rfl; rfl; all_goals (intro hc; try (first | contradiction))))
        refine qjoin_normal ?_ ⟨(), ⟨rfl, trivial⟩, trivial, fun _ h => by exact Cl.sub (by assumption) (by repeat (first | exact List.Sublist.slnil | exact List.Sublist.refl _ | apply List.Sublist.cons_cons | exact List.sublist_append_left _ _ | exact List.sublist_append_right _ _ | apply List.Sublist.cons))⟩
        repeat (first | exact same_refl | refine same_upd rfl ?_ | refine same_junk rfl ?_)
      | true =>
        obtain rfl : x2 = false := by simpa using hch.symm
        repeat' (first | apply pwp_region | (apply px_run; (first | (apply opv_neq_of ty_bool; rfl; rfl; rfl) | (apply opv_move; first | exact hid_int rfl | exact hid_bool rfl | rfl) | (apply opv_neq <;> rfl) | (apply opv_pick_t <;> rfl) | (apply opv_pick_f <;> rfl) | (apply opv_not <;> rfl) | (apply opv_load_str 2 st_G; rfl; rfl; rfl) | (apply opv_load_str 4 st_G; rfl; rfl; rfl) | (apply opv_call; rfl; rfl; exact Cl.stable _ _ _; exact fun w hw => k5 _ _ (by first | exact hw.rowArr (k := 5) rfl)) | (apply opv_call; rfl; rfl; exact Cl.stable _ _ _; exact fun w hw => k6 _ _ (by first | exact hw.rowArr (k := 5) rfl)) | (apply opv_call; rfl; rfl; exact Cl.stable _ _ _; exact fun w hw => k7 _ _ (by first | exact hw.rowArr (k := 5) rfl)) | (apply opv_call; rfl; rfl; exact Cl.stable _ _ _; exact fun w hw => k8 _ _ (by first | exact hw.rowArr (k := 3) rfl)) | (apply opv_call; rfl; rfl; exact Cl.stable _ _ _; exact fun w hw => kG _ _ (by first | exact hw.rowArr (k := 5) rfl)) | (apply opv_call; rfl; rfl; exact Cl.stable _ _ _; exact fun w hw => sameInts_same _ _ ((splitObsX n rows).getD []) _ (by first | exact hw.rowArr (k := 1) rfl) (by first | exact hw.rowArr (k := 0) rfl)) | (apply opv_call; rfl; rfl; exact Cl.stable _ _ _; exact fun w hw => kO _ _ _ (by first | exact hw.rowArr (k := 5) rfl) (by first | exact hw.rowArr (k := 0) rfl)) | (apply opv_eql_bool ty_bool <;> rfl)); rfl; rfl) | apply px_nil | (apply px_skip; rfl; rfl) | (apply px_guard_ndec; rfl; rfl; rfl; all_goals (intro hc; try (first | contradiction))))
        refine qjoin_normal ?_ ⟨(), ⟨rfl, trivial⟩, trivial, fun _ h => by exact Cl.sub (by assumption) (by repeat (first | exact List.Sublist.slnil | exact List.Sublist.refl _ | apply List.Sublist.cons_cons | exact List.sublist_append_left _ _ | exact List.sublist_append_right _ _ | apply List.Sublist.cons))⟩
        repeat (first | exact same_refl | refine same_upd rfl ?_ | refine same_junk rfl ?_)
  repeat' (first | apply pwp_seq | apply pwp_region | (apply px_run; (first | (apply opv_move; first | rfl) | (apply opv_assign; first | exact hid_int rfl | rfl) | (apply opv_load_str 0 st_G; rfl; rfl; rfl)); rfl; rfl) | apply px_nil | apply qseq_normal | apply pwp_block | apply pwp_skip | (apply pwp_cond_f; rfl) | (apply px_alloc st_G; rfl; rfl; rfl; intro bk) | (apply px_store_str 0 st_G; rfl; rfl; rfl; rfl; rfl; (intro w hw; (first | refine all2 rfl ?_ ?_) <;> (first | rfl | exact stor_row 1 hw rfl)); rfl) | (apply px_gives; rfl; rfl; rfl; rfl; rfl; exact fun w hw => s_DrawDegreesOf_c cv l _ (hcp.at hap hw); rintro _ _ ⟨n2, gv2, rows2, rfl, rfl⟩) | (apply px_gives; rfl; rfl; rfl; rfl; rfl; exact fun w hw => i_DegreesOf_c _ _ rows2 _ (by first | exact hw.rowArr (k := 1) rfl); rintro nv _ rfl))
  have hsk := hand_shake n2 rows2
  have hlen2 := degL_len n2 rows2
  have hbd := degL_bound n2 rows2
  have hel := edgesL_length n2 rows2
  refine pwp_loop [(16,17), (129,140)] (fun k : Nat => [(16, .int .i64 (sumU (degL n2 rows2) k)), (17, .int .i64 (k : Int))]) (fun _ => Cl [] w [.row 3 nv (ints (degL n2 rows2)), .blk bk [.int .i64 n2, gv2], .row 3 gv2 (ints rows2)])
    (fun k => k ≤ (degL n2 rows2).length) (fun k => (degL n2 rows2).length - k) 0 ⟨rfl, rfl, trivial⟩ (Nat.zero_le _) (fun w' h => by exact Cl.ofSel (by assumption) (by repeat (first | exact sel_nil | refine sel_cons 0 rfl ?_ | refine sel_cons 1 rfl ?_ | refine sel_cons 2 rfl ?_ | refine sel_cons 3 rfl ?_ | refine sel_cons 4 rfl ?_ | refine sel_cons 5 rfl ?_ | refine sel_cons 6 rfl ?_ | refine sel_cons 7 rfl ?_ | refine sel_cons 8 rfl ?_ | refine sel_cons 9 rfl ?_ | refine sel_cons 10 rfl ?_ | refine sel_cons 11 rfl ?_ | refine sel_cons 12 rfl ?_ | refine sel_cons 13 rfl ?_))) (fun J1 k hk => ?_)
  by_cases hlt : k < (degL n2 rows2).length
  · have h1 := sumU_bound hbd k
    have h2 := hbd k
    repeat' (first | apply pwp_seq | apply pwp_region | (apply px_run; (first | (apply opv_move; first | exact hid_int rfl | rfl) | (apply opv_assign; first | exact hid_int rfl) | (apply opv_lss <;> rfl) | (apply opv_add_in; rfl; rfl; omega) | (apply opv_load_ints sc_int; rfl; (first | exact rd_row 0 rfl); (first | omega)) | (apply opv_index_nat (vs := ints _) el_int; rfl; rfl; (first | exact rd_row 0 rfl); (first | (simp only [ints_length]; omega))) | (apply opv_len_ints el_int; rfl; (first | exact rd_row 0 rfl))); rfl; rfl) | apply px_nil | apply qseq_normal | apply pwp_block | apply qblock_normal | apply pwp_skip | (apply pwp_cond_dec; rfl; all_goals (intro hc; try (first | (exfalso; omega)))))
    refine qround_normal ?_ ⟨k + 1, ⟨rfl, rfl, trivial⟩, by (try dsimp only); omega, by (try dsimp only); omega, fun w' h => h⟩
    repeat (first | exact same_refl | refine same_upd rfl ?_ | refine same_junk rfl ?_)
  obtain rfl : k = (degL n2 rows2).length := by omega
  have kE : ∀ sv w', Arr w' sv (ints rows2) → Gives Tryz.prog 24 #[.agg #[.int .i64 n2, sv]] w' (fun v objs => ∃ ps, sumU (degL n2 rows2) (degL n2 rows2).length = 2 * (ps.length : Int) ∧ ps.length ≤ 49 ∧ objs = .row 24 v (svsOf ps) :: rowsOb 3 ps) := fun sv w' h => by
    have := s_EdgesOf_n n2 sv rows2 w' h
    exact ⟨this.entry, this.out.mono fun e w' ⟨v, objs, he, ⟨ps, hps, ho⟩, hc⟩ => ⟨v, objs, he, ⟨ps, by rw [hsk, hps], by omega, ho⟩, hc⟩⟩
  repeat' (first | apply pwp_seq | apply pwp_region | (apply px_run; (first | (apply opv_eql_of ty_bool; rfl; rfl; first | rfl | exact csX_pos _ _) | (apply opv_move; first | exact hid_int rfl | exact hid_bool rfl | rfl) | (apply opv_assign; first | exact hid_int rfl | exact hid_bool rfl | rfl) | (apply opv_lss <;> rfl) | (apply opv_gtr <;> rfl) | (apply opv_eql <;> rfl) | (apply opv_pick_t <;> rfl) | (apply opv_mul_in; rfl; rfl; omega) | (apply opv_len_ints el_int; rfl; (first | exact rd_row 0 rfl)) | (apply opv_load_str 2 st_G; rfl; rfl; rfl) | (apply opv_load_str 4 st_G; rfl; rfl; rfl) | (apply opv_load_str 7 st_G; rfl; rfl; rfl) | (apply opv_load_str 8 st_G; rfl; rfl; rfl) | (apply opv_load_str 9 st_G; rfl; rfl; rfl) | (apply opv_len_svs el_intss; rfl; (first | exact rd_row 0 rfl)) | (apply opv_extract; rfl; rfl) | (apply opv_call; rfl; rfl; exact Cl.stable _ _ _; exact fun w hw => sameInts_same _ _ (degL n2 rows2) _ (by first | exact hw.rowArr (k := 8) rfl) (by first | exact hw.rowArr (k := 0) rfl)) | (apply opv_call; rfl; rfl; exact Cl.stable _ _ _; exact fun w hw => i_IsSplitPartition_c _ _ rows3 _ _ (by first | exact hw.rowArr (k := 8) rfl)) | (apply opv_call; rfl; rfl; exact Cl.stable _ _ _; exact fun w hw => s_IsSplitPartition_c _ _ rows3 _ _ (by first | exact hw.rowArr (k := 8) rfl)) | (apply opv_call; rfl; rfl; exact Cl.stable _ _ _; exact fun w hw => i_IsSplitObstacle_c _ _ _ rows4 L4 _ (by first | exact hw.rowArr (k := 5) rfl) (by first | exact hw.rowArr (k := 6) rfl)) | (apply opv_call; rfl; rfl; exact Cl.stable _ _ _; exact fun w hw => s_IsSplitObstacle_c _ _ _ rows4 L4 _ (by first | exact hw.rowArr (k := 5) rfl) (by first | exact hw.rowArr (k := 6) rfl)) | (apply opv_call; rfl; rfl; exact Cl.stable _ _ _; exact fun w hw => i_CountSplits_c _ _ rows5 _ (by first | exact hw.rowArr (k := 3) rfl)) | (apply opv_call; rfl; rfl; exact Cl.stable _ _ _; exact fun w hw => s_CountSplits_c _ _ rows5 _ (by first | exact hw.rowArr (k := 3) rfl)) | (apply opv_call; rfl; rfl; exact Cl.stable _ _ _; exact fun w hw => s_IsSplit_c _ _ rows5 _ (by first | exact hw.rowArr (k := 3) rfl))); rfl; rfl) | apply px_nil | apply qseq_normal | apply qseq_exit | (apply qblock_exit_same; rfl) | apply pwp_exit | apply pwp_ret | apply qround_exit | (apply pwp_region_ordf [0,1,2,3,4,5,6,7,8,9,10,11,12,13,14,16,17,15,18,19,20,21,22,23,25,26,24,27,28,29,30,31,33,32,34,35,36,37,38,41,39,40,42,43,44,45]; kernel_rfl; decide +kernel; exact Cl.stable _ _ _) | (apply px_guard_dec; rfl; rfl; rfl; all_goals (intro hc; try (first | contradiction))) | (apply pwp_cond_dec; rfl; all_goals (intro hc; try (first | (exfalso; omega)))) | (apply px_alloc st_G; rfl; rfl; rfl; intro bk) | (apply px_store_str 0 st_G; rfl; rfl; rfl; rfl; rfl; (intro w hw; (first | refine all2 rfl ?_ ?_) <;> (first | rfl | exact stor_row 1 hw rfl)); rfl) | (apply px_gives; rfl; rfl; rfl; rfl; rfl; exact fun w hw => s_DrawIsSplitPartition_c cv l _ (hcp.at hap hw); rintro _ _ ⟨n3, gv3, rows3, x3, rfl, rfl⟩) | (apply px_gives; rfl; rfl; rfl; rfl; rfl; exact fun w hw => s_DrawIsSplitObstacle_c cv l _ (hcp.at hap hw); rintro _ _ ⟨n4, gv4, rows4, lv4, L4, rfl, rfl⟩) | (apply px_gives; rfl; rfl; rfl; rfl; rfl; exact fun w hw => s_DrawCountSplits_c cv l _ (hcp.at hap hw); rintro _ _ ⟨n5, gv5, rows5, rfl, rfl⟩) | (apply px_gives; rfl; rfl; rfl; rfl; rfl; exact fun w hw => s_DegreesOf_c _ _ rows2 _ (by first | exact hw.rowArr (k := 9) rfl); rintro nw _ rfl) | (apply px_givesT; rfl; rfl; rfl; rfl; rfl; exact fun w hw => kE _ _ (by first | exact hw.rowArr (k := 10) rfl); rintro ve _ ⟨ps, hps1, hps2, rfl⟩; refine ⟨[_], _, rfl, ?_⟩))
  refine qbody_ret1 (v := .bool _) rfl rfl ⟨by first | rfl | simp, fun _ h => h.below⟩
set_option maxRecDepth 100000 in
theorem FnSplits_lifted (os : Os) (started : os.Started) (H : Type) (enc : TypeId × Value → H) :
    ReturnsInHanded {} Tryz.checked os 3 .any (Rows.fnSplitsSpec.pre6 enc Tryz.prog Tryz.f3 Rows.fnSplitsRow.domain false) (Rows.fnSplitsSpec.post enc Tryz.prog Tryz.f3 false true false false) := by
  refine returnsInHanded_of_change (C := Tryz.checked) own started (by kernel_rfl) Tryz.func3
    (ChangeSpec.witness6 (enc := enc) (C := Tryz.checked) false ⟨#[], #[.slice none 0 0], []⟩ 8 (by kernel_rfl) (by kernel_rfl) (by kernel_rfl) (by kernel_rfl)) ?_
  intro W base args ds gs before hval0 hW hcnd _
  have hval : ∀ (j : Nat) t v, Tryz.f3.params[j]? = some t → args[j]? = some v → Value.okWide Tryz.prog W .any base t v := hval0
  have hW' := hW
  obtain ⟨p, q, hA0, hV, rfl, hfz, hnd⟩ := hW
  have hA : DataW.TrodAll enc Tryz.prog W 0 (fun _ => true) true Tryz.f3.params.toList args.toList ds p := hA0
  rw [Tryz.params3] at hA hval
  obtain ⟨v0, d0, rfl, rfl, h0⟩ := trodAll_one hA
  obtain ⟨rfl, rfl⟩ := trodVars_none hV
  obtain ⟨r0, hr0, hb0⟩ := read_bytes Tryz.underlying22 Tryz.underlying5 (by kernel_rfl) (hval 0 _ _ rfl rfl) h0
  exact law_calls (tb := 4) laidOut rfl hW' (by rw [Tryz.params3]; decide +kernel) (by kernel_rfl) (by kernel_rfl) rfl (fnSplits_c v0 r0 W hr0 hb0)
theorem FnSplits_holds : Rows.FnSplitsSaid :=
  OpenClaim.holds_of_wide 3 Tryz.f3 rfl rfl rfl rfl rfl rfl rfl ⟨rfl, rfl, rfl, rfl, rfl⟩ rfl rfl rfl rfl rfl (by kernel_rfl) Tryz.func3 (by kernel_rfl)
    (of_decide_eq_true (by kernel_rfl)) (by unfold Func.isWrapper; first | (rw [if_pos (by decide +kernel)]; kernel_rfl) | (rw [if_neg (by decide +kernel)]; exact ⟨rfl, rfl⟩))
    (fun os started H enc _ => FnSplits_lifted os started H enc)
end Go.Proofs.YtcicdnpmlcjcmaaGreat
