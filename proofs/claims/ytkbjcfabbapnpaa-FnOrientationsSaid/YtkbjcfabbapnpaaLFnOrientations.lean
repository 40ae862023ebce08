/- FnOrientations holds: for every input true; the input reads as it did. -/
import Derived.Test.YtkbjcfabbapnpaaLk
import Derived.Test.YtkbjcfabbapnpaaDo
import Derived.Test.YtkbjcfabbapnpaaIo
import Derived.Test.YtkbjcfabbapnpaaIc
import Derived.Test.YtkbjcfabbapnpaaOi
import Derived.Test.YtkbjcfabbapnpaaDp
import Derived.Test.YtkbjcfabbapnpaaPwByt
import Derived.Test.YtkbjcfabbapnpaaPwOrd
namespace Go.Proofs.Ytkbjcfabbapnpaa
open Go Go.RowKit Go.Pw Go.ChangeShapes Go.WideShapes Go.ChangeAt
theorem gives_imp {P : Program} {f : FuncId} {args : Array Value} {w : World} {R R' : Value → List Ob → Prop} (h : Gives P f args w R) (hR : ∀ v o, R v o → R' v o) : Gives P f args w R' :=
  ⟨h.entry, h.out.mono fun _ _ ⟨v, o, he, hr, hc⟩ => ⟨v, o, he, hR _ _ hr, hc⟩⟩
theorem en_l_sameLists : Entry Try.prog 11 := ⟨_, Try.func11, by kernel_rfl, rfl⟩
theorem sameLists_c (sa sb : Value) (ps qs : Pairs) (w : World) (he : lssOf ps = lssOf qs) (ha : ArrS w sa ps) (hb : ArrS w sb qs) (hl : ps.length ≤ 1000000) : Pure Try.prog 11 #[sa, sb] w (.bool true) := by
  refine pure_enter (args := [_, _]) en_l_sameLists Try.func11 rfl Try.ntmps11 rfl ?_
  obtain ⟨hA, hE⟩ := ha
  obtain ⟨hA2, hE2⟩ := hb
  have hll : ps.length = qs.length := by have := congrArg List.length he; rwa [lssOf_length, lssOf_length] at this
  repeat' (first | apply pwp_seq | apply pwp_region | (apply px_run; (first | (apply opv_move; first | rfl) | (apply opv_assign; first | exact hid_int rfl | exact hid_bool rfl) | (apply opv_neq <;> rfl) | (apply opv_len_svs el_intss; rfl; (first | exact rd_old (by assumption)))); rfl; rfl) | apply px_nil | apply qseq_normal | apply pwp_block | apply pwp_skip | (apply pwp_cond_ndec; rfl; all_goals (intro hc; try (first | (exfalso; omega)))))
  refine pwp_loop [(4,5), (11,26)] (fun k : Nat => [(5, .int .i64 (k : Int))]) (fun k => Cl [] w []) (fun k => k ≤ ps.length) (fun k => ps.length - k) 0
    ⟨rfl, trivial⟩ (Nat.zero_le _) (fun _ h => h) (fun J k hk => ?_)
  by_cases hlt : k < ps.length
  · have h1 := hE k hlt
    have h2 := hE2 k (by omega)
    have hse : ∀ w', Arr w' (svAt ps k) (ints (lsAt ps k)) → Arr w' (svAt qs k) (ints (lsAt qs k)) → Pure Try.prog 10 #[svAt ps k, svAt qs k] w' (.bool true) := fun w' g1 g2 => by
      have h3 := sameInts_c (svAt ps k) (svAt qs k) (lsAt ps k) (lsAt qs k) w' g1 g2
      have h4 : lsAt ps k = lsAt qs k := by rw [← lss_getD, ← lss_getD, he]
      rwa [decide_eq_true h4] at h3
    repeat' (first | apply pwp_seq | apply pwp_region | (apply px_run; (first | (apply opv_move; first | exact hid_int rfl | rfl) | (apply opv_assign; first | exact hid_int rfl) | (apply opv_lss <;> rfl) | (apply opv_not <;> rfl) | (apply opv_add_in; rfl; rfl; omega) | (apply opv_load_svs sc_ints; rfl; (first | exact rd_old (by assumption)); omega) | (apply opv_index_nat (vs := svsOf _) el_intss; rfl; rfl; (first | exact rd_old (by assumption)); (simp only [svsOf_length]; omega)) | (apply opv_len_svs el_intss; rfl; (first | exact rd_old (by assumption))) | (apply opv_call; rfl; rfl; exact Cl.stable _ _ _; exact fun w hw => hse _ (h1.below hw.below) (h2.below hw.below))); rfl; rfl) | apply px_nil | apply qseq_normal | apply pwp_block | apply qblock_normal | apply pwp_skip | (apply pwp_cond_f; rfl) | (apply pwp_region_draw; kernel_rfl; kernel_rfl; exact Cl.stable _ _ _) | (apply pwp_cond_dec; rfl; all_goals (intro hc; try (first | (exfalso; omega)))))
    refine qround_normal ?_ ⟨k + 1, ⟨rfl, trivial⟩, by omega, by omega, fun _ h => h⟩
    repeat (first | exact same_refl | refine same_upd rfl ?_ | refine same_junk rfl ?_)
  · repeat' (first | apply pwp_seq | apply pwp_region | (apply px_run; (first | (apply opv_move; first | exact hid_int rfl | rfl) | (apply opv_assign; first | exact hid_bool rfl) | (apply opv_lss <;> rfl) | (apply opv_len_svs el_intss; rfl; (first | exact rd_old (by assumption)))); rfl; rfl) | apply px_nil | apply qseq_normal | apply qseq_exit | (apply qblock_exit_same; rfl) | apply pwp_exit | apply pwp_ret | apply qround_exit | (apply pwp_cond_dec; rfl; all_goals (intro hc; try (first | (exfalso; omega)))))
    refine qbody_ret1 (v := .bool _) rfl rfl ⟨rfl, fun _ h => h.below⟩
theorem en_l_FnOrientations : Entry Try.prog 3 := ⟨_, Try.func3, by kernel_rfl, rfl⟩
theorem sameInts_same (sa sb : Value) (a : List Int) (w : World) (ha : Arr w sa (ints a)) (hb : Arr w sb (ints a)) : Pure Try.prog 10 #[sa, sb] w (.bool true) := by
  have h := sameInts_c sa sb a a w ha hb
  rwa [decide_eq_true rfl] at h
set_option maxRecDepth 100000 in
set_option maxHeartbeats 16000000 in
theorem fnOrientations_c (cv : Value) (l : List Int) (w : World) (hr : Arr w cv (byts l)) (hb : ∀ x ∈ l, 0 ≤ x ∧ x ≤ 255) :
    Pure Try.prog 3 #[cv] w (.bool true) := by
  refine pure_enter (args := [_]) en_l_FnOrientations Try.func3 rfl Try.ntmps3 rfl ?_
  by_cases hlen : l.length ≤ 1048576
  case neg =>
    have kb := fun w' h => big_c cv l w' h
    rw [decide_eq_true (show (1048576 : Int) < (l.length : Int) by omega)] at kb
    repeat' (first | apply pwp_seq | apply pwp_region | (apply px_run; (first | (apply opv_move; first | rfl) | (apply opv_assign; first | exact hid_bool rfl) | (apply opv_call; rfl; rfl; exact Cl.stable _ _ _; exact fun w hw => kb _ (hw.arr hr))); rfl; rfl) | apply px_nil | apply qseq_normal | apply qseq_ret | apply pwp_ret | (apply pwp_cond_t; rfl))
    refine qbody_ret1 (v := .bool _) rfl rfl ⟨rfl, fun _ h => h.below⟩
  have hcp : CodeP w cv l := ⟨hr, hb, hlen⟩
  have hap := nox (cv := cv) (l := l)
  have kb := fun w' h => big_c cv l w' h
  rw [decide_eq_false (show ¬ (1048576 : Int) < (l.length : Int) by omega)] at kb
  repeat' (first | apply pwp_seq | ((fail_if_success (with_reducible refine pwp_here 4 ?_)); apply pwp_region) | (apply px_run; (first | (apply opv_move; first | rfl) | (apply opv_assign; first | exact hid_bool rfl) | (apply opv_call; rfl; rfl; exact Cl.stable _ _ _; exact fun w hw => kb _ (hw.arr hr))); rfl; rfl) | apply px_nil | apply qseq_normal | apply pwp_skip | (apply pwp_cond_f; rfl) | (apply px_alloc st_G; rfl; rfl; rfl; intro bk) | (apply px_store_str 0 st_G; rfl; rfl; rfl; rfl; rfl; (intro w hw; (first | refine all2 rfl ?_ ?_) <;> (first | rfl | exact stor_row 1 hw rfl)); rfl) | (apply px_gives; rfl; rfl; rfl; rfl; rfl; exact fun w hw => s_DrawOrientationOf_c cv l _ (hcp.at hap hw); rintro _ _ ⟨n, gv, rows, hrl, rfl, rfl⟩))
  obtain ⟨b, hb0⟩ : ∃ b, (oriX n rows).isSome = b := ⟨_, rfl⟩
  obtain ⟨f, hf0⟩ : ∃ f, (forceX n rows).isSome = f := ⟨_, rfl⟩
  have hFB := (force_bound n rows).1
  have k1 : ∀ sv w', Arr w' sv (ints rows) → Gives Try.prog 6 #[.agg #[.int .i64 n, sv]] w' (fun v objs => ∃ tv, v = .tuple #[.agg #[tv], .bool b] ∧ objs = [.row 3 tv (ints (oriL n rows))]) := fun sv w' h => by rw [← hb0]; exact i_OrientationOf_c n sv rows w' h (by omega)
  have k2 : ∀ sv w', Arr w' sv (ints rows) → Gives Try.prog 7 #[.agg #[.int .i64 n, sv]] w' (fun v objs => ∃ tv, v = .tuple #[.agg #[tv], .bool b] ∧ objs = [.row 3 tv (ints (oriL n rows))]) := fun sv w' h => by rw [← hb0]; exact s_OrientationOf_c n sv rows w' h
  have k3 : ∀ sv w', Arr w' sv (ints rows) → Gives Try.prog 8 #[.agg #[.int .i64 n, sv]] w' (fun v objs => ∃ lv qs, v = .tuple #[lv, .bool f] ∧ lssOf qs = (forceX n rows).getD [] ∧ objs = .row 24 lv (svsOf qs) :: rowsOb 3 qs) := fun sv w' h => by rw [← hf0]; exact i_ForcingChain_c n sv rows w' h
  have k4 : ∀ sv w', Arr w' sv (ints rows) → Gives Try.prog 9 #[.agg #[.int .i64 n, sv]] w' (fun v objs => ∃ lv qs, v = .tuple #[lv, .bool f] ∧ lssOf qs = (forceX n rows).getD [] ∧ objs = .row 24 lv (svsOf qs) :: rowsOb 3 qs) := fun sv w' h => by rw [← hf0]; exact s_ForcingChain_c n sv rows w' h
  have k5 : ∀ sv w', Arr w' sv (ints rows) → Pure Try.prog 12 #[.agg #[.int .i64 n, sv]] w' (.bool b) := fun sv w' h => by rw [← hb0]; exact i_IsComparability_c n sv rows w' h (by omega)
  repeat' (first | apply pwp_seq | ((fail_if_success (with_reducible refine pwp_here 8 ?_)); apply pwp_region) | (apply px_run; (first | (apply opv_move; first | rfl) | (apply opv_assign; first | exact hid_bool rfl | rfl) | (apply opv_load_str 0 st_G; rfl; rfl; rfl) | (apply opv_load_str 2 st_G; rfl; rfl; rfl) | (apply opv_load_str 4 st_G; rfl; rfl; rfl) | (apply opv_load_str 5 st_G; rfl; rfl; rfl) | (apply opv_extract; rfl; rfl)); rfl; rfl) | apply px_nil | apply qseq_normal | (apply px_alloc st_O; rfl; rfl; rfl; intro bk) | (apply px_store_str 0 st_O; rfl; rfl; rfl; rfl; rfl; (intro w hw; (first | refine all1 rfl ?_) <;> (first | exact stor_row 1 hw rfl)); rfl) | (apply px_gives; rfl; rfl; rfl; rfl; rfl; exact fun w hw => k1 _ _ (by first | exact hw.rowArr (k := 1) rfl); rintro _ _ ⟨o1, rfl, rfl⟩) | (apply px_gives; rfl; rfl; rfl; rfl; rfl; exact fun w hw => k2 _ _ (by first | exact hw.rowArr (k := 3) rfl); rintro _ _ ⟨o2, rfl, rfl⟩) | (apply px_givesT; rfl; rfl; rfl; rfl; rfl; exact fun w hw => k3 _ _ (by first | exact hw.rowArr (k := 5) rfl); rintro _ _ ⟨c1, q1, rfl, hq1, rfl⟩; refine ⟨[_], _, rfl, ?_⟩) | (apply px_givesT; rfl; rfl; rfl; rfl; rfl; exact fun w hw => k4 _ _ (by first | exact hw.rowArr (k := 6) rfl); rintro _ _ ⟨c2, q2, rfl, hq2, rfl⟩; refine ⟨[_], _, rfl, ?_⟩))
  rename_i bg b1
  refine pwp_cls (Cl [] w (.row 24 c2 (svsOf q2) :: .row 24 c1 (svsOf q1) :: .blk bk [o2] :: .row 3 o2 (ints (oriL n rows)) :: .blk b1 [o1] :: .row 3 o1 (ints (oriL n rows)) :: .blk bg [.int .i64 n, gv] :: .row 3 gv (ints rows) :: (rowsOb 3 q1 ++ rowsOb 3 q2))) (fun w' h => ?_) ?_
  · simp only [setOb, dropOb, List.cons_append, List.nil_append, List.append_assoc] at h
    exact h.sub (by repeat (first | exact List.Sublist.slnil | exact List.Sublist.refl _ | exact List.nil_sublist _ | apply List.Sublist.cons_cons | exact List.sublist_append_left _ _ | exact List.sublist_append_right _ _ | apply List.Sublist.cons))
  have hqq : lssOf q1 = lssOf q2 := by rw [hq1, hq2]
  have hls : q1.length ≤ 1000000 := by rw [← hq1, lssOf_length] at hFB; omega
  have hls2 : q2.length ≤ 1000000 := by have := congrArg List.length hqq; rw [lssOf_length, lssOf_length] at this; omega
  refine pwp_keep [(49, 103)] [(103, .bool false)] ?_ (fun J0 => ?_)
  · by_cases hg : IsG n rows
    · obtain ⟨m, rfl, hrl', hm1, hm7⟩ := isG_size hg
      have kG := fun sv w' h => s_IsGraph_c m sv rows w' h
      rw [decide_eq_true hg] at kG
      have hfb := force_iff hg
      rw [hb0, hf0] at hfb
      cases b with
      | true =>
        obtain rfl : f = false := by simpa using hfb
        have kT := fun tv w' h1 h2 => i_IsTransitive_c m gv tv rows (oriL m rows) w' h1 h2 (oriL_small _ _)
        rw [decide_eq_true (ori_passes hg hb0).1] at kT
        repeat' (first | apply pwp_region | (apply px_run; (first | (apply opv_neq_of ty_bool; rfl; rfl; rfl) | (apply opv_move; first | exact hid_bool rfl | rfl) | (apply opv_pick_t <;> rfl) | (apply opv_pick_f <;> rfl) | (apply opv_not <;> rfl) | (apply opv_field fld_O0; rfl) | (apply opv_load_blk 2; (first | with_reducible exact sc_ints); rfl; rfl; rfl) | (apply opv_load_blk 4; (first | with_reducible exact sc_ints); rfl; rfl; rfl) | (apply opv_load_str 6 st_G; rfl; rfl; rfl) | (apply opv_load_str 2 st_O; rfl; rfl; rfl) | (apply opv_call; rfl; rfl; exact Cl.stable _ _ _; exact fun w hw => sameInts_same _ _ (oriL _ rows) _ (by first | exact hw.rowArr (k := 5) rfl) (by first | exact hw.rowArr (k := 3) rfl)) | (apply opv_call; rfl; rfl; exact Cl.stable _ _ _; exact fun w hw => sameLists_c _ _ q1 q2 _ hqq (by first | exact hw.arrS 1 rfl (fun o ho => by repeat (first | apply List.mem_cons_of_mem | exact List.mem_append_left _ ho))) (by first | exact hw.arrS 0 rfl (fun o ho => by repeat (first | apply List.mem_cons_of_mem | exact List.mem_append_right _ ho))) hls) | (apply opv_call; rfl; rfl; exact Cl.stable _ _ _; exact fun w hw => k5 _ _ (by first | exact hw.rowArr (k := 7) rfl)) | (apply opv_call; rfl; rfl; exact Cl.stable _ _ _; exact fun w hw => kG _ _ (by first | exact hw.rowArr (k := 7) rfl)) | (apply opv_call; rfl; rfl; exact Cl.stable _ _ _; exact fun w hw => kT _ _ (by first | exact hw.rowArr (k := 7) rfl) (by first | exact hw.rowArr (k := 3) rfl)) | (apply opv_eql_bool ty_bool <;> rfl)); rfl; rfl) | apply px_nil | (apply px_skip; rfl; rfl))
        refine qjoin_normal ?_ ⟨(), ⟨rfl, trivial⟩, trivial, fun _ h => h⟩
        repeat (first | exact same_refl | refine same_upd rfl ?_ | refine same_junk rfl ?_)
      | false =>
        obtain rfl : f = true := by simpa using hfb
        have kF := fun lv w' h1 h2 => i_IsForcingChain_c m gv lv rows q2 w' h1 h2 hls2
        obtain ⟨L, hL⟩ := Option.isSome_iff_exists.1 hf0
        rw [show lssOf q2 = L by rw [hq2, hL]; rfl, decide_eq_true (force_good hg hL)] at kF
        repeat' (first | apply pwp_region | (apply px_run; (first | (apply opv_neq_of ty_bool; rfl; rfl; rfl) | (apply opv_move; first | exact hid_bool rfl | rfl) | (apply opv_pick_t <;> rfl) | (apply opv_pick_f <;> rfl) | (apply opv_not <;> rfl) | (apply opv_field fld_O0; rfl) | (apply opv_load_blk 2; (first | with_reducible exact sc_ints); rfl; rfl; rfl) | (apply opv_load_blk 4; (first | with_reducible exact sc_ints); rfl; rfl; rfl) | (apply opv_load_str 6 st_G; rfl; rfl; rfl) | (apply opv_load_str 2 st_O; rfl; rfl; rfl) | (apply opv_call; rfl; rfl; exact Cl.stable _ _ _; exact fun w hw => sameInts_same _ _ (oriL _ rows) _ (by first | exact hw.rowArr (k := 5) rfl) (by first | exact hw.rowArr (k := 3) rfl)) | (apply opv_call; rfl; rfl; exact Cl.stable _ _ _; exact fun w hw => sameLists_c _ _ q1 q2 _ hqq (by first | exact hw.arrS 1 rfl (fun o ho => by repeat (first | apply List.mem_cons_of_mem | exact List.mem_append_left _ ho))) (by first | exact hw.arrS 0 rfl (fun o ho => by repeat (first | apply List.mem_cons_of_mem | exact List.mem_append_right _ ho))) hls) | (apply opv_call; rfl; rfl; exact Cl.stable _ _ _; exact fun w hw => k5 _ _ (by first | exact hw.rowArr (k := 7) rfl)) | (apply opv_call; rfl; rfl; exact Cl.stable _ _ _; exact fun w hw => kG _ _ (by first | exact hw.rowArr (k := 7) rfl)) | (apply opv_call; rfl; rfl; exact Cl.stable _ _ _; exact fun w hw => kF _ _ (by first | exact hw.rowArr (k := 7) rfl) (by first | exact hw.arrS 0 rfl (fun o ho => by repeat (first | apply List.mem_cons_of_mem | exact List.mem_append_right _ ho)))) | (apply opv_eql_bool ty_bool <;> rfl)); rfl; rfl) | apply px_nil | (apply px_skip; rfl; rfl))
        refine qjoin_normal ?_ ⟨(), ⟨rfl, trivial⟩, trivial, fun _ h => h⟩
        repeat (first | exact same_refl | refine same_upd rfl ?_ | refine same_junk rfl ?_)
    · have kG := fun sv w' h => s_IsGraph_c n sv rows w' h
      rw [decide_eq_false hg] at kG
      obtain rfl : b = false := by rw [← hb0, show oriX n rows = none from if_neg hg]; rfl
      obtain rfl : f = false := by rw [← hf0, show forceX n rows = none by unfold forceX edgesL; rw [if_neg hg]; rfl]; rfl
      repeat' (first | apply pwp_region | (apply px_run; (first | (apply opv_neq_of ty_bool; rfl; rfl; rfl) | (apply opv_move; first | exact hid_bool rfl | rfl) | (apply opv_pick_f <;> rfl) | (apply opv_not <;> rfl) | (apply opv_field fld_O0; rfl) | (apply opv_load_blk 2; (first | with_reducible exact sc_ints); rfl; rfl; rfl) | (apply opv_load_blk 4; (first | with_reducible exact sc_ints); rfl; rfl; rfl) | (apply opv_load_str 6 st_G; rfl; rfl; rfl) | (apply opv_load_str 2 st_O; rfl; rfl; rfl) | (apply opv_call; rfl; rfl; exact Cl.stable _ _ _; exact fun w hw => sameInts_same _ _ (oriL _ rows) _ (by first | exact hw.rowArr (k := 5) rfl) (by first | exact hw.rowArr (k := 3) rfl)) | (apply opv_call; rfl; rfl; exact Cl.stable _ _ _; exact fun w hw => sameLists_c _ _ q1 q2 _ hqq (by first | exact hw.arrS 1 rfl (fun o ho => by repeat (first | apply List.mem_cons_of_mem | exact List.mem_append_left _ ho))) (by first | exact hw.arrS 0 rfl (fun o ho => by repeat (first | apply List.mem_cons_of_mem | exact List.mem_append_right _ ho))) hls) | (apply opv_call; rfl; rfl; exact Cl.stable _ _ _; exact fun w hw => k5 _ _ (by first | exact hw.rowArr (k := 7) rfl)) | (apply opv_call; rfl; rfl; exact Cl.stable _ _ _; exact fun w hw => kG _ _ (by first | exact hw.rowArr (k := 7) rfl))); rfl; rfl) | apply px_nil | (apply px_skip; rfl; rfl))
      refine qjoin_normal ?_ ⟨(), ⟨rfl, trivial⟩, trivial, fun _ h => h⟩
      repeat (first | exact same_refl | refine same_upd rfl ?_ | refine same_junk rfl ?_)
  repeat' (first | apply pwp_seq | apply pwp_region | (apply px_run; (first | (apply opv_move; first | exact hid_bool rfl)); rfl; rfl) | apply px_nil | apply qseq_normal | apply pwp_skip | (apply pwp_cond_f; rfl))
  refine pwp_join [(2,2),(12,14),(105,140)] (fun _ : Unit => []) (fun _ => Cl [] w []) (fun _ => True) ?_ (fun J2 x _ => ?_)
  · cases b with
    | false =>
      repeat' (first | apply pwp_skip | (apply pwp_cond_f; rfl))
      refine qjoin_normal ?_ ⟨(), trivial, trivial, fun _ h => h.sub (List.nil_sublist _)⟩
      repeat (first | exact same_refl | refine same_upd rfl ?_ | refine same_junk rfl ?_)
    | true =>
      have hg : IsG n rows := Decidable.byContradiction fun hg => by rw [show oriX n rows = none from if_neg hg] at hb0; cases hb0
      obtain ⟨m, rfl, hrl', hm1, hm7⟩ := isG_size hg
      obtain ⟨htr, hTO⟩ := ori_passes hg hb0
      have hH : heightsL m rows (oriL m rows) = relaxT (bitsP (oriL m rows)) m m := by unfold heightsL; rw [if_pos htr, hrl']
      obtain ⟨hrise, hbound⟩ := heights_good hg hTO
      have hHl : (heightsL m rows (oriL m rows)).length = m := by rw [hH, relaxT_len]
      rw [← hH] at hrise hbound
      clear hH
      have hne : ∀ v u : Nat, edgeP m rows (v : Int) (u : Int) → (heightsL m rows (oriL m rows)).getD v 0 ≠ (heightsL m rows (oriL m rows)).getD u 0 := fun v u h => by
        obtain ⟨x, y, hx, hy, hxl, hyl, _, hbit⟩ := edgeP_nat h
        obtain rfl : v = x := by omega
        obtain rfl : u = y := by omega
        have he : bitsP rows v u = true := by rw [bits_has hg (by omega) (by omega)]; exact hbit
        rcases hTO.all _ _ he with h1 | h1
        · have := hrise _ _ h1; omega
        · have := hrise _ _ h1; omega
      have kC := fun sv w' h => s_CliqueNumber_c m sv rows w' h hg
      have kH := fun w' h1 h2 => i_HeightsOf_c m gv o2 rows (oriL m rows) w' h1 h2 (oriL_small _ _)
      generalize cntN (bestN (fun s => decide (cliqueP m rows (s : Int))) (2 ^ m)) = K at kC hbound
      generalize heightsL m rows (oriL m rows) = H at kH hbound hne hHl
      clear hrise hTO htr
      repeat' (first | apply pwp_seq | apply pwp_region | (apply px_run; (first | (apply opv_assign; first | exact hid_int rfl | rfl) | (apply opv_load_str 6 st_G; rfl; rfl; rfl) | (apply opv_load_str 2 st_O; rfl; rfl; rfl)); rfl; rfl) | apply px_nil | apply qseq_normal | apply pwp_block | (apply pwp_cond_t; rfl) | (apply px_gives; rfl; rfl; rfl; rfl; rfl; exact fun w hw => kH _ (by first | exact hw.rowArr (k := 7) rfl) (by first | exact hw.rowArr (k := 3) rfl); rintro hv _ rfl))
      refine pwp_loop [(2,2), (13,14), (108,140)] (fun v : Nat => [(13, .int .i64 (v : Int))]) (fun _ => Cl [] w [.row 3 hv (ints H), .blk bg [.int .i64 (m : Int), gv], .row 3 gv (ints rows)]) (fun v => v ≤ H.length) (fun v => H.length - v) 0
        ⟨rfl, trivial⟩ (Nat.zero_le _) (fun w' h => by exact Cl.ofSel (by assumption) (by repeat (first | exact sel_nil | refine sel_cons 0 rfl ?_ | refine sel_cons 1 rfl ?_ | refine sel_cons 2 rfl ?_ | refine sel_cons 3 rfl ?_ | refine sel_cons 4 rfl ?_ | refine sel_cons 5 rfl ?_ | refine sel_cons 6 rfl ?_ | refine sel_cons 7 rfl ?_ | refine sel_cons 8 rfl ?_ | refine sel_cons 9 rfl ?_ | refine sel_cons 10 rfl ?_ | refine sel_cons 11 rfl ?_ | refine sel_cons 12 rfl ?_ | refine sel_cons 13 rfl ?_))) (fun J3 v hv2 => ?_)
      by_cases hlv : v < H.length
      · obtain ⟨hb1, hb2⟩ := hbound v (by omega)
        repeat' (first | apply pwp_seq | apply pwp_region | (apply px_run; (first | (apply opv_move; first | exact hid_int rfl | rfl) | (apply opv_assign; first | exact hid_int rfl) | (apply opv_lss <;> rfl) | (apply opv_geq <;> rfl) | (apply opv_load_ints sc_int; rfl; (first | exact rd_row 0 rfl); (first | omega)) | (apply opv_index_nat (vs := ints _) el_int; rfl; rfl; (first | exact rd_row 0 rfl); (first | (simp only [ints_length]; omega))) | (apply opv_len_ints el_int; rfl; (first | exact rd_row 0 rfl)) | (apply opv_load_str 1 st_G; rfl; rfl; rfl) | (apply opv_call; rfl; rfl; exact Cl.stable _ _ _; exact fun w hw => kC _ _ (by first | exact hw.rowArr (k := 2) rfl))); rfl; rfl) | apply px_nil | apply qseq_normal | apply pwp_block | apply pwp_skip | (apply pwp_region_mix; kernel_rfl; decide +kernel; exact Cl.stable _ _ _) | (apply pwp_cond_dec; rfl; all_goals (intro hc; try (first | (exfalso; omega)))))
        refine pwp_loop [(2,2), (14,14), (121,140)] (fun u : Nat => [(14, .int .i64 (u : Int))]) (fun _ => Cl [] w [.row 3 hv (ints H), .blk bg [.int .i64 (m : Int), gv], .row 3 gv (ints rows)]) (fun u => u ≤ v) (fun u => v - u) 0
          ⟨rfl, trivial⟩ (Nat.zero_le _) (fun w' h => h) (fun J4 u hu => ?_)
        by_cases hlu : u < v
        · have hnu := hne v u
          by_cases hed : edgeP m rows (v : Int) (u : Int)
          · have hnq := hnu hed
            repeat' (first | apply pwp_seq | apply pwp_region | (apply px_run; (first | (apply opv_move; first | exact hid_int rfl | exact hid_bool rfl | rfl) | (apply opv_assign; first | exact hid_int rfl) | (apply opv_lss <;> rfl) | (apply opv_eql <;> rfl) | (apply opv_pick_t <;> rfl) | (apply opv_add_in; rfl; rfl; omega) | (apply opv_load_ints sc_int; rfl; (first | exact rd_row 0 rfl); (first | omega)) | (apply opv_index_nat (vs := ints _) el_int; rfl; rfl; (first | exact rd_row 0 rfl); (first | (simp only [ints_length]; omega))) | (apply opv_load_str 1 st_G; rfl; rfl; rfl) | (apply opv_call; rfl; rfl; exact Cl.stable _ _ _; exact fun w hw => s_HasEdge_c _ _ rows _ _ _ (by first | exact hw.rowArr (k := 2) rfl))); rfl; rfl) | apply px_nil | apply qseq_normal | apply pwp_block | apply qblock_normal | apply pwp_skip | (apply pwp_region_mix; kernel_rfl; decide +kernel; exact Cl.stable _ _ _) | (apply px_guard_dec; rfl; rfl; rfl; all_goals (intro hc; try (first | contradiction))) | (apply pwp_cond_dec; rfl; all_goals (intro hc; try (first | contradiction | (exfalso; omega)))))
            refine qround_normal ?_ ⟨u + 1, ⟨rfl, trivial⟩, by omega, by omega, fun _ h => h⟩
            repeat (first | exact same_refl | refine same_upd rfl ?_ | refine same_junk rfl ?_)
          · repeat' (first | apply pwp_seq | apply pwp_region | (apply px_run; (first | (apply opv_move; first | exact hid_int rfl | exact hid_bool rfl | rfl) | (apply opv_assign; first | exact hid_int rfl) | (apply opv_lss <;> rfl) | (apply opv_pick_f <;> rfl) | (apply opv_add_in; rfl; rfl; omega) | (apply opv_load_str 1 st_G; rfl; rfl; rfl) | (apply opv_call; rfl; rfl; exact Cl.stable _ _ _; exact fun w hw => s_HasEdge_c _ _ rows _ _ _ (by first | exact hw.rowArr (k := 2) rfl))); rfl; rfl) | apply px_nil | (apply px_skip; rfl; rfl) | apply qseq_normal | apply pwp_block | apply qblock_normal | apply pwp_skip | (apply pwp_cond_f; rfl) | (apply pwp_region_mix; kernel_rfl; decide +kernel; exact Cl.stable _ _ _) | (apply px_guard_dec; rfl; rfl; rfl; all_goals (intro hc; try (first | contradiction))) | (apply pwp_cond_dec; rfl; all_goals (intro hc; try (first | (exfalso; omega)))))
            refine qround_normal ?_ ⟨u + 1, ⟨rfl, trivial⟩, by omega, by omega, fun _ h => h⟩
            repeat (first | exact same_refl | refine same_upd rfl ?_ | refine same_junk rfl ?_)
        · repeat' (first | apply pwp_seq | apply pwp_region | (apply px_run; (first | (apply opv_move; first | exact hid_int rfl) | (apply opv_assign; first | exact hid_int rfl) | (apply opv_lss <;> rfl) | (apply opv_add_in; rfl; rfl; omega)); rfl; rfl) | apply px_nil | apply qseq_normal | apply qseq_exit | apply qblock_normal | (apply qblock_exit_same; rfl) | apply pwp_exit | apply qround_exit | (apply pwp_cond_dec; rfl; all_goals (intro hc; try (first | (exfalso; omega)))))
          refine qround_normal ?_ ⟨v + 1, ⟨rfl, trivial⟩, by omega, by omega, fun _ h => h⟩
          repeat (first | exact same_refl | refine same_upd rfl ?_ | refine same_junk rfl ?_)
      · repeat' (first | apply pwp_seq | apply pwp_region | (apply px_run; (first | (apply opv_move; first | exact hid_int rfl | rfl) | (apply opv_lss <;> rfl) | (apply opv_len_ints el_int; rfl; (first | exact rd_row 0 rfl))); rfl; rfl) | apply px_nil | apply qseq_normal | apply qseq_exit | (apply qblock_exit_same; rfl) | apply pwp_exit | apply qround_exit | (apply pwp_cond_dec; rfl; all_goals (intro hc; try (first | (exfalso; omega)))))
        refine qjoin_normal ?_ ⟨(), trivial, trivial, fun _ h => h.sub (List.nil_sublist _)⟩
        repeat (first | exact same_refl | refine same_upd rfl ?_ | refine same_junk rfl ?_)
  repeat' (first | apply pwp_seq | ((fail_if_success (with_reducible refine pwp_here 24 ?_)); apply pwp_region) | (apply px_run; (first | (apply opv_move; first | exact hid_int rfl | rfl) | (apply opv_assign; first | exact hid_int rfl | rfl) | (apply opv_load_str 0 st_G; rfl; rfl; rfl) | (apply opv_extract; rfl; rfl)); rfl; rfl) | apply px_nil | apply qseq_normal | (apply px_alloc st_G; rfl; rfl; rfl; intro bk) | (apply px_store_str 0 st_G; rfl; rfl; rfl; rfl; rfl; (intro w hw; (first | refine all2 rfl ?_ ?_) <;> (first | rfl | exact stor_row 1 hw rfl)); rfl) | (apply px_gives; rfl; rfl; rfl; rfl; rfl; exact fun w hw => s_DrawForcedArcs_c cv l _ (hcp.at hap hw); rintro _ _ ⟨n1, gv1, rows1, a1, e1, hrl1, rfl, rfl⟩) | (apply px_givesT; rfl; rfl; rfl; rfl; rfl; exact fun w hw => i_ForcedArcs_c _ _ rows1 _ _ _ (by first | exact hw.rowArr (k := 1) rfl); rintro d1v _ ⟨d1, hd1, rfl⟩; refine ⟨[_], _, rfl, ?_⟩))
  have kS : ∀ sv w', Arr w' sv (ints rows1) → Gives Try.prog 24 #[.agg #[.int .i64 n1, sv], .int .i64 a1, .int .i64 e1] w' (fun v objs => ∃ ps, lssOf ps = lssOf d1 ∧ objs = .row 24 v (svsOf ps) :: rowsOb 3 ps) := fun sv w' h => by rw [hd1]; exact s_ForcedArcs_x n1 sv rows1 a1 e1 w' h
  have kT : ∀ sv w', Arr w' sv (ints rows1) → Gives Try.prog 20 #[.agg #[.int .i64 n1, sv], .int .i64 e1, .int .i64 a1] w' (fun v objs => ∃ ps : Pairs, d1.length = ps.length ∧ objs = .row 24 v (svsOf ps) :: rowsOb 3 ps) := fun sv w' h =>
    gives_imp (i_ForcedArcs_c n1 sv rows1 e1 a1 w' h) fun v o ⟨ps, hps, ho⟩ => ⟨ps, by have := forced_turn n1 rows1 a1 e1; rw [← hd1, ← hps, lssOf_length, lssOf_length] at this; exact this, ho⟩
  have hdl : d1.length ≤ 1000000 := by
    have h1 : (forcedX n1 rows1 a1 e1).length ≤ 49 := by
      unfold forcedX
      split
      · rename_i h
        obtain ⟨x, y, rfl, rfl, hx, hy, hg1, _⟩ := edgeP_nat h
        obtain ⟨_, _, _, _, h7⟩ := isG_size hg1
        exact (forcedA_ok ⟨x, y, rfl, hx, hy⟩).bound (by omega)
      · simp
    rw [← hd1, lssOf_length] at h1
    omega
  repeat' (first | apply pwp_seq | ((fail_if_success (with_reducible refine pwp_here 27 ?_)); apply pwp_region) | (apply px_run; (first | (apply opv_move; first | rfl) | (apply opv_assign; first | rfl) | (apply opv_extract; rfl; rfl)); rfl; rfl) | apply px_nil | apply qseq_normal | (apply px_alloc st_G; rfl; rfl; rfl; intro bk) | (apply px_store_str 0 st_G; rfl; rfl; rfl; rfl; rfl; (intro w hw; (first | refine all2 rfl ?_ ?_) <;> (first | rfl | exact stor_row 2 hw rfl)); rfl) | (apply px_store_str 1 st_G; rfl; rfl; rfl; rfl; rfl; (intro w hw; (first | refine all2 rfl ?_ ?_) <;> (first | rfl | exact stor_row 2 hw rfl)); rfl) | (apply px_alloc st_O; rfl; rfl; rfl; intro bk) | (apply px_store_str 0 st_O; rfl; rfl; rfl; rfl; rfl; (intro w hw; (first | refine all1 rfl ?_) <;> (first | exact stor_row 3 hw rfl)); rfl) | (apply px_givesT; rfl; rfl; rfl; rfl; rfl; exact fun w hw => s_DrawIsForcingChain_c cv l _ (hcp.at hap hw); rintro _ _ ⟨n2, gv2, rows2, lv2, p2, hrl2, hp2, rfl, rfl⟩; refine ⟨[_, _], _, rfl, ?_⟩) | (apply px_gives; rfl; rfl; rfl; rfl; rfl; exact fun w hw => s_DrawIsOrientation_c cv l _ (hcp.at hap hw); rintro _ _ ⟨n3, gv3, rows3, tv3, to3, hrl3, hto3, rfl, rfl⟩) | (apply px_gives; rfl; rfl; rfl; rfl; rfl; exact fun w hw => s_DrawHeightsOf_c cv l _ (hcp.at hap hw); rintro _ _ ⟨n4, gv4, rows4, tv4, to4, hrl4, hto4, rfl, rfl⟩))
  rename_i b15 b19 b21 b22 b23
  refine pwp_cls (Cl [] w (.blk bk [tv4] :: .blk b23 [.int .i64 n4, gv4] :: .row 3 gv4 (ints rows4) :: .row 3 tv4 (ints to4) :: .blk b22 [tv3] :: .blk b21 [.int .i64 n3, gv3] :: .row 3 gv3 (ints rows3) :: .row 3 tv3 (ints to3) :: .blk b19 [.int .i64 n2, gv2] :: .row 24 lv2 (svsOf p2) :: .row 3 gv2 (ints rows2) :: .row 24 d1v (svsOf d1) :: .blk b15 [.int .i64 n1, gv1] :: .row 3 gv1 (ints rows1) :: (rowsOb 3 d1 ++ rowsOb 3 p2))) (fun w' h => ?_) ?_
  · simp only [setOb, dropOb, List.cons_append, List.nil_append, List.append_assoc] at h
    exact h.sub (by repeat (first | exact List.Sublist.slnil | exact List.Sublist.refl _ | exact List.nil_sublist _ | apply List.Sublist.cons_cons | exact List.sublist_append_left _ _ | exact List.sublist_append_right _ _ | apply List.Sublist.cons))
  have kO := fun w' h1 h2 => i_IsOrientation_c n3 gv3 tv3 rows3 to3 w' h1 h2
  have kO2 := fun w' h1 h2 => s_IsOrientation_c n3 gv3 tv3 rows3 to3 w' h1 h2 hto3
  have kR := fun w' h1 h2 => i_IsTransitive_c n3 gv3 tv3 rows3 to3 w' h1 h2 hto3
  have kR2 := fun w' h1 h2 => s_IsTransitive_c n3 gv3 tv3 rows3 to3 w' h1 h2 hto3
  have kF := fun w' h1 h2 => i_IsForcingChain_c n2 gv2 lv2 rows2 p2 w' h1 h2 (by omega)
  have kF2 := fun w' h1 h2 => s_IsForcingChain_c n2 gv2 lv2 rows2 p2 w' h1 h2 (by omega)
  repeat' (first | (apply px_run; (first | (apply opv_eql_self ty_bool; rfl; rfl) | (apply opv_move; first | exact hid_int rfl | exact hid_bool rfl | rfl) | (apply opv_assign; first | exact hid_bool rfl) | (apply opv_eql <;> rfl) | (apply opv_pick_t <;> rfl) | (apply opv_load_str 3 st_G; rfl; rfl; rfl) | (apply opv_load_str 7 st_G; rfl; rfl; rfl) | (apply opv_load_str 10 st_G; rfl; rfl; rfl) | (apply opv_load_str 12 st_G; rfl; rfl; rfl) | (apply opv_load_str 13 st_G; rfl; rfl; rfl) | (apply opv_load_str 2 st_O; rfl; rfl; rfl) | (apply opv_load_str 6 st_O; rfl; rfl; rfl) | (apply opv_len_svs el_intss; rfl; (first | exact rd_row 0 rfl | exact rd_row 12 rfl)) | (apply opv_call; rfl; rfl; exact Cl.stable _ _ _; exact fun w hw => sameLists_c _ _ d1 s1 _ hs1.symm (by first | exact hw.arrS 12 rfl (fun o ho => by repeat (first | apply List.mem_cons_of_mem | exact List.mem_append_left _ (List.mem_append_left _ ho)))) (by first | exact hw.arrS 0 rfl (fun o ho => by repeat (first | apply List.mem_cons_of_mem | exact List.mem_append_right _ ho))) hdl) | (apply opv_call; rfl; rfl; exact Cl.stable _ _ _; exact fun w hw => kF _ (by first | exact hw.rowArr (k := 12) rfl) (by first | exact hw.arrS 11 rfl (fun o ho => by repeat (first | apply List.mem_cons_of_mem | exact List.mem_append_left _ (List.mem_append_left _ (List.mem_append_right _ ho)))))) | (apply opv_call; rfl; rfl; exact Cl.stable _ _ _; exact fun w hw => kF2 _ (by first | exact hw.rowArr (k := 12) rfl) (by first | exact hw.arrS 11 rfl (fun o ho => by repeat (first | apply List.mem_cons_of_mem | exact List.mem_append_left _ (List.mem_append_left _ (List.mem_append_right _ ho)))))) | (apply opv_call; rfl; rfl; exact Cl.stable _ _ _; exact fun w hw => kO _ (by first | exact hw.rowArr (k := 8) rfl) (by first | exact hw.rowArr (k := 9) rfl)) | (apply opv_call; rfl; rfl; exact Cl.stable _ _ _; exact fun w hw => kO2 _ (by first | exact hw.rowArr (k := 8) rfl) (by first | exact hw.rowArr (k := 9) rfl)) | (apply opv_call; rfl; rfl; exact Cl.stable _ _ _; exact fun w hw => kR _ (by first | exact hw.rowArr (k := 8) rfl) (by first | exact hw.rowArr (k := 9) rfl)) | (apply opv_call; rfl; rfl; exact Cl.stable _ _ _; exact fun w hw => kR2 _ (by first | exact hw.rowArr (k := 8) rfl) (by first | exact hw.rowArr (k := 9) rfl)) | (apply opv_call; rfl; rfl; exact Cl.stable _ _ _; exact fun w hw => sameInts_same _ _ (heightsL n4 rows4 to4) _ (by first | exact hw.rowArr (k := 1) rfl) (by first | exact hw.rowArr (k := 0) rfl))); rfl; rfl) | apply px_nil | apply qseq_normal | apply pwp_ret | (apply pwp_region_ordf [0,1,2,3,4,5,6,7,8,9,10,11,12,13,14,15,16,17,18,20,21,19,22,23,24,25,26,27,29,30,28,31,32,33,34,35,36,38,39,37,40,41,42,43,44,45,47,48,46,49,50,51,52]; kernel_rfl; decide +kernel; exact Cl.stable _ _ _) | (apply px_guard_dec; rfl; rfl; rfl; all_goals (intro hc; try (first | (exfalso; omega)))) | (apply px_givesT; rfl; rfl; rfl; rfl; rfl; exact fun w hw => kS _ _ (by first | exact hw.rowArr (k := 13) rfl); rintro s1v _ ⟨s1, hs1, rfl⟩; refine ⟨[_], _, rfl, ?_⟩) | (apply px_givesT; rfl; rfl; rfl; rfl; rfl; exact fun w hw => kT _ _ (by first | exact hw.rowArr (k := 14) rfl); rintro s2v _ ⟨s2, hs2, rfl⟩; refine ⟨[_], _, rfl, ?_⟩) | (apply px_gives; rfl; rfl; rfl; rfl; rfl; exact fun w hw => i_HeightsOf_c n4 gv4 tv4 rows4 to4 _ (by first | exact hw.rowArr (k := 4) rfl) (by first | exact hw.rowArr (k := 5) rfl) hto4; rintro h1v _ rfl) | (apply px_gives; rfl; rfl; rfl; rfl; rfl; exact fun w hw => s_HeightsOf_c n4 gv4 tv4 rows4 to4 _ (by first | exact hw.rowArr (k := 5) rfl) (by first | exact hw.rowArr (k := 6) rfl) hto4; rintro h2v _ rfl))
  all_goals refine qbody_ret1 (v := .bool _) rfl rfl ⟨by first | rfl | simp, fun _ h => h.below⟩
set_option maxRecDepth 100000 in
theorem FnOrientations_lifted (os : Os) (started : os.Started) (H : Type) (enc : TypeId × Value → H) :
    ReturnsInHanded {} Try.checked os 3 .any (Rows.fnOrientationsSpec.pre6 enc Try.prog Try.f3 Rows.fnOrientationsRow.domain false) (Rows.fnOrientationsSpec.post enc Try.prog Try.f3 false true false false) := by
  refine returnsInHanded_of_change (C := Try.checked) own started (by kernel_rfl) Try.func3
    (ChangeSpec.witness6 (enc := enc) (C := Try.checked) false ⟨#[], #[.slice none 0 0], []⟩ 8 (by kernel_rfl) (by kernel_rfl) (by kernel_rfl) (by kernel_rfl)) ?_
  intro W base args ds gs before hval0 hW hcnd _
  have hval : ∀ (j : Nat) t v, Try.f3.params[j]? = some t → args[j]? = some v → Value.okWide Try.prog W .any base t v := hval0
  have hW' := hW
  obtain ⟨p, q, hA0, hV, rfl, hfz, hnd⟩ := hW
  have hA : DataW.TrodAll enc Try.prog W 0 (fun _ => true) true Try.f3.params.toList args.toList ds p := hA0
  rw [Try.params3] at hA hval
  obtain ⟨v0, d0, rfl, rfl, h0⟩ := trodAll_one hA
  obtain ⟨rfl, rfl⟩ := trodVars_none hV
  obtain ⟨r0, hr0, hb0⟩ := read_bytes Try.underlying22 Try.underlying5 (by kernel_rfl) (hval 0 _ _ rfl rfl) h0
  exact law_calls (tb := 4) laidOut rfl hW' (by rw [Try.params3]; decide +kernel) (by kernel_rfl) (by kernel_rfl) rfl (fnOrientations_c v0 r0 W hr0 hb0)
theorem FnOrientations_holds : Rows.FnOrientationsSaid :=
  OpenClaim.holds_of_wide 3 Try.f3 rfl rfl rfl rfl rfl rfl rfl ⟨rfl, rfl, rfl, rfl, rfl⟩ rfl rfl rfl rfl rfl (by kernel_rfl) Try.func3 (by kernel_rfl)
    (of_decide_eq_true (by kernel_rfl)) (by unfold Func.isWrapper; first | (rw [if_pos (by decide +kernel)]; kernel_rfl) | (rw [if_neg (by decide +kernel)]; exact ⟨rfl, rfl⟩))
    (fun os started H enc _ => FnOrientations_lifted os started H enc)
end Go.Proofs.Ytkbjcfabbapnpaa
