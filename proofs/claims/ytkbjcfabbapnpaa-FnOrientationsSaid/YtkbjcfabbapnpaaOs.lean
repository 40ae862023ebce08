/- Orientations found arc by arc: the reference's. -/
import Derived.Test.YtkbjcfabbapnpaaOr
namespace Go.Proofs.Ytkbjcfabbapnpaa
open Go Go.RowKit Go.Pw
theorem en_s_OrientationOf : Entry Try.prog 7 := ⟨_, Try.func7, by kernel_rfl, rfl⟩
set_option maxRecDepth 100000 in
set_option maxHeartbeats 16000000 in
theorem s_OrientationOf_c (size : Int) (gv : Value) (rows : List Int) (w : World) (hr : Arr w gv (ints rows)) :
    Gives Try.prog 7 #[.agg #[.int .i64 size, gv]] w (fun v objs => ∃ sv, v = .tuple #[.agg #[sv], .bool (oriX size rows).isSome] ∧ objs = [.row 3 sv (ints (oriL size rows))]) := by
  refine gives_enter (args := [_]) en_s_OrientationOf Try.func7 rfl Try.ntmps7 rfl ?_
  by_cases hg : IsG size rows
  case neg =>
    have f1 : oriX size rows = none := if_neg hg
    have f2 : oriL size rows = [] := by unfold oriL; rw [f1]; rfl
    repeat' (first | apply pwp_seq | apply pwp_region | (apply px_run; (first | (apply opv_buildO0 bl_O) | (apply opv_assign; first | exact hid_bool rfl) | (apply opv_not_dec <;> rfl) | (apply opv_load_str 1 st_G; rfl; rfl; rfl) | (apply opv_call; rfl; rfl; exact Cl.stable _ _ _; exact fun w hw => s_IsGraph_c _ _ rows _ (by first | exact hw.arr (by assumption)))); rfl; rfl) | apply px_nil | apply qseq_normal | apply qseq_ret | apply pwp_ret | (apply pwp_cond_ndec; rfl; all_goals (intro hc; try (first | contradiction))) | (apply px_box; rfl; rfl; rfl; rfl; intro bk) | (apply px_alloc st_O; rfl; rfl; rfl; intro bk) | (apply px_store_str 0 st_O; rfl; rfl; rfl; rfl; rfl; (intro w hw; (first | refine all1 rfl ?_) <;> (first | rfl)); rfl))
    refine qbody_cell_tmp 0 rfl st_O rfl rfl rfl rfl ⟨_, ⟨_, by rw [f1]; rfl, rfl⟩, fun w' h => ?_⟩
    rw [f2]
    exact (h.sub (List.nil_sublist _)).nilRow _
  obtain ⟨n, hn, hrl, hn1, hn7⟩ := isG_size hg
  have hX : oriX size rows = oriF n 50 (bitsP rows) (fun _ _ => false) := by unfold oriX; rw [if_pos hg, hrl]
  have hL : oriL size rows = ((oriX size rows).map (gRows n)).getD [] := by unfold oriL; rw [hrl]
  have hrows := bits_rows hg
  have hsy := bits_sym hg
  have hir := bits_irr hg
  rw [hL]
  generalize oriX size rows = XX at hX ⊢
  rw [hrl] at hrows
  generalize bitsP rows = P0 at *
  subst hn
  rw [hrows] at hg hr
  have hz : ints (gRows n (fun _ _ => false)) = List.replicate n (Value.int .i64 0) := by
    rw [gRows_none (fun _ _ _ _ => rfl)]; simp [ints]
  have hgl0 := gRows_length n P0
  clear hrows
  repeat' (first | apply pwp_seq | apply pwp_region | (apply px_run; (first | (apply opv_buildO1 bl_O; rfl; (first | exact rd_row 0 rfl)) | (apply opv_assign; first | exact hid_bool rfl) | (apply opv_not_dec <;> rfl) | (apply opv_field fld_G0; rfl) | (apply opv_load_blk 1; (first | with_reducible exact sc_int); rfl; rfl; rfl) | (apply opv_load_str 1 st_G; rfl; rfl; rfl) | (apply opv_load_str 3 st_G; rfl; rfl; rfl) | (apply opv_call; rfl; rfl; exact Cl.stable _ _ _; exact fun w hw => s_IsGraph_c _ _ (gRows n P0) _ (by first | exact hw.arr (by assumption)))); rfl; rfl) | apply px_nil | apply qseq_normal | apply pwp_block | apply pwp_skip | (apply pwp_cond_ndec; rfl; all_goals (intro hc; try (first | contradiction))) | (apply px_box; rfl; rfl; rfl; rfl; intro bk) | (apply px_make ez_int; rfl; rfl; rfl; rfl; rfl; omega; (simp only [maxLen]; omega); intro sv) | (apply px_alloc st_G; rfl; rfl; rfl; intro bk) | (apply px_alloc st_O; rfl; rfl; rfl; intro bk) | (apply px_store_str 0 st_G; rfl; rfl; rfl; rfl; rfl; (intro w hw; (first | refine all2 rfl ?_ ?_) <;> (first | rfl | exact stor_row 1 hw rfl)); rfl) | (apply px_store_str 0 st_O; rfl; rfl; rfl; rfl; rfl; (intro w hw; (first | refine all1 rfl ?_) <;> (first | exact stor_row 1 hw rfl)); rfl) | (apply px_gives; rfl; rfl; rfl; rfl; rfl; exact fun w hw => s_l2Copy_c _ _ (gRows n P0) _ (by first | exact hw.arr (by assumption)) (by omega); rintro _ _ ⟨lv0, rfl, rfl⟩))
  rename_i b1 b2 b4
  rename Nat => b5
  generalize hsv : sv = tv
  refine pwp_loop (τ := Value × (Nat → Nat → Bool) × (Nat → Nat → Bool) × Nat) [(3,3), (6,8), (19,94)] (fun x => []) (fun x => Cl [] w [.row 3 x.1 (ints (gRows n x.2.1)), .row 3 tv (ints (gRows n x.2.2.1)), .blk b4 [tv], .blk b5 [.int .i64 n, x.1], .blk b2 [.slice none 0 0], .blk b1 [.int .i64 n, gv]])
    (fun x => (∀ i u, x.2.1 i u = x.2.1 u i) ∧ (∀ i, x.2.1 i i = false) ∧ cntP n x.2.1 < x.2.2.2 ∧ oriF n x.2.2.2 x.2.1 x.2.2.1 = XX) (fun x => cntP n x.2.1) (lv0, P0, fun _ _ => false, 50)
    trivial ⟨hsy, hir, by have := cntP_le n P0; have := Nat.mul_le_mul hn7 hn7; dsimp only; omega, hX.symm⟩ (fun w' h => by dsimp only; rw [hz]; exact Cl.ofSel (by assumption) (by repeat (first | exact sel_nil | refine sel_cons 0 rfl ?_ | refine sel_cons 1 rfl ?_ | refine sel_cons 2 rfl ?_ | refine sel_cons 3 rfl ?_ | refine sel_cons 4 rfl ?_ | refine sel_cons 5 rfl ?_ | refine sel_cons 6 rfl ?_ | refine sel_cons 7 rfl ?_ | refine sel_cons 8 rfl ?_ | refine sel_cons 9 rfl ?_ | refine sel_cons 10 rfl ?_ | refine sel_cons 11 rfl ?_ | refine sel_cons 12 rfl ?_ | refine sel_cons 13 rfl ?_))) (fun J2 x hx => ?_)
  obtain ⟨lv, P, Q, f⟩ := x
  dsimp only at hx ⊢
  obtain ⟨hPs, hPi, hcf, hXX⟩ := hx
  obtain ⟨f, rfl⟩ : ∃ f', f = f' + 1 := ⟨f - 1, by omega⟩
  have hgl := gRows_length n P
  have hgG := gRows_isG hn1 hn7 hPs hPi
  have hedge : ∀ (w' : World), Arr w' lv (ints (gRows n P)) → Gives Try.prog 40 #[.agg #[.int .i64 n, lv]] w' (fun v objs => ∃ ps, lssOf ps = edgesL n (gRows n P) ∧ ps.length = (edgesL n (gRows n P)).length ∧ objs = .row 24 v (svsOf ps) :: rowsOb 3 ps) := fun w' h => by
    obtain ⟨h1, h2⟩ := s_EdgesOf_c n lv (gRows n P) w' h
    refine ⟨h1, h2.mono ?_⟩
    rintro e w'' ⟨v, objs, hv, ⟨ps, hps, ho⟩, hc⟩
    exact ⟨v, objs, hv, ⟨ps, hps, by rw [← hps, lssOf_length], ho⟩, hc⟩
  have hel2 := edgesL_length n (gRows n P)
  cases hE : edgesL n (gRows n P) with
  | nil =>
    have hq : XX = some Q := by rw [← hXX, oriF, hE]
    rw [hq]
    have hedge0 : ∀ (w' : World), Arr w' lv (ints (gRows n P)) → Gives Try.prog 40 #[.agg #[.int .i64 n, lv]] w' (fun v objs => ∃ ps : Pairs, ps.length = 0 ∧ objs = .row 24 v (svsOf ps) :: rowsOb 3 ps) := fun w' h => by
      obtain ⟨h1, h2⟩ := hedge w' h
      refine ⟨h1, h2.mono ?_⟩
      rintro e w'' ⟨v, objs, hv, ⟨ps, hps, hpl, ho⟩, hc⟩
      exact ⟨v, objs, hv, ⟨ps, by rw [hpl, hE]; rfl, ho⟩, hc⟩
    repeat' (first | apply pwp_seq | apply pwp_region | (apply px_run; (first | (apply opv_assign; first | exact hid_bool rfl) | (apply opv_gtr <;> rfl) | (apply opv_load_str 3 st_G; rfl; rfl; rfl) | (apply opv_load_str 3 st_O; rfl; rfl; rfl) | (apply opv_len_svs el_intss; rfl; (first | exact rd_row 0 rfl))); rfl; rfl) | apply px_nil | apply qseq_normal | apply qseq_exit | (apply qblock_exit_same; rfl) | apply pwp_exit | apply pwp_ret | apply qround_exit | (apply pwp_cond_dec; rfl; all_goals (intro hc; try (first | (exfalso; omega)))) | (apply px_store_str 5 st_O; rfl; rfl; rfl; rfl; rfl; (intro w hw; (first | refine all1 rfl ?_) <;> (first | exact stor_row 2 hw rfl)); rfl) | (apply px_givesT; rfl; rfl; rfl; rfl; rfl; exact fun w hw => hedge0 _ (hw.rowArr (k := 0) rfl); rintro ve1 _ ⟨es, hesl, rfl⟩; refine ⟨[_], _, rfl, ?_⟩))
    refine qbody_cell_tmp 5 rfl st_O rfl rfl rfl rfl ⟨_, ⟨tv, rfl, rfl⟩, fun w' h => ?_⟩
    exact h.sub (List.Sublist.cons _ (List.Sublist.cons _ (List.Sublist.cons_cons _ (List.nil_sublist _))))
  | cons e0 er =>
    have hR := roundO hn1 hn7 hPi (e := e0) (by rw [hE]; exact List.mem_cons_self ..)
    obtain ⟨a, b, hab, hab2, hbn⟩ := hR.arc
    have hstep : XX = if [e0.getD 1 0, e0.getD 0 0] ∈ (forcedA (gRows n P) (e0.getD 0 0) (e0.getD 1 0)).1 then none
        else oriF n f ((forcedA (gRows n P) (e0.getD 0 0) (e0.getD 1 0)).1.foldl remE P) ((forcedA (gRows n P) (e0.getD 0 0) (e0.getD 1 0)).1.foldl addE Q) := by
      rw [← hXX, oriF, hE]
    have hRf := hR.forced
    have hRok := hR.ok
    have hRl := hR.less
    have hRe := hR.edge
    have hfst : ∀ es : Pairs, lssOf es = e0 :: er → lsAt es 0 = e0 := fun es h => by rw [← lss_getD, h]; rfl
    have key : ∀ (es : Pairs) (w' : World), lssOf es = e0 :: er → Arr w' lv (ints (gRows n P)) → Gives Try.prog 24 #[.agg #[.int .i64 n, lv], .int .i64 ((lsAt es 0).getD 0 0), .int .i64 ((lsAt es 0).getD 1 0)] w' (fun v objs => ∃ ps, lssOf ps = (forcedA (gRows n P) (e0.getD 0 0) (e0.getD 1 0)).1 ∧ objs = .row 24 v (svsOf ps) :: rowsOb 3 ps) := fun es w' hes h => by
      rw [hfst es hes, hab]
      rw [hab] at hRe
      exact s_ForcedArcs_c n lv (gRows n P) a b w' h hgG (by omega) (by omega) (by rw [gRows_has hn7 P (by omega) hbn]; exact hRe)
    clear hR hXX
    generalize forcedA (gRows n P) (e0.getD 0 0) (e0.getD 1 0) = FA at *
    have hbd := hRok.bound hn7
    have hpm := placeA_mem FA.1 [e0.getD 1 0, e0.getD 0 0]
    have hpf : ∀ (es fs : Pairs) (vf : Value) (w' : World), lssOf es = e0 :: er → lssOf fs = FA.1 → ArrS w' vf fs → Pure Try.prog 41 #[vf, .int .i64 ((lsAt es 0).getD 1 0), .int .i64 ((lsAt es 0).getD 0 0)] w' (.int .i64 (placeA FA.1 [e0.getD 1 0, e0.getD 0 0])) := fun es fs vf w' hes hfs h => by
      have hfl := congrArg List.length hfs
      rw [lssOf_length] at hfl
      have h2 := s_l13Find_c vf fs ((lsAt es 0).getD 1 0) ((lsAt es 0).getD 0 0) w' h (by omega) (fun i hi => by
        obtain ⟨x', y', h, _⟩ := hRok.arc (lsAt fs i) (by rw [← hfs]; exact lsAt_mem hi)
        rw [h]; rfl)
      rw [hfs, hfst es hes] at h2
      rw [hfst es hes]; exact h2
    have hl2 : ∀ es : Pairs, lssOf es = e0 :: er → (lsAt es 0).length = 2 := fun es h => by rw [hfst es h, hab]; rfl
    have hedge2 : ∀ (w' : World), Arr w' lv (ints (gRows n P)) → Gives Try.prog 40 #[.agg #[.int .i64 n, lv]] w' (fun v objs => ∃ ps, lssOf ps = e0 :: er ∧ 0 < ps.length ∧ (lsAt ps 0).length = 2 ∧ objs = .row 24 v (svsOf ps) :: rowsOb 3 ps) := fun w' h => by
      obtain ⟨h1, h2⟩ := hedge w' h
      refine ⟨h1, h2.mono ?_⟩
      rintro e w'' ⟨v, objs, hv, ⟨ps, hps, hpl, ho⟩, hc⟩
      rw [hE] at hps hpl
      exact ⟨v, objs, hv, ⟨ps, hps, by rw [hpl]; simp, hl2 ps hps, ho⟩, hc⟩
    by_cases hfound : [e0.getD 1 0, e0.getD 0 0] ∈ FA.1
    · have hq : XX = none := by rw [hstep, if_pos hfound]
      have hp0 := hpm.2 hfound
      rw [hq]
      repeat' (first | apply pwp_seq | apply pwp_region | (apply px_run; (first | (apply opv_buildO0 bl_O) | (apply opv_move; first | rfl) | (apply opv_assign; first | exact hid_bool rfl | rfl) | (apply opv_gtr <;> rfl) | (apply opv_geq <;> rfl) | (apply opv_load_ints sc_int; rfl; (first | exact rd_mem (List.mem_append_right _ (List.mem_append_right _ (row_mem (by omega)))) | exact rd_mem (List.mem_append_right _ (List.mem_append_left _ (List.mem_append_right _ (List.mem_append_right _ (row_mem (by omega))))))); (first | omega)) | (apply opv_index_nat (k := 0) (vs := ints _) el_int; rfl; rfl; (first | exact rd_mem (List.mem_append_right _ (List.mem_append_right _ (row_mem (by omega)))) | exact rd_mem (List.mem_append_right _ (List.mem_append_left _ (List.mem_append_right _ (List.mem_append_right _ (row_mem (by omega))))))); (first | (simp only [ints_length]; first | omega))) | (apply opv_index_nat (k := 1) (vs := ints _) el_int; rfl; rfl; (first | exact rd_mem (List.mem_append_right _ (List.mem_append_right _ (row_mem (by omega)))) | exact rd_mem (List.mem_append_right _ (List.mem_append_left _ (List.mem_append_right _ (List.mem_append_right _ (row_mem (by omega))))))); (first | (simp only [ints_length]; first | omega))) | (apply opv_load_str 3 st_G; rfl; rfl; rfl) | (apply opv_load_str 4 st_G; rfl; rfl; rfl) | (apply opv_load_str 5 st_G; rfl; rfl; rfl) | (apply opv_index_nat (k := 0) (vs := svsOf _) el_intss; rfl; rfl; (first | exact rd_row 0 rfl); (simp only [svsOf_length]; first | omega)) | (apply opv_load_svs sc_ints; rfl; (first | exact rd_row 0 rfl); omega) | (apply opv_len_svs el_intss; rfl; (first | exact rd_row 0 rfl)) | (apply opv_call; rfl; rfl; exact Cl.stable _ _ _; exact fun w hw => hpf es fs _ _ hes hfs (hw.arrS 0 rfl (fun o ho => List.mem_append_right _ (List.mem_append_right _ ho))))); rfl; rfl) | apply px_nil | apply qseq_normal | apply qseq_ret | apply pwp_block | apply qblock_ret | apply pwp_skip | apply pwp_ret | apply qround_ret | (apply pwp_region_mix; kernel_rfl; decide +kernel; exact Cl.stable _ _ _) | (apply pwp_cond_dec; rfl; all_goals (intro hc; try (first | contradiction | (exfalso; omega)))) | (apply px_store_str 7 st_O; rfl; rfl; rfl; rfl; rfl; (intro w hw; (first | refine all1 rfl ?_) <;> (first | rfl)); rfl) | (apply px_givesT; rfl; rfl; rfl; rfl; rfl; exact fun w hw => hedge2 _ (hw.rowArr (k := 0) rfl); rintro ve1 _ ⟨es, hes, hesl, hes2, rfl⟩; refine ⟨[_], _, rfl, ?_⟩) | (apply px_givesT; rfl; rfl; rfl; rfl; rfl; exact fun w hw => hedge2 _ (hw.rowArr (k := 1) rfl); rintro ve1 _ ⟨es, hes, hesl, hes2, rfl⟩; refine ⟨[_], _, rfl, ?_⟩) | (apply px_givesT; rfl; rfl; rfl; rfl; rfl; exact fun w hw => key es _ hes (hw.rowArr (k := 2) rfl); rintro vf _ ⟨fs, hfs, rfl⟩; refine ⟨[_], _, rfl, ?_⟩))
      refine qbody_cell_tmp 7 rfl st_O rfl rfl rfl rfl ⟨_, ⟨_, rfl, rfl⟩, fun w' h => ?_⟩
      exact (h.sub (List.nil_sublist _)).nilRow _
    have hp0 : ¬ 0 ≤ placeA FA.1 [e0.getD 1 0, e0.getD 0 0] := fun h => hfound (hpm.1 h)
    rw [if_neg hfound] at hstep
    repeat' (first | apply pwp_seq | apply pwp_region | (apply px_run; (first | (apply opv_move; first | rfl) | (apply opv_assign; first | exact hid_int rfl | rfl) | (apply opv_gtr <;> rfl) | (apply opv_geq <;> rfl) | (apply opv_load_ints sc_int; rfl; (first | exact rd_mem (List.mem_append_right _ (List.mem_append_right _ (row_mem (by omega)))) | exact rd_mem (List.mem_append_right _ (List.mem_append_left _ (List.mem_append_right _ (List.mem_append_right _ (row_mem (by omega))))))); (first | omega)) | (apply opv_index_nat (k := 0) (vs := ints _) el_int; rfl; rfl; (first | exact rd_mem (List.mem_append_right _ (List.mem_append_right _ (row_mem (by omega)))) | exact rd_mem (List.mem_append_right _ (List.mem_append_left _ (List.mem_append_right _ (List.mem_append_right _ (row_mem (by omega))))))); (first | (simp only [ints_length]; first | omega))) | (apply opv_index_nat (k := 1) (vs := ints _) el_int; rfl; rfl; (first | exact rd_mem (List.mem_append_right _ (List.mem_append_right _ (row_mem (by omega)))) | exact rd_mem (List.mem_append_right _ (List.mem_append_left _ (List.mem_append_right _ (List.mem_append_right _ (row_mem (by omega))))))); (first | (simp only [ints_length]; first | omega))) | (apply opv_load_str 3 st_G; rfl; rfl; rfl) | (apply opv_load_str 4 st_G; rfl; rfl; rfl) | (apply opv_load_str 5 st_G; rfl; rfl; rfl) | (apply opv_index_nat (k := 0) (vs := svsOf _) el_intss; rfl; rfl; (first | exact rd_row 0 rfl); (simp only [svsOf_length]; first | omega)) | (apply opv_load_svs sc_ints; rfl; (first | exact rd_row 0 rfl); omega) | (apply opv_len_svs el_intss; rfl; (first | exact rd_row 0 rfl)) | (apply opv_call; rfl; rfl; exact Cl.stable _ _ _; exact fun w hw => hpf es fs _ _ hes hfs (hw.arrS 0 rfl (fun o ho => List.mem_append_right _ (List.mem_append_right _ ho))))); rfl; rfl) | apply px_nil | apply qseq_normal | apply pwp_block | apply pwp_skip | (apply pwp_region_mix; kernel_rfl; decide +kernel; exact Cl.stable _ _ _) | (apply pwp_cond_dec; rfl; all_goals (intro hc; try (first | contradiction | (exfalso; omega)))) | (apply px_givesT; rfl; rfl; rfl; rfl; rfl; exact fun w hw => hedge2 _ (hw.rowArr (k := 0) rfl); rintro ve1 _ ⟨es, hes, hesl, hes2, rfl⟩; refine ⟨[_], _, rfl, ?_⟩) | (apply px_givesT; rfl; rfl; rfl; rfl; rfl; exact fun w hw => hedge2 _ (hw.rowArr (k := 1) rfl); rintro ve1 _ ⟨es, hes, hesl, hes2, rfl⟩; refine ⟨[_], _, rfl, ?_⟩) | (apply px_givesT; rfl; rfl; rfl; rfl; rfl; exact fun w hw => key es _ hes (hw.rowArr (k := 2) rfl); rintro vf _ ⟨fs, hfs, rfl⟩; refine ⟨[_], _, rfl, ?_⟩))
    have hfl : fs.length = FA.1.length := by rw [← hfs, lssOf_length]
    have hD : ∀ j, j < fs.length → ∃ x y : Nat, (lsAt fs j).getD 0 0 = x ∧ (lsAt fs j).getD 1 0 = y ∧ (lsAt fs j).length = 2 ∧ x < n ∧ y < n ∧ x ≠ y := fun j hj => by
      obtain ⟨⟨x, y, hxy, hx, hy⟩, hne⟩ := hRf (lsAt fs j) (by rw [← hfs]; exact lsAt_mem hj)
      rw [hxy] at hne ⊢
      exact ⟨x, y, rfl, rfl, rfl, hx, hy, hne⟩
    refine pwp_loop (τ := Nat × Value) [(8,8), (45,94)] (fun x => [(8, .int .i64 (x.1 : Int))]) (fun x => Cl [] w (.row 24 vf (svsOf fs) :: .row 3 x.2 (ints (gRows n (remU P (lssOf fs) x.1))) :: .row 3 tv (ints (gRows n (orU Q (lssOf fs) x.1))) :: .blk b4 [tv] :: .blk b5 [.int .i64 n, x.2] :: .blk b2 [.slice none 0 0] :: .blk b1 [.int .i64 n, gv] :: rowsOb 3 fs)) (fun x => x.1 ≤ fs.length) (fun x => fs.length - x.1) (0, lv)
      ⟨rfl, trivial⟩ (Nat.zero_le _) (fun w' h => h.sub (List.Sublist.cons_cons _ (sub_two _ _ [.row 3 lv (ints (gRows n P)), .row 3 tv (ints (gRows n Q)), .blk b4 [tv], .blk b5 [.int .i64 n, lv], .blk b2 [.slice none 0 0], .blk b1 [.int .i64 n, gv]] _ _ (rowsOb 3 fs)))) (fun J3 x hx => ?_)
    obtain ⟨j, lv2⟩ := x
    dsimp only at hx ⊢
    by_cases hlj : j < fs.length
    · obtain ⟨x, y, hx, hy, hl2, hxn, hyn, hxy⟩ := hD j hlj
      have hmj : Ob.row 3 (svAt fs j) (ints (lsAt fs j)) ∈ rowsOb 3 fs := row_mem hlj
      have hor := gRows_or (orU Q (lssOf fs) j) hn7 hxn hyn
      have hsu := orU_succ (Q := Q) (L := lssOf fs) (j := j) (by rw [lssOf_length]; exact hlj)
      have hsr := remU_succ (P := P) (L := lssOf fs) (j := j) (by rw [lssOf_length]; exact hlj)
      rw [lss_getD] at hsu hsr
      have hae : addE (orU Q (lssOf fs) j) (lsAt fs j) = addQ (orU Q (lssOf fs) j) x y := by unfold addE; rw [hx, hy]; rfl
      have hre : remE (remU P (lssOf fs) j) (lsAt fs j) = remP (remU P (lssOf fs) j) x y := by unfold remE; rw [hx, hy]; rfl
      have hPs2 : ∀ i u, remU P (lssOf fs) j i u = remU P (lssOf fs) j u i := remF_sym _ hPs
      have hPi2 : ∀ i, remU P (lssOf fs) j i i = false := remF_irr hPi
      rw [hre] at hsr
      rw [hae] at hsu
      generalize remU P (lssOf fs) j = P' at *
      generalize orU Q (lssOf fs) j = Q' at *
      have hpl := gRows_length n P'
      have hql := gRows_length n Q'
      have d0 : 0 ≤ (lsAt fs j).getD 0 0 ∧ (lsAt fs j).getD 0 0 < n := by omega
      have d1 : 0 ≤ (lsAt fs j).getD 1 0 := by omega
      have e0' : ((lsAt fs j).getD 0 0).toNat = x := by omega
      have hor2 : (gRows n Q').set ((lsAt fs j).getD 0 0).toNat (ior ((gRows n Q').getD ((lsAt fs j).getD 0 0).toNat 0) (ishl 1 ((lsAt fs j).getD 1 0))) = gRows n (addQ Q' x y) := by rw [e0', hy]; exact hor
      have rem : ∀ w', Arr w' lv2 (ints (gRows n P')) → Gives Try.prog 42 #[.agg #[.int .i64 n, lv2], .int .i64 ((lsAt fs j).getD 0 0), .int .i64 ((lsAt fs j).getD 1 0)] w' (fun v objs => ∃ sv', v = .tuple #[.agg #[.int .i64 n, sv'], .bool (P' x y)] ∧ objs = [.row 3 sv' (ints (gRows n (remP P' x y)))]) := fun w' h => by
        rw [hx, hy]; exact s_RemoveEdge_c n lv2 P' x y w' h hn1 hn7 hPs2 hPi2 hxn hyn hxy
      repeat' (first | apply pwp_seq | apply pwp_region | (apply px_run; (first | (apply opv_move; first | exact hid_int rfl | rfl) | (apply opv_assign; first | exact hid_int rfl) | (apply opv_lss <;> rfl) | (apply opv_or <;> rfl) | (apply opv_add_in; rfl; rfl; omega) | (apply opv_shl; rfl; rfl; omega) | (apply opv_field fld_O0; rfl) | (apply opv_load_blk 3; (first | with_reducible exact sc_int | with_reducible exact sc_ints); rfl; rfl; rfl) | (apply opv_load_ints sc_int; rfl; (first | exact rd_row 2 rfl | exact rd_mem (by repeat (first | assumption | apply List.mem_cons_of_mem))); (first | omega)) | (apply opv_index_nat (k := 0) (vs := ints _) el_int; rfl; rfl; (first | exact rd_mem (by repeat (first | assumption | apply List.mem_cons_of_mem))); (first | (simp only [ints_length]; first | omega))) | (apply opv_index_nat (k := 1) (vs := ints _) el_int; rfl; rfl; (first | exact rd_mem (by repeat (first | assumption | apply List.mem_cons_of_mem))); (first | (simp only [ints_length]; first | omega))) | (apply opv_index (vs := ints _) el_int; rfl; rfl; (first | exact rd_row 2 rfl); omega; (first | (simp only [ints_length]; omega))) | (apply opv_load_str 4 st_G; rfl; rfl; rfl) | (apply opv_load_svs sc_ints; rfl; (first | exact rd_row 0 rfl); omega) | (apply opv_index_nat (vs := svsOf _) el_intss; rfl; rfl; (first | exact rd_row 0 rfl); (simp only [svsOf_length]; omega)) | (apply opv_len_svs el_intss; rfl; (first | exact rd_row 0 rfl)) | (apply opv_extract; rfl; rfl)); rfl; rfl) | apply px_nil | apply qseq_normal | apply pwp_block | apply qblock_normal | apply pwp_skip | (apply pwp_region_any [0, 1, 2, 3, 4, 5, 6, 7, 8, 9, 10, 11, 12, 13, 14, 15, 16, 17, 18, 19, 20, 21, 22, 23, 24, 25] [27] 2 (Cl [] w (.row 24 vf (svsOf fs) :: .row 3 lv2 _ :: .row 3 tv _ :: .blk b4 _ :: .blk b5 _ :: .blk b2 _ :: .blk b1 _ :: rowsOb 3 fs)); kernel_rfl; decide +kernel; exact Cl.stable _ _ _; exact fun w h => h.sub (by repeat (first | exact List.Sublist.refl _))) | (apply pwp_region_any [0, 1, 2, 3, 4, 5, 6, 7, 8, 9, 10, 11, 12] [17] 5 (Cl [] w (.row 24 vf (svsOf fs) :: .row 3 lv2 _ :: .row 3 tv _ :: .blk b4 _ :: .blk b5 _ :: .blk b2 _ :: .blk b1 _ :: rowsOb 3 fs)); kernel_rfl; decide +kernel; exact Cl.stable _ _ _; exact fun w h => h.sub (by repeat (first | exact List.Sublist.refl _))) | apply qlooks_normal | (apply qstep_out; decide +kernel) | (apply qstep_in; exact fun w h => h.sub (by repeat (first | exact List.Sublist.refl _ | exact List.sublist_append_right _ _))) | (apply pxa_nil; decide +kernel) | (apply pxa_one 13; decide +kernel; rfl) | (apply pxa_one 14; decide +kernel; rfl) | (apply pxa_one 15; decide +kernel; rfl) | (apply pxa_one 16; decide +kernel; rfl) | (apply pxa_one 17; decide +kernel; rfl) | (apply pxa_one 26; decide +kernel; rfl) | (apply pxa_one 27; decide +kernel; rfl) | (apply pxa_two 15 16; decide +kernel; rfl; rfl) | (apply pxa_two 16 17; decide +kernel; rfl; rfl) | (apply pwp_cond_dec; rfl; all_goals (intro hc; try (first | (exfalso; omega)))) | (apply px_store_int 2 co_int; rfl; rfl; rfl; (first | omega); rfl) | (apply px_store_str 5 st_G; rfl; rfl; rfl; rfl; rfl; (intro w hw; (first | refine all2 rfl ?_ ?_) <;> (first | rfl | exact stor_row 0 hw rfl)); rfl) | (apply px_gives; rfl; rfl; rfl; rfl; rfl; exact fun w hw => rem _ (hw.rowArr (k := 1) rfl); rintro _ _ ⟨lv3, rfl, rfl⟩))
      all_goals (
        refine qround_normal ?_ ⟨(j + 1, lv3), ⟨rfl, trivial⟩, by dsimp only; omega, by dsimp only; omega, fun w' h => ?_⟩
        · repeat (first | exact same_refl | refine same_upd rfl ?_ | refine same_junk rfl ?_)
        · dsimp only
          rw [hsu, hsr, ← hor2]
          exact (h.perm (List.Perm.swap _ _ _)).sub (List.Sublist.cons_cons _ (List.Sublist.cons_cons _ (List.Sublist.cons _ (List.Sublist.refl _)))))
    obtain rfl : j = fs.length := by omega
    have hrA : remU P (lssOf fs) fs.length = FA.1.foldl remE P := by unfold remU; rw [List.take_of_length_le (by rw [lssOf_length]; omega), hfs]
    have hoA : orU Q (lssOf fs) fs.length = FA.1.foldl addE Q := by unfold orU; rw [List.take_of_length_le (by rw [lssOf_length]; omega), hfs]
    rw [hrA, hoA]
    repeat' (first | apply pwp_seq | apply pwp_region | (apply px_run; (first | (apply opv_move; first | exact hid_int rfl | rfl) | (apply opv_lss <;> rfl) | (apply opv_len_svs el_intss; rfl; (first | exact rd_row 0 rfl))); rfl; rfl) | apply px_nil | apply qseq_normal | apply qseq_exit | apply qblock_normal | (apply qblock_exit_same; rfl) | apply pwp_exit | apply qround_exit | (apply pwp_cond_dec; rfl; all_goals (intro hc; try (first | (exfalso; omega)))))
    refine qround_normal ?_ ⟨(lv2, FA.1.foldl remE P, FA.1.foldl addE Q, f), trivial, ⟨remF_sym _ hPs, remF_irr hPi, by dsimp only; omega, hstep.symm⟩, hRl, fun w' h => ?_⟩
    · repeat (first | exact same_refl | refine same_upd rfl ?_ | refine same_junk rfl ?_)
    · dsimp only
      exact h.sub (List.Sublist.cons _ (List.Sublist.cons_cons _ (List.Sublist.cons_cons _ (List.Sublist.cons_cons _ (List.Sublist.cons_cons _ (List.Sublist.cons_cons _ (List.Sublist.cons_cons _ (List.nil_sublist _))))))))
end Go.Proofs.Ytkbjcfabbapnpaa
