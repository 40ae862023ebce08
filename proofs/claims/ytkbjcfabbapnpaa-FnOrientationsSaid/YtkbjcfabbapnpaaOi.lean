/- Orientations found arc by arc: the program's. -/
import Derived.Test.YtkbjcfabbapnpaaOr
namespace Go.Proofs.Ytkbjcfabbapnpaa
open Go Go.RowKit Go.Pw
theorem en_i_OrientationOf : Entry Try.prog 6 := ⟨_, Try.func6, by kernel_rfl, rfl⟩
theorem flipL_del {n v u : Nat} {P : Nat → Nat → Bool} (hn : n ≤ 7) (hv : v < n) (hu : u < n) (hvu : v ≠ u) (h1 : P v u = true) (h2 : P u v = true) : flipL (gRows n P) v u = gRows n (remP P v u) := by
  obtain ⟨p1, p2⟩ := gRows_del (P := P) hv hu hvu
  unfold flipL
  rw [gRows_get P hv, (mask_del hn hu h1).1]
  dsimp only
  rw [p1, (mask_del hn hv h2).1, p2]
set_option maxRecDepth 100000 in
set_option maxHeartbeats 16000000 in
theorem i_OrientationOf_c (size : Int) (gv : Value) (rows : List Int) (w : World) (hr : Arr w gv (ints rows)) (hlen : rows.length ≤ 1048576) :
    Gives Try.prog 6 #[.agg #[.int .i64 size, gv]] w (fun v objs => ∃ sv, v = .tuple #[.agg #[sv], .bool (oriX size rows).isSome] ∧ objs = [.row 3 sv (ints (oriL size rows))]) := by
  refine gives_enter (args := [_]) en_i_OrientationOf Try.func6 rfl Try.ntmps6 rfl ?_
  have hrl0 := hr.len
  repeat' (first | apply pwp_seq | apply pwp_region | (apply px_run; (first | (apply opv_assign; first | exact hid_bool rfl)); rfl; rfl) | apply px_nil | apply qseq_normal | (apply px_box; rfl; rfl; rfl; rfl; intro bk) | (apply px_alloc st_O; rfl; rfl; rfl; intro bk))
  rename_i b1
  rename Nat => b2
  refine pwp_join [(4,5),(15,21)] (fun x : Nat × Nat × Value × Value => [(4, .pointer (some ⟨x.1, 0, none⟩)), (5, .pointer (some ⟨x.2.1, 0, none⟩))]) (fun x => Cl [] w [.row 3 x.2.2.1 (ints rows), .row 3 x.2.2.2 (List.replicate rows.length (.int .i64 0)), .blk x.1 [.int .i64 size, x.2.2.1], .blk x.2.1 [x.2.2.2], .blk b2 [.slice none 0 0], .blk b1 [.int .i64 size, gv]]) (fun _ => True) ?_ (fun J x _ => ?_)
  · repeat' (first | (apply px_run; (first | (apply opv_buildO1 bl_O; rfl; (first | exact rd_row 0 rfl | exact rd_row 1 rfl | exact rd_row 2 rfl | exact rd_row 3 rfl)) | (apply opv_field fld_G1; rfl) | (apply opv_load_blk 1; (first | with_reducible exact sc_ints); rfl; rfl; rfl) | (apply opv_len_ints el_int; rfl; (first | exact rd_old (by assumption))) | (apply opv_load_str 1 st_G; rfl; rfl; rfl)); rfl; rfl) | apply px_nil | (apply pwp_region_any [0, 2, 3, 4] [] 7 (Cl [] w [.blk b2 [.slice none 0 0], .blk b1 [.int .i64 size, gv]]); kernel_rfl; decide +kernel; exact Cl.stable _ _ _; exact fun w h => h.sub (by repeat (first | exact List.Sublist.refl _))) | apply qlooks_normal | (apply qstep_in; exact fun w h => h.sub (by repeat (first | exact List.Sublist.refl _ | exact List.sublist_append_right _ _ | apply List.Sublist.cons))) | (apply pxa_nil; decide +kernel) | (apply pxa_one 1; decide +kernel; rfl) | (apply pxa_one 5; decide +kernel; rfl) | (apply pxa_one 6; decide +kernel; rfl) | (apply pxa_one 7; decide +kernel; rfl) | (apply pxa_one 8; decide +kernel; rfl) | (apply pxa_one 9; decide +kernel; rfl) | (apply pxa_one 10; decide +kernel; rfl) | (apply pxa_two 1 5; decide +kernel; rfl; rfl) | (apply pxa_two 1 6; decide +kernel; rfl; rfl) | (apply pxa_two 1 7; decide +kernel; rfl; rfl) | (apply pxa_two 1 8; decide +kernel; rfl; rfl) | (apply pxa_two 5 7; decide +kernel; rfl; rfl) | (apply pxa_two 5 8; decide +kernel; rfl; rfl) | (apply pxa_two 5 9; decide +kernel; rfl; rfl) | (apply pxa_two 6 7; decide +kernel; rfl; rfl) | (apply pxa_two 6 8; decide +kernel; rfl; rfl) | (apply pxa_two 6 9; decide +kernel; rfl; rfl) | (apply pxa_two 7 8; decide +kernel; rfl; rfl) | (apply pxa_three 1 5 7; decide +kernel; rfl; rfl; rfl) | (apply pxa_three 1 5 8; decide +kernel; rfl; rfl; rfl) | (apply pxa_three 1 6 7; decide +kernel; rfl; rfl; rfl) | (apply pxa_three 1 6 8; decide +kernel; rfl; rfl; rfl) | (apply pxa_three 1 7 8; decide +kernel; rfl; rfl; rfl) | (apply pxa_three 5 7 8; decide +kernel; rfl; rfl; rfl) | (apply pxa_three 6 7 8; decide +kernel; rfl; rfl; rfl) | (apply pxa_four 1 5 7 8; decide +kernel; rfl; rfl; rfl; rfl) | (apply pxa_four 1 6 7 8; decide +kernel; rfl; rfl; rfl; rfl) | (apply px_make ez_int; rfl; rfl; rfl; rfl; rfl; omega; (simp only [maxLen]; omega); intro sv) | (apply px_alloc st_G; rfl; rfl; rfl; intro bk) | (apply px_alloc st_O; rfl; rfl; rfl; intro bk) | (apply px_store_str 0 st_G; rfl; rfl; rfl; rfl; rfl; (intro w hw; (first | refine all2 rfl ?_ ?_) <;> (first | rfl | exact stor_row 1 hw rfl | exact stor_row 2 hw rfl | exact stor_row 3 hw rfl)); rfl) | (apply px_store_str 1 st_G; rfl; rfl; rfl; rfl; rfl; (intro w hw; (first | refine all2 rfl ?_ ?_) <;> (first | rfl | exact stor_row 0 hw rfl | exact stor_row 2 hw rfl | exact stor_row 3 hw rfl)); rfl) | (apply px_store_str 2 st_G; rfl; rfl; rfl; rfl; rfl; (intro w hw; (first | refine all2 rfl ?_ ?_) <;> (first | rfl | exact stor_row 0 hw rfl | exact stor_row 1 hw rfl | exact stor_row 3 hw rfl)); rfl) | (apply px_store_str 3 st_G; rfl; rfl; rfl; rfl; rfl; (intro w hw; (first | refine all2 rfl ?_ ?_) <;> (first | rfl | exact stor_row 0 hw rfl | exact stor_row 1 hw rfl | exact stor_row 2 hw rfl)); rfl) | (apply px_store_str 0 st_O; rfl; rfl; rfl; rfl; rfl; (intro w hw; (first | refine all1 rfl ?_) <;> (first | exact stor_row 1 hw rfl | exact stor_row 2 hw rfl | exact stor_row 3 hw rfl)); rfl) | (apply px_store_str 1 st_O; rfl; rfl; rfl; rfl; rfl; (intro w hw; (first | refine all1 rfl ?_) <;> (first | exact stor_row 0 hw rfl | exact stor_row 2 hw rfl | exact stor_row 3 hw rfl)); rfl) | (apply px_store_str 2 st_O; rfl; rfl; rfl; rfl; rfl; (intro w hw; (first | refine all1 rfl ?_) <;> (first | exact stor_row 0 hw rfl | exact stor_row 1 hw rfl | exact stor_row 3 hw rfl)); rfl) | (apply px_store_str 3 st_O; rfl; rfl; rfl; rfl; rfl; (intro w hw; (first | refine all1 rfl ?_) <;> (first | exact stor_row 0 hw rfl | exact stor_row 1 hw rfl | exact stor_row 2 hw rfl)); rfl) | (apply px_gives; rfl; rfl; rfl; rfl; rfl; exact fun w hw => i_copyGraph_c _ _ rows _ (by first | exact hw.arr (by assumption)) hlen; rintro _ _ ⟨lv, rfl, rfl⟩))
    all_goals (
      refine qjoin_normal (by repeat (first | exact same_refl | refine same_upd rfl ?_ | refine same_junk rfl ?_)) ⟨(_, _, _, _), ⟨rfl, rfl, trivial⟩, trivial, fun w' h => Cl.ofSel h (by dsimp only; repeat (first | exact sel_nil | refine sel_cons 0 rfl ?_ | refine sel_cons 1 rfl ?_ | refine sel_cons 2 rfl ?_ | refine sel_cons 3 rfl ?_ | refine sel_cons 4 rfl ?_ | refine sel_cons 5 rfl ?_))⟩)
  obtain ⟨b4, b5, lv, tv⟩ := x
  dsimp only
  by_cases hg : IsG size rows
  case neg =>
    have f1 : oriX size rows = none := if_neg hg
    have f2 : oriL size rows = [] := by unfold oriL; rw [f1]; rfl
    repeat' (first | apply pwp_seq | apply pwp_region | (apply px_run; (first | (apply opv_buildO0 bl_O) | (apply opv_assign; first | exact hid_bool rfl) | (apply opv_not_dec <;> rfl) | (apply opv_load_str 5 st_G; rfl; rfl; rfl) | (apply opv_call; rfl; rfl; exact Cl.stable _ _ _; exact fun w hw => i_IsGraph_c _ _ rows _ (by first | exact hw.arr (by assumption)))); rfl; rfl) | apply px_nil | apply qseq_normal | apply qseq_ret | apply pwp_ret | (apply pwp_cond_ndec; rfl; all_goals (intro hc; try (first | contradiction))) | (apply px_store_str 4 st_O; rfl; rfl; rfl; rfl; rfl; (intro w hw; (first | refine all1 rfl ?_) <;> (first | rfl)); rfl))
    refine qbody_cell_tmp 4 rfl st_O rfl rfl rfl rfl ⟨_, ⟨_, by rw [f1]; rfl, rfl⟩, fun w' h => ?_⟩
    rw [f2]
    exact (h.sub (List.nil_sublist _)).nilRow _
  obtain ⟨n, hn, hrl, hn1, hn7⟩ := isG_size hg
  have hX : oriX size rows = oriF n 50 (bitsP rows) (fun _ _ => false) := by unfold oriX; rw [if_pos hg, hrl]
  have hL : oriL size rows = ((oriX size rows).map (gRows n)).getD [] := by unfold oriL; rw [hrl]
  have hrows := bits_rows hg
  have hsy := bits_sym hg
  have hir := bits_irr hg
  have hel := edgesL_length size rows
  rw [hL]
  generalize oriX size rows = XX at hX ⊢
  rw [hrl] at hrows
  generalize bitsP rows = P0 at *
  subst hn
  rw [hrows] at hg hel hr ⊢
  have hz : List.replicate (gRows n P0).length (Value.int .i64 0) = ints (gRows n (fun _ _ => false)) := by
    rw [gRows_length, gRows_none (fun _ _ _ _ => rfl)]; simp [ints]
  rw [hz]
  have hedge : ∀ (P : Nat → Nat → Bool) (w' : World), Arr w' lv (ints (gRows n P)) → Gives Try.prog 34 #[.agg #[.int .i64 n, lv]] w' (fun v objs => ∃ ps, lssOf ps = edgesL n (gRows n P) ∧ objs = .row 24 v (svsOf ps) :: rowsOb 3 ps) := fun P w' h => i_EdgesOf_c n lv _ w' h
  clear hrows
  repeat' (first | apply pwp_seq | apply pwp_region | (apply px_run; (first | (apply opv_assign; first | rfl) | (apply opv_not_dec <;> rfl) | (apply opv_load_str 2 st_G; rfl; rfl; rfl) | (apply opv_load_str 5 st_G; rfl; rfl; rfl) | (apply opv_call; rfl; rfl; exact Cl.stable _ _ _; exact fun w hw => i_IsGraph_c _ _ (gRows n P0) _ (by first | exact hw.arr (by assumption)))); rfl; rfl) | apply px_nil | apply qseq_normal | apply pwp_block | apply pwp_skip | (apply pwp_cond_ndec; rfl; all_goals (intro hc; try (first | contradiction))) | (apply px_givesT; rfl; rfl; rfl; rfl; rfl; exact fun w hw => hedge P0 _ (hw.rowArr (k := 0) rfl); rintro ve0 _ ⟨es0, hes0, rfl⟩; refine ⟨[_], _, rfl, ?_⟩))
  refine pwp_loop (τ := Value × Pairs × (Nat → Nat → Bool) × (Nat → Nat → Bool) × Nat) [(3,3), (6,10), (12,12), (14,14), (28,102)] (fun x => [(6, x.1)]) (fun x => Cl [] w (.row 24 x.1 (svsOf x.2.1) :: .row 3 lv (ints (gRows n x.2.2.1)) :: .row 3 tv (ints (gRows n x.2.2.2.1)) :: .blk b4 [.int .i64 n, lv] :: .blk b5 [tv] :: .blk b2 [.slice none 0 0] :: .blk b1 [.int .i64 n, gv] :: rowsOb 3 x.2.1))
    (fun x => lssOf x.2.1 = edgesL n (gRows n x.2.2.1) ∧ (∀ i u, x.2.2.1 i u = x.2.2.1 u i) ∧ (∀ i, x.2.2.1 i i = false) ∧ cntP n x.2.2.1 < x.2.2.2.2 ∧ oriF n x.2.2.2.2 x.2.2.1 x.2.2.2.1 = XX) (fun x => cntP n x.2.2.1) (ve0, es0, P0, fun _ _ => false, 50)
    ⟨rfl, trivial⟩ ⟨hes0, hsy, hir, by have := cntP_le n P0; have := Nat.mul_le_mul hn7 hn7; dsimp only; omega, hX.symm⟩ (fun w' h => h) (fun J2 x hx => ?_)
  obtain ⟨ve, es, P, Q, f⟩ := x
  dsimp only at hx ⊢
  obtain ⟨hes, hPs, hPi, hcf, hXX⟩ := hx
  obtain ⟨f, rfl⟩ : ∃ f', f = f' + 1 := ⟨f - 1, by omega⟩
  have hgl := gRows_length n P
  have hgG := gRows_isG hn1 hn7 hPs hPi
  have hel2 := edgesL_length n (gRows n P)
  rw [← hes, lssOf_length] at hel2
  by_cases he0 : 0 < es.length
  case neg =>
    have hnil : edgesL n (gRows n P) = [] := by rw [← hes]; cases es with
      | nil => rfl
      | cons => simp at he0
    have hq : XX = some Q := by rw [← hXX, oriF, hnil]
    rw [hq]
    repeat' (first | apply pwp_seq | apply pwp_region | (apply px_run; (first | (apply opv_move; first | rfl) | (apply opv_assign; first | exact hid_bool rfl) | (apply opv_gtr <;> rfl) | (apply opv_load_str 4 st_O; rfl; rfl; rfl) | (apply opv_len_svs el_intss; rfl; (first | exact rd_row 0 rfl))); rfl; rfl) | apply px_nil | apply qseq_normal | apply qseq_exit | (apply qblock_exit_same; rfl) | apply pwp_exit | apply pwp_ret | apply qround_exit | (apply pwp_cond_dec; rfl; all_goals (intro hc; try (first | (exfalso; omega)))) | (apply px_store_str 5 st_O; rfl; rfl; rfl; rfl; rfl; (intro w hw; (first | refine all1 rfl ?_) <;> (first | exact stor_row 2 hw rfl)); rfl))
    refine qbody_cell_tmp 5 rfl st_O rfl rfl rfl rfl ⟨_, ⟨tv, rfl, rfl⟩, fun w' h => ?_⟩
    exact h.sub (List.Sublist.cons _ (List.Sublist.cons _ (List.Sublist.cons_cons _ (List.nil_sublist _))))
  have he : lsAt es 0 ∈ edgesL n (gRows n P) := by rw [← hes]; exact lsAt_mem he0
  have hR := roundO hn1 hn7 hPi he
  obtain ⟨a, b, hab, hab2, hbn⟩ := hR.arc
  have hedges : edgesL n (gRows n P) = lsAt es 0 :: (lssOf es).drop 1 := by
    rw [← hes]; have := lss_drop he0; rw [List.drop_zero] at this; exact this
  have hstep : XX = if [(lsAt es 0).getD 1 0, (lsAt es 0).getD 0 0] ∈ (forcedA (gRows n P) ((lsAt es 0).getD 0 0) ((lsAt es 0).getD 1 0)).1 then none
      else oriF n f ((forcedA (gRows n P) ((lsAt es 0).getD 0 0) ((lsAt es 0).getD 1 0)).1.foldl remE P) ((forcedA (gRows n P) ((lsAt es 0).getD 0 0) ((lsAt es 0).getD 1 0)).1.foldl addE Q) := by
    rw [← hXX, oriF, hedges]
  have hmem0 : Ob.row 3 (svAt es 0) (ints (lsAt es 0)) ∈ rowsOb 3 es := row_mem he0
  have hll : (lsAt es 0).length = 2 := by rw [hab]; rfl
  have key : ∀ w', Arr w' lv (ints (gRows n P)) → Gives Try.prog 35 #[.agg #[.int .i64 n, lv], .int .i64 ((lsAt es 0).getD 0 0), .int .i64 ((lsAt es 0).getD 1 0)] w' (fun v objs => ∃ sv sf ps, v = .tuple #[sv, sf] ∧ lssOf ps = (forcedA (gRows n P) ((lsAt es 0).getD 0 0) ((lsAt es 0).getD 1 0)).1 ∧ objs = .row 24 sv (svsOf ps) :: .row 3 sf (ints (forcedA (gRows n P) ((lsAt es 0).getD 0 0) ((lsAt es 0).getD 1 0)).2) :: rowsOb 3 ps) := fun w' h => by
    rw [hab]; exact i_forced_c n lv (gRows n P) a b w' h hgG (by omega) (by omega)
  have hRf := hR.forced
  have hRok := hR.ok
  have hRl := hR.less
  clear hR hXX
  generalize forcedA (gRows n P) ((lsAt es 0).getD 0 0) ((lsAt es 0).getD 1 0) = FA at *
  have hbd := hRok.bound hn7
  have hpm := placeA_mem FA.1 [(lsAt es 0).getD 1 0, (lsAt es 0).getD 0 0]
  have hpa : ∀ (vf vg sl : Value) (fs : Pairs) (w' : World), lssOf fs = FA.1 → Cl [] w (.row 3 sl [.int .i64 ((lsAt es 0).getD 1 0), .int .i64 ((lsAt es 0).getD 0 0)] :: .row 24 vf (svsOf fs) :: .row 3 vg (ints FA.2) :: .row 24 ve (svsOf es) :: .row 3 lv (ints (gRows n P)) :: .row 3 tv (ints (gRows n Q)) :: .blk b4 [.int .i64 n, lv] :: .blk b5 [tv] :: .blk b2 [.slice none 0 0] :: .blk b1 [.int .i64 n, gv] :: (rowsOb 3 es ++ rowsOb 3 fs)) w' →
      Pure Try.prog 36 #[vf, sl] w' (.int .i64 (placeA FA.1 [(lsAt es 0).getD 1 0, (lsAt es 0).getD 0 0])) := fun vf vg sl fs w' hfs hw => by
    rw [← hfs]
    have hfl := congrArg List.length hfs
    rw [lssOf_length] at hfl
    exact i_indexOf_c _ _ fs _ _ (hw.arrS 1 rfl fun o ho => by repeat (first | exact List.mem_append_right _ ho | apply List.mem_cons_of_mem)) (by omega) (hw.rowArr (k := 0) rfl)
  by_cases hfound : [(lsAt es 0).getD 1 0, (lsAt es 0).getD 0 0] ∈ FA.1
  · have hq : XX = none := by rw [hstep, if_pos hfound]
    have hp0 := hpm.2 hfound
    rw [hq]
    repeat' (first | apply pwp_seq | apply pwp_region | (apply px_run; (first | (apply opv_buildO0 bl_O) | (apply opv_move; first | exact hid_int rfl | rfl) | (apply opv_assign; first | exact hid_int rfl | exact hid_bool rfl | rfl) | (apply opv_gtr <;> rfl) | (apply opv_geq <;> rfl) | (apply opv_load_ints sc_int; rfl; (first | exact rd_mem (by repeat (first | assumption | apply List.mem_cons_of_mem))); (first | omega)) | (apply opv_index_nat (k := 0) (vs := ints _) el_int; rfl; rfl; (first | exact rd_mem (by repeat (first | assumption | apply List.mem_cons_of_mem))); (first | (simp only [ints_length]; first | omega))) | (apply opv_index_nat (k := 1) (vs := ints _) el_int; rfl; rfl; (first | exact rd_mem (by repeat (first | assumption | apply List.mem_cons_of_mem))); (first | (simp only [ints_length]; first | omega))) | (apply opv_load_str 3 st_G; rfl; rfl; rfl) | (apply opv_index_nat (k := 0) (vs := svsOf _) el_intss; rfl; rfl; (first | exact rd_row 0 rfl); (simp only [svsOf_length]; first | omega)) | (apply opv_load_svs sc_ints; rfl; (first | exact rd_row 0 rfl); omega) | (apply opv_len_svs el_intss; rfl; (first | exact rd_row 0 rfl)) | (apply opv_extract; rfl; rfl) | (apply opv_call; rfl; rfl; exact Cl.stable _ _ _; exact fun w hw => hpa _ _ _ _ _ hfs hw)); rfl; rfl) | apply px_nil | apply qseq_normal | apply qseq_ret | apply pwp_block | apply qblock_ret | apply pwp_skip | apply pwp_ret | apply qround_ret | (apply pwp_region_mix; kernel_rfl; decide +kernel; exact Cl.stable _ _ _) | (apply pwp_cond_dec; rfl; all_goals (intro hc; try (first | contradiction | (exfalso; omega)))) | (apply px_lit2 ez_int; rfl; (intro w hw; (first | rfl)); rfl; (intro w hw; (first | rfl)); rfl; rfl; rfl; intro sv) | (apply px_store_str 8 st_O; rfl; rfl; rfl; rfl; rfl; (intro w hw; (first | refine all1 rfl ?_) <;> (first | rfl)); rfl) | (apply px_givesT; rfl; rfl; rfl; rfl; rfl; exact fun w hw => key _ (by first | exact hw.rowArr (k := 1) rfl); rintro _ _ ⟨vf, vg, fs, rfl, hfs, rfl⟩; refine ⟨[_, _], _, rfl, ?_⟩))
    refine qbody_cell_tmp 8 rfl st_O rfl rfl rfl rfl ⟨_, ⟨_, rfl, rfl⟩, fun w' h => ?_⟩
    exact (h.sub (List.nil_sublist _)).nilRow _
  have hp0 : ¬ 0 ≤ placeA FA.1 [(lsAt es 0).getD 1 0, (lsAt es 0).getD 0 0] := fun h => hfound (hpm.1 h)
  rw [if_neg hfound] at hstep
  repeat' (first | apply pwp_seq | apply pwp_region | (apply px_run; (first | (apply opv_move; first | exact hid_int rfl | rfl) | (apply opv_assign; first | exact hid_int rfl | rfl) | (apply opv_gtr <;> rfl) | (apply opv_geq <;> rfl) | (apply opv_load_ints sc_int; rfl; (first | exact rd_mem (by repeat (first | assumption | apply List.mem_cons_of_mem))); (first | omega)) | (apply opv_index_nat (k := 0) (vs := ints _) el_int; rfl; rfl; (first | exact rd_mem (by repeat (first | assumption | apply List.mem_cons_of_mem))); (first | (simp only [ints_length]; first | omega))) | (apply opv_index_nat (k := 1) (vs := ints _) el_int; rfl; rfl; (first | exact rd_mem (by repeat (first | assumption | apply List.mem_cons_of_mem))); (first | (simp only [ints_length]; first | omega))) | (apply opv_load_str 3 st_G; rfl; rfl; rfl) | (apply opv_index_nat (k := 0) (vs := svsOf _) el_intss; rfl; rfl; (first | exact rd_row 0 rfl); (simp only [svsOf_length]; first | omega)) | (apply opv_load_svs sc_ints; rfl; (first | exact rd_row 0 rfl); omega) | (apply opv_len_svs el_intss; rfl; (first | exact rd_row 0 rfl | exact rd_row 1 rfl)) | (apply opv_extract; rfl; rfl) | (apply opv_call; rfl; rfl; exact Cl.stable _ _ _; exact fun w hw => hpa _ _ _ _ _ hfs hw)); rfl; rfl) | apply px_nil | apply qseq_normal | apply pwp_block | apply pwp_skip | (apply pwp_region_mix; kernel_rfl; decide +kernel; exact Cl.stable _ _ _) | (apply pwp_cond_dec; rfl; all_goals (intro hc; try (first | contradiction | (exfalso; omega)))) | (apply px_lit2 ez_int; rfl; (intro w hw; (first | rfl)); rfl; (intro w hw; (first | rfl)); rfl; rfl; rfl; intro sv) | (apply px_givesT; rfl; rfl; rfl; rfl; rfl; exact fun w hw => key _ (by first | exact hw.rowArr (k := 1) rfl); rintro _ _ ⟨vf, vg, fs, rfl, hfs, rfl⟩; refine ⟨[_, _], _, rfl, ?_⟩))
  have hfl : fs.length = FA.1.length := by rw [← hfs, lssOf_length]
  have hD : ∀ j, j < fs.length → ∃ x y : Nat, (lsAt fs j).getD 0 0 = x ∧ (lsAt fs j).getD 1 0 = y ∧ (lsAt fs j).length = 2 ∧ x < n ∧ y < n ∧ x ≠ y := fun j hj => by
    obtain ⟨⟨x, y, hxy, hx, hy⟩, hne⟩ := hRf (lsAt fs j) (by rw [← hfs]; exact lsAt_mem hj)
    rw [hxy] at hne ⊢
    exact ⟨x, y, rfl, rfl, rfl, hx, hy, hne⟩
  refine pwp_loop (τ := Nat) [(12,12), (59,76)] (fun j => [(59, .int .i64 (j : Int))]) (fun j => Cl [] w (.row 24 vf (svsOf fs) :: .row 3 lv (ints (gRows n P)) :: .row 3 tv (ints (gRows n (orU Q (lssOf fs) j))) :: .blk b4 [.int .i64 n, lv] :: .blk b5 [tv] :: .blk b2 [.slice none 0 0] :: .blk b1 [.int .i64 n, gv] :: rowsOb 3 fs)) (fun j => j ≤ fs.length) (fun j => fs.length - j) 0
    ⟨rfl, trivial⟩ (Nat.zero_le _) (fun w' h => by exact Cl.sub (by assumption) (by repeat (first | exact List.Sublist.slnil | exact List.Sublist.refl _ | apply List.Sublist.cons_cons | exact List.sublist_append_left _ _ | exact List.sublist_append_right _ _ | apply List.Sublist.cons))) (fun J3 j hj => ?_)
  by_cases hlj : j < fs.length
  · obtain ⟨x, y, hx, hy, hl2, hxn, hyn, hxy⟩ := hD j hlj
    have hmj : Ob.row 3 (svAt fs j) (ints (lsAt fs j)) ∈ rowsOb 3 fs := row_mem hlj
    have hql := gRows_length n (orU Q (lssOf fs) j)
    have hor := gRows_or (orU Q (lssOf fs) j) hn7 hxn hyn
    have hsu := orU_succ (Q := Q) (L := lssOf fs) (j := j) (by rw [lssOf_length]; exact hlj)
    rw [lss_getD] at hsu
    have hae : addE (orU Q (lssOf fs) j) (lsAt fs j) = addQ (orU Q (lssOf fs) j) x y := by unfold addE; rw [hx, hy]; rfl
    have d0 : 0 ≤ (lsAt fs j).getD 0 0 ∧ (lsAt fs j).getD 0 0 < n := by omega
    have d1 : 0 ≤ (lsAt fs j).getD 1 0 := by omega
    have e0' : ((lsAt fs j).getD 0 0).toNat = x := by omega
    have hor2 : (gRows n (orU Q (lssOf fs) j)).set ((lsAt fs j).getD 0 0).toNat (ior ((gRows n (orU Q (lssOf fs) j)).getD ((lsAt fs j).getD 0 0).toNat 0) (ishl 1 ((lsAt fs j).getD 1 0))) = gRows n (addQ (orU Q (lssOf fs) j) x y) := by rw [e0', hy]; exact hor
    repeat' (first | apply pwp_seq | apply pwp_region | (apply px_run; (first | (apply opv_move; first | exact hid_int rfl | rfl) | (apply opv_assign; first | rfl) | (apply opv_lss <;> rfl) | (apply opv_or <;> rfl) | (apply opv_add_in; rfl; rfl; omega) | (apply opv_shl; rfl; rfl; omega) | (apply opv_field fld_O0; rfl) | (apply opv_load_blk 4; (first | with_reducible exact sc_int | with_reducible exact sc_ints); rfl; rfl; rfl) | (apply opv_load_ints sc_int; rfl; (first | exact rd_row 2 rfl | exact rd_mem (by repeat (first | assumption | apply List.mem_cons_of_mem))); (first | omega)) | (apply opv_index_nat (k := 0) (vs := ints _) el_int; rfl; rfl; (first | exact rd_mem (by repeat (first | assumption | apply List.mem_cons_of_mem))); (first | (simp only [ints_length]; first | omega))) | (apply opv_index_nat (k := 1) (vs := ints _) el_int; rfl; rfl; (first | exact rd_mem (by repeat (first | assumption | apply List.mem_cons_of_mem))); (first | (simp only [ints_length]; first | omega))) | (apply opv_index (vs := ints _) el_int; rfl; rfl; (first | exact rd_row 2 rfl); omega; (first | (simp only [ints_length]; omega))) | (apply opv_load_svs sc_ints; rfl; (first | exact rd_row 0 rfl); omega) | (apply opv_index_nat (vs := svsOf _) el_intss; rfl; rfl; (first | exact rd_row 0 rfl); (simp only [svsOf_length]; omega))); rfl; rfl) | apply px_nil | apply qseq_normal | apply pwp_block | apply qblock_normal | apply pwp_skip | (apply pwp_region_any [0, 1, 2, 3, 4, 5, 6, 7, 8, 9, 10, 11] [13] 2 (Cl [] w (.row 24 vf (svsOf fs) :: .row 3 lv _ :: .row 3 tv _ :: .blk b4 _ :: .blk b5 _ :: .blk b2 _ :: .blk b1 _ :: rowsOb 3 fs)); kernel_rfl; decide +kernel; exact Cl.stable _ _ _; exact fun w h => h.sub (by repeat (first | exact List.Sublist.refl _))) | apply qlooks_normal | (apply qstep_out; decide +kernel) | (apply qstep_in; exact fun w h => h.sub (by repeat (first | exact List.Sublist.refl _))) | (apply pxa_nil; decide +kernel) | (apply pxa_one 12; decide +kernel; rfl) | (apply pxa_one 13; decide +kernel; rfl) | (apply pwp_cond_dec; rfl; all_goals (intro hc; try (first | (exfalso; omega)))) | (apply px_store_int 2 co_int; rfl; rfl; rfl; (first | omega); rfl))
    refine qround_normal ?_ ⟨j + 1, ⟨rfl, trivial⟩, by omega, by omega, fun w' h => ?_⟩
    · repeat (first | exact same_refl | refine same_upd rfl ?_ | refine same_junk rfl ?_)
    · rw [hsu, hae, ← hor2]
      exact h
  obtain rfl : j = fs.length := by omega
  repeat' (first | apply pwp_seq | apply pwp_region | (apply px_run; (first | (apply opv_move; first | exact hid_int rfl | rfl) | (apply opv_lss <;> rfl) | (apply opv_len_svs el_intss; rfl; (first | exact rd_row 0 rfl))); rfl; rfl) | apply px_nil | apply qseq_normal | apply qseq_exit | apply pwp_block | (apply qblock_exit_same; rfl) | apply pwp_exit | apply qround_exit | (apply pwp_cond_dec; rfl; all_goals (intro hc; try (first | (exfalso; omega)))))
  refine pwp_loop (τ := Nat) [(14,14), (79,102)] (fun j => [(79, .int .i64 (j : Int))]) (fun j => Cl [] w (.row 24 vf (svsOf fs) :: .row 3 lv (ints (gRows n (remU P (lssOf fs) j))) :: .row 3 tv (ints (gRows n (orU Q (lssOf fs) fs.length))) :: .blk b4 [.int .i64 n, lv] :: .blk b5 [tv] :: .blk b2 [.slice none 0 0] :: .blk b1 [.int .i64 n, gv] :: rowsOb 3 fs)) (fun j => j ≤ fs.length) (fun j => fs.length - j) 0
    ⟨rfl, trivial⟩ (Nat.zero_le _) (fun w' h => h) (fun J4 j hj => ?_)
  by_cases hlj2 : j < fs.length
  · obtain ⟨x, y, hx, hy, hl2, hxn, hyn, hxy⟩ := hD j hlj2
    have hmj : Ob.row 3 (svAt fs j) (ints (lsAt fs j)) ∈ rowsOb 3 fs := row_mem hlj2
    have hsu := remU_succ (P := P) (L := lssOf fs) (j := j) (by rw [lssOf_length]; exact hlj2)
    rw [lss_getD] at hsu
    have hPs2 : ∀ i u, remU P (lssOf fs) j i u = remU P (lssOf fs) j u i := remF_sym _ hPs
    have hre : remE (remU P (lssOf fs) j) (lsAt fs j) = remP (remU P (lssOf fs) j) x y := by unfold remE; rw [hx, hy]; rfl
    rw [hre] at hsu
    generalize remU P (lssOf fs) j = P' at *
    have hpl := gRows_length n P'
    have hhas := gRows_has hn7 P' hxn hyn
    have d0 : 0 ≤ (lsAt fs j).getD 0 0 ∧ (lsAt fs j).getD 0 0 < n := by omega
    have d1 : 0 ≤ (lsAt fs j).getD 1 0 := by omega
    have e0 : ((lsAt fs j).getD 0 0).toNat = x := by omega
    have hash : ∀ w', Pure Try.prog 37 #[.int .i64 ((gRows n P').getD ((lsAt fs j).getD 0 0).toNat 0), .int .i64 ((lsAt fs j).getD 1 0)] w' (.bool (P' x y)) := fun w' => by
      have := i_has_c ((gRows n P').getD ((lsAt fs j).getD 0 0).toNat 0) ((lsAt fs j).getD 1 0) w' d1
      rw [e0, hy, hhas] at this
      rw [e0, hy]; exact this
    cases hP' : P' x y with
    | true =>
      have hfd := flipL_del hn7 hxn hyn hxy hP' (by rw [hPs2]; exact hP')
      have flip : ∀ w', Own w' [.row 3 lv (ints (gRows n P'))] → Turns Try.prog 38 #[.agg #[.int .i64 n, lv], .int .i64 ((lsAt fs j).getD 0 0), .int .i64 ((lsAt fs j).getD 1 0)] w' [.row 3 lv (ints (gRows n P'))]
          [.row 3 lv (ints (gRows n (remP P' x y)))] (.tuple #[]) := fun w' h => by
        have := i_flip_c n lv (gRows n P') x y w' h (by omega) (by omega)
        rw [hfd] at this
        rw [hx, hy]; exact this
      rw [hP'] at hash
      repeat' (first | apply pwp_seq | apply pwp_region | (apply px_run; (first | (apply opv_move; first | exact hid_int rfl | rfl) | (apply opv_assign; first | rfl) | (apply opv_lss <;> rfl) | (apply opv_add_in; rfl; rfl; omega) | (apply opv_field fld_G1; rfl) | (apply opv_load_blk 3; (first | with_reducible exact sc_int | with_reducible exact sc_ints); rfl; rfl; rfl) | (apply opv_load_ints sc_int; rfl; (first | exact rd_row 1 rfl | exact rd_mem (by repeat (first | assumption | apply List.mem_cons_of_mem))); (first | omega)) | (apply opv_index_nat (k := 0) (vs := ints _) el_int; rfl; rfl; (first | exact rd_mem (by repeat (first | assumption | apply List.mem_cons_of_mem))); (first | (simp only [ints_length]; first | omega))) | (apply opv_index_nat (k := 1) (vs := ints _) el_int; rfl; rfl; (first | exact rd_mem (by repeat (first | assumption | apply List.mem_cons_of_mem))); (first | (simp only [ints_length]; first | omega))) | (apply opv_index (vs := ints _) el_int; rfl; rfl; (first | exact rd_row 1 rfl); omega; (first | (simp only [ints_length]; omega))) | (apply opv_load_str 3 st_G; rfl; rfl; rfl) | (apply opv_load_svs sc_ints; rfl; (first | exact rd_row 0 rfl); omega) | (apply opv_index_nat (vs := svsOf _) el_intss; rfl; rfl; (first | exact rd_row 0 rfl); (simp only [svsOf_length]; omega)) | (apply opv_call; rfl; rfl; exact Cl.stable _ _ _; exact fun w hw => hash _)); rfl; rfl) | apply px_nil | apply qseq_normal | apply pwp_block | apply qblock_normal | apply pwp_skip | (apply pwp_cond_t; rfl) | (apply pwp_region_any [0, 1, 2, 3, 4, 5, 6] [7] 1 (Cl [] w (.row 24 vf (svsOf fs) :: .row 3 lv _ :: .row 3 tv _ :: .blk b4 _ :: .blk b5 _ :: .blk b2 _ :: .blk b1 _ :: rowsOb 3 fs)); kernel_rfl; decide +kernel; exact Cl.stable _ _ _; exact fun w h => h.sub (by repeat (first | exact List.Sublist.refl _))) | apply qlooks_normal | (apply qstep_out; decide +kernel) | (apply pxa_nil; decide +kernel) | (apply pxa_one 7; decide +kernel; rfl) | (apply pwp_region_mix; kernel_rfl; decide +kernel; exact Cl.stable _ _ _) | (apply pwp_cond_dec; rfl; all_goals (intro hc; try (first | (exfalso; omega)))) | (apply px_turns [1]; rfl; rfl; rfl; rfl; rfl; exact fun w ho => flip _ ho))
      refine qround_normal ?_ ⟨j + 1, ⟨rfl, trivial⟩, by omega, by omega, fun w' h => ?_⟩
      · repeat (first | exact same_refl | refine same_upd rfl ?_ | refine same_junk rfl ?_)
      · rw [hsu]
        exact h.perm (List.Perm.swap _ _ _)
    | false =>
      have hkp := gRows_keep (n := n) hP' (by rw [hPs2]; exact hP')
      rw [hP'] at hash
      repeat' (first | apply pwp_seq | apply pwp_region | (apply px_run; (first | (apply opv_move; first | exact hid_int rfl | rfl) | (apply opv_assign; first | rfl) | (apply opv_lss <;> rfl) | (apply opv_add_in; rfl; rfl; omega) | (apply opv_field fld_G1; rfl) | (apply opv_load_blk 3; (first | with_reducible exact sc_int | with_reducible exact sc_ints); rfl; rfl; rfl) | (apply opv_load_ints sc_int; rfl; (first | exact rd_row 1 rfl | exact rd_mem (by repeat (first | assumption | apply List.mem_cons_of_mem))); (first | omega)) | (apply opv_index_nat (k := 0) (vs := ints _) el_int; rfl; rfl; (first | exact rd_mem (by repeat (first | assumption | apply List.mem_cons_of_mem))); (first | (simp only [ints_length]; first | omega))) | (apply opv_index_nat (k := 1) (vs := ints _) el_int; rfl; rfl; (first | exact rd_mem (by repeat (first | assumption | apply List.mem_cons_of_mem))); (first | (simp only [ints_length]; first | omega))) | (apply opv_index (vs := ints _) el_int; rfl; rfl; (first | exact rd_row 1 rfl); omega; (first | (simp only [ints_length]; omega))) | (apply opv_load_svs sc_ints; rfl; (first | exact rd_row 0 rfl); omega) | (apply opv_index_nat (vs := svsOf _) el_intss; rfl; rfl; (first | exact rd_row 0 rfl); (simp only [svsOf_length]; omega)) | (apply opv_call; rfl; rfl; exact Cl.stable _ _ _; exact fun w hw => hash _)); rfl; rfl) | apply px_nil | apply qseq_normal | apply pwp_block | apply qblock_normal | apply pwp_skip | (apply pwp_cond_f; rfl) | (apply pwp_region_mix; kernel_rfl; decide +kernel; exact Cl.stable _ _ _) | (apply pwp_cond_dec; rfl; all_goals (intro hc; try (first | (exfalso; omega)))))
      refine qround_normal ?_ ⟨j + 1, ⟨rfl, trivial⟩, by omega, by omega, fun w' h => ?_⟩
      · repeat (first | exact same_refl | refine same_upd rfl ?_ | refine same_junk rfl ?_)
      · rw [hsu, ← hkp]
        exact h
  obtain rfl : j = fs.length := by omega
  have hrA : remU P (lssOf fs) fs.length = FA.1.foldl remE P := by unfold remU; rw [List.take_of_length_le (by rw [lssOf_length]; omega), hfs]
  have hoA : orU Q (lssOf fs) fs.length = FA.1.foldl addE Q := by unfold orU; rw [List.take_of_length_le (by rw [lssOf_length]; omega), hfs]
  rw [hrA, hoA]
  repeat' (first | apply pwp_seq | apply pwp_region | (apply px_run; (first | (apply opv_assign; first | rfl) | (apply opv_lss <;> rfl) | (apply opv_load_str 3 st_G; rfl; rfl; rfl)); rfl; rfl) | apply px_nil | apply qseq_normal | apply qseq_exit | apply qblock_normal | (apply qblock_exit_same; rfl) | apply pwp_exit | apply qround_exit | (apply pwp_cond_dec; rfl; all_goals (intro hc; try (first | contradiction))) | (apply px_givesT; rfl; rfl; rfl; rfl; rfl; exact fun w hw => hedge (FA.1.foldl remE P) _ (hw.rowArr (k := 1) rfl); rintro ve2 _ ⟨es2, hes2, rfl⟩; refine ⟨[_], _, rfl, ?_⟩))
  refine qround_normal ?_ ⟨(ve2, es2, FA.1.foldl remE P, FA.1.foldl addE Q, f), ⟨rfl, trivial⟩, ⟨hes2, remF_sym _ hPs, remF_irr hPi, by dsimp only; omega, hstep.symm⟩, hRl, fun w' h => ?_⟩
  · repeat (first | exact same_refl | refine same_upd rfl ?_ | refine same_junk rfl ?_)
  · dsimp only
    exact Cl.sub (by assumption) (by repeat (first | exact List.Sublist.slnil | exact List.Sublist.refl _ | apply List.Sublist.cons_cons | exact List.sublist_append_left _ _ | exact List.sublist_append_right _ _ | apply List.Sublist.cons))
end Go.Proofs.Ytkbjcfabbapnpaa
