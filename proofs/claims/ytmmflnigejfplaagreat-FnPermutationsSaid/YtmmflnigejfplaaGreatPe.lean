import Derived.Test.YtmmflnigejfplaaGreatOr
import Derived.Test.YtmmflnigejfplaaGreatPwPpm
import Derived.Test.YtmmflnigejfplaaGreatKd
import Derived.Test.YtmmflnigejfplaaGreatSl
/- Orientations found arc by arc: the program's. -/
namespace Go.Proofs.YtmmflnigejfplaaGreat
open Go Go.RowKit Go.Pw
theorem en_i_OrientationOf : Entry Tryz.prog 36 := ⟨_, Tryz.func36, by kernel_rfl, rfl⟩
theorem flipL_del {n v u : Nat} {P : Nat → Nat → Bool} (hn : n ≤ 7) (hv : v < n) (hu : u < n) (hvu : v ≠ u) (h1 : P v u = true) (h2 : P u v = true) : flipL (gRows n P) v u = gRows n (remP P v u) := by
  obtain ⟨p1, p2⟩ := gRows_del (P := P) hv hu hvu
  unfold flipL
  rw [gRows_get P hv, (mask_del hn hu h1).1]
  dsimp only
  rw [p1, (mask_del hn hv h2).1, p2]
set_option maxRecDepth 100000 in
set_option maxHeartbeats 16000000 in
theorem i_OrientationOf_c (size : Int) (gv : Value) (rows : List Int) (w : World) (hr : Arr w gv (ints rows)) (hlen : rows.length ≤ 1048576) :
    Gives Tryz.prog 36 #[.agg #[.int .i64 size, gv]] w (fun v objs => ∃ sv, v = .tuple #[.agg #[sv], .bool (oriX size rows).isSome] ∧ objs = [.row 3 sv (ints (oriL size rows))]) := by
  refine gives_enter (args := [_]) en_i_OrientationOf Tryz.func36 rfl Tryz.ntmps36 rfl ?_
  have hrl0 := hr.len
  repeat' (first | apply pwp_seq | apply pwp_region | (apply px_run; (first | (apply opv_assign; first | exact hid_bool rfl)); rfl; rfl) | apply px_nil | apply qseq_normal | (apply px_box; rfl; rfl; rfl; rfl; intro bk) | (apply px_alloc st_O; rfl; rfl; rfl; intro bk))
  rename_i b1
  rename Nat => b2
  refine pwp_join [(4,5),(15,21)] (fun x : Nat × Nat × Value × Value => [(4, .pointer (some ⟨x.1, 0, none⟩)), (5, .pointer (some ⟨x.2.1, 0, none⟩))]) (fun x => Cl [] w [.row 3 x.2.2.1 (ints rows), .row 3 x.2.2.2 (List.replicate rows.length (.int .i64 0)), .blk x.1 [.int .i64 size, x.2.2.1], .blk x.2.1 [x.2.2.2], .blk b2 [.slice none 0 0], .blk b1 [.int .i64 size, gv]]) (fun _ => True) ?_ (fun J x _ => ?_)
  · repeat' (first | (apply px_run; (first | (apply opv_buildO1 bl_O; rfl; (first | exact rd_row 0 rfl | exact rd_row 1 rfl | exact rd_row 2 rfl | exact rd_row 3 rfl)) | (apply opv_field fld_G1; rfl) | (apply opv_load_blk 1; (first | with_reducible exact sc_ints); rfl; rfl; rfl) | (apply opv_len_ints el_int; rfl; (first | exact rd_old (by assumption))) | (apply opv_load_str 1 st_G; rfl; rfl; rfl)); rfl; rfl) | apply px_nil | (apply pwp_region_any [0, 2, 3, 4] [] 7 (Cl [] w [.blk b2 [.slice none 0 0], .blk b1 [.int .i64 size, gv]]); kernel_rfl; decide +kernel; exact Cl.stable _ _ _; exact fun w h => h.sub (by repeat (first | exact List.Sublist.refl _))) | apply qlooks_normal | (apply qstep_in; exact fun w h => h.sub (by repeat (first | exact List.Sublist.refl _ | exact List.sublist_append_right _ _ | apply List.Sublist.cons))) | (apply pxa_nil; decide +kernel) | (apply pxa_one 1; decide +kernel; rfl) | (apply pxa_one 5; decide +kernel; rfl) | (apply pxa_one 6; decide +kernel; rfl) | (apply pxa_one 7; decide +kernel; rfl) | (apply pxa_one 8; decide +kernel; rfl) | (apply pxa_one 9; decide +kernel; rfl) | (apply pxa_one 10; decide +kernel; rfl) | (apply pxa_two 1 5; decide +kernel; rfl; rfl) | (apply pxa_two 1 6; decide +kernel; rfl; rfl) | (apply pxa_two 1 7; decide +kernel; rfl; rfl) | (apply pxa_two 1 8; decide +kernel; rfl; rfl) | (apply pxa_two 5 7; decide +kernel; rfl; rfl) | (apply pxa_two 5 8; decide +kernel; rfl; rfl) | (apply pxa_two 5 9; decide +kernel; rfl; rfl) | (apply pxa_two 6 7; decide +kernel; rfl; rfl) | (apply pxa_two 6 8; decide +kernel; rfl; rfl) | (apply pxa_two 6 9; decide +kernel; rfl; rfl) | (apply pxa_two 7 8; decide +kernel; rfl; rfl) | (apply pxa_three 1 5 7; decide +kernel; rfl; rfl; rfl) | (apply pxa_three 1 5 8; decide +kernel; rfl; rfl; rfl) | (apply pxa_three 1 6 7; decide +kernel; rfl; rfl; rfl) | (apply pxa_three 1 6 8; decide +kernel; rfl; rfl; rfl) | (apply pxa_three 1 7 8; decide +kernel; rfl; rfl; rfl) | (apply pxa_three 5 7 8; decide +kernel; rfl; rfl; rfl) | (apply pxa_three 6 7 8; decide +kernel; rfl; rfl; rfl) | (apply pxa_four 1 5 7 8; decide +kernel; rfl; rfl; rfl; rfl) | (apply pxa_four 1 6 7 8; decide +kernel; rfl; rfl; rfl; rfl) | (apply px_make ez_int; rfl; rfl; rfl; rfl; rfl; omega; (simp only [maxLen]; omega); intro sv) | (apply px_alloc st_G; rfl; rfl; rfl; intro bk) | (apply px_alloc st_O; rfl; rfl; rfl; intro bk) | (apply px_store_str 0 st_G; rfl; rfl; rfl; rfl; rfl; (intro w hw; (first | refine all2 rfl ?_ ?_) <;> (first | rfl | exact stor_row 1 hw rfl | exact stor_row 2 hw rfl | exact stor_row 3 hw rfl)); rfl) | (apply px_store_str 1 st_G; rfl; rfl; rfl; rfl; rfl; (intro w hw; (first | refine all2 rfl ?_ ?_) <;> (first | rfl | exact stor_row 0 hw rfl | exact stor_row 2 hw rfl | exact stor_row 3 hw rfl)); rfl) | (apply px_store_str 2 st_G; rfl; rfl; rfl; rfl; rfl; (intro w hw; (first | refine all2 rfl ?_ ?_) <;> (first | rfl | exact stor_row 0 hw rfl | exact stor_row 1 hw rfl | exact stor_row 3 hw rfl)); rfl) | (apply px_store_str 3 st_G; rfl; rfl; rfl; rfl; rfl; (intro w hw; (first | refine all2 rfl ?_ ?_) <;> (first | rfl | exact stor_row 0 hw rfl | exact stor_row 1 hw rfl | exact stor_row 2 hw rfl)); rfl) | (apply px_store_str 0 st_O; rfl; rfl; rfl; rfl; rfl; (intro w hw; (first | refine all1 rfl ?_) <;> (first | exact stor_row 1 hw rfl | exact stor_row 2 hw rfl | exact stor_row 3 hw rfl)); rfl) | (apply px_store_str 1 st_O; rfl; rfl; rfl; rfl; rfl; (intro w hw; (first | refine all1 rfl ?_) <;> (first | exact stor_row 0 hw rfl | exact stor_row 2 hw rfl | exact stor_row 3 hw rfl)); rfl) | (apply px_store_str 2 st_O; rfl; rfl; rfl; rfl; rfl; (intro w hw; (first | refine all1 rfl ?_) <;> (first | exact stor_row 0 hw rfl | exact stor_row 1 hw rfl | exact stor_row 3 hw rfl)); rfl) | (apply px_store_str 3 st_O; rfl; rfl; rfl; rfl; rfl; (intro w hw; (first | refine all1 rfl ?_) <;> (first | exact stor_row 0 hw rfl | exact stor_row 1 hw rfl | exact stor_row 2 hw rfl)); rfl) | (apply px_gives; rfl; rfl; rfl; rfl; rfl; exact fun w hw => i_copyGraph_c _ _ rows _ (by first | exact hw.arr (by assumption)) hlen; rintro _ _ ⟨lv, rfl, rfl⟩))
    all_goals (
      refine qjoin_normal (by repeat (first | exact same_refl | refine same_upd rfl ?_ | refine same_junk rfl ?_)) ⟨(_, _, _, _), ⟨rfl, rfl, trivial⟩, trivial, fun w' h => Cl.ofSel h (by dsimp only; repeat (first | exact sel_nil | refine sel_cons 0 rfl ?_ | refine sel_cons 1 rfl ?_ | refine sel_cons 2 rfl ?_ | refine sel_cons 3 rfl ?_ | refine sel_cons 4 rfl ?_ | refine sel_cons 5 rfl ?_))⟩)
  obtain ⟨b4, b5, lv, tv⟩ := x
  dsimp only
  by_cases hg : IsG size rows
  case neg =>
    have f1 : oriX size rows = none := if_neg hg
    have f2 : oriL size rows = [] := by unfold oriL; rw [f1]; rfl
    repeat' (first | apply pwp_seq | apply pwp_region | (apply px_run; (first | (apply opv_buildO0 bl_O) | (apply opv_assign; first | exact hid_bool rfl) | (apply opv_not_dec <;> rfl) | (apply opv_load_str 5 st_G; rfl; rfl; rfl) | (apply opv_call; rfl; rfl; exact Cl.stable _ _ _; exact fun w hw => i_IsGraph_c _ _ rows _ (by first | exact hw.arr (by assumption)))); rfl; rfl) | apply px_nil | apply qseq_normal | apply qseq_ret | apply pwp_ret | (apply pwp_cond_ndec; rfl; all_goals (intro hc; try (first | contradiction))) | (apply px_store_str 4 st_O; rfl; rfl; rfl; rfl; rfl; (intro w hw; (first | refine all1 rfl ?_) <;> (first | rfl)); rfl))
    refine qbody_cell_tmp 4 rfl st_O rfl rfl rfl rfl ⟨_, ⟨_, by rw [f1]; rfl, rfl⟩, fun w' h => ?_⟩
    rw [f2]
    exact (h.sub (List.nil_sublist _)).nilRow _
  obtain ⟨n, hn, hrl, hn1, hn7⟩ := isG_size hg
  have hX : oriX size rows = oriF n 50 (bitsP rows) (fun _ _ => false) := by unfold oriX; rw [if_pos hg, hrl]
  have hL : oriL size rows = ((oriX size rows).map (gRows n)).getD [] := by unfold oriL; rw [hrl]
  have hrows := bits_rows hg
  have hsy := bits_sym hg
  have hir := bits_irr hg
  have hel := edgesL_length size rows
  rw [hL]
  generalize oriX size rows = XX at hX ⊢
  rw [hrl] at hrows
  generalize bitsP rows = P0 at *
  subst hn
  rw [hrows] at hg hel hr ⊢
  have hz : List.replicate (gRows n P0).length (Value.int .i64 0) = ints (gRows n (fun _ _ => false)) := by
    rw [gRows_length, gRows_none (fun _ _ _ _ => rfl)]; simp [ints]
  rw [hz]
  have hedge : ∀ (P : Nat → Nat → Bool) (w' : World), Arr w' lv (ints (gRows n P)) → Gives Tryz.prog 70 #[.agg #[.int .i64 n, lv]] w' (fun v objs => ∃ ps, lssOf ps = edgesL n (gRows n P) ∧ objs = .row 24 v (svsOf ps) :: rowsOb 3 ps) := fun P w' h => i_EdgesOf_c n lv _ w' h
  clear hrows
  repeat' (first | apply pwp_seq | apply pwp_region | (apply px_run; (first | (apply opv_assign; first | rfl) | (apply opv_not_dec <;> rfl) | (apply opv_load_str 2 st_G; rfl; rfl; rfl) | (apply opv_load_str 5 st_G; rfl; rfl; rfl) | (apply opv_call; rfl; rfl; exact Cl.stable _ _ _; exact fun w hw => i_IsGraph_c _ _ (gRows n P0) _ (by first | exact hw.arr (by assumption)))); rfl; rfl) | apply px_nil | apply qseq_normal | apply pwp_block | apply pwp_skip | (apply pwp_cond_ndec; rfl; all_goals (intro hc; try (first | contradiction))) | (apply px_givesT; rfl; rfl; rfl; rfl; rfl; exact fun w hw => hedge P0 _ (hw.rowArr (k := 0) rfl); rintro ve0 _ ⟨es0, hes0, rfl⟩; refine ⟨[_], _, rfl, ?_⟩))
  refine pwp_loop (τ := Value × Pairs × (Nat → Nat → Bool) × (Nat → Nat → Bool) × Nat) [(3,3), (6,10), (12,12), (14,14), (28,102)] (fun x => [(6, x.1)]) (fun x => Cl [] w (.row 24 x.1 (svsOf x.2.1) :: .row 3 lv (ints (gRows n x.2.2.1)) :: .row 3 tv (ints (gRows n x.2.2.2.1)) :: .blk b4 [.int .i64 n, lv] :: .blk b5 [tv] :: .blk b2 [.slice none 0 0] :: .blk b1 [.int .i64 n, gv] :: rowsOb 3 x.2.1))
    (fun x => lssOf x.2.1 = edgesL n (gRows n x.2.2.1) ∧ (∀ i u, x.2.2.1 i u = x.2.2.1 u i) ∧ (∀ i, x.2.2.1 i i = false) ∧ cntP n x.2.2.1 < x.2.2.2.2 ∧ oriF n x.2.2.2.2 x.2.2.1 x.2.2.2.1 = XX) (fun x => cntP n x.2.2.1) (ve0, es0, P0, fun _ _ => false, 50)
    ⟨rfl, trivial⟩ ⟨hes0, hsy, hir, by have := cntP_le n P0; have := Nat.mul_le_mul hn7 hn7; dsimp only; omega, hX.symm⟩ (fun w' h => h) (fun J2 x hx => ?_)
  obtain ⟨ve, es, P, Q, f⟩ := x
  dsimp only at hx ⊢
  obtain ⟨hes, hPs, hPi, hcf, hXX⟩ := hx
  obtain ⟨f, rfl⟩ : ∃ f', f = f' + 1 := ⟨f - 1, by omega⟩
  have hgl := gRows_length n P
  have hgG := gRows_isG hn1 hn7 hPs hPi
  have hel2 := edgesL_length n (gRows n P)
  rw [← hes, lssOf_length] at hel2
  by_cases he0 : 0 < es.length
  case neg =>
    have hnil : edgesL n (gRows n P) = [] := by rw [← hes]; cases es with
      | nil => rfl
      | cons => simp at he0
    have hq : XX = some Q := by rw [← hXX, oriF, hnil]
    rw [hq]
    repeat' (first | apply pwp_seq | apply pwp_region | (apply px_run; (first | (apply opv_move; first | rfl) | (apply opv_assign; first | exact hid_bool rfl) | (apply opv_gtr <;> rfl) | (apply opv_load_str 4 st_O; rfl; rfl; rfl) | (apply opv_len_svs el_intss; rfl; (first | exact rd_row 0 rfl))); rfl; rfl) | apply px_nil | apply qseq_normal | apply qseq_exit | (apply qblock_exit_same; rfl) | apply pwp_exit | apply pwp_ret | apply qround_exit | (apply pwp_cond_dec; rfl; all_goals (intro hc; try (first | (exfalso; omega)))) | (apply px_store_str 5 st_O; rfl; rfl; rfl; rfl; rfl; (intro w hw; (first | refine all1 rfl ?_) <;> (first | exact stor_row 2 hw rfl)); rfl))
    refine qbody_cell_tmp 5 rfl st_O rfl rfl rfl rfl ⟨_, ⟨tv, rfl, rfl⟩, fun w' h => ?_⟩
    exact h.sub (List.Sublist.cons _ (List.Sublist.cons _ (List.Sublist.cons_cons _ (List.nil_sublist _))))
  have he : lsAt es 0 ∈ edgesL n (gRows n P) := by rw [← hes]; exact lsAt_mem he0
  have hR := roundO hn1 hn7 hPi he
  obtain ⟨a, b, hab, hab2, hbn⟩ := hR.arc
  have hedges : edgesL n (gRows n P) = lsAt es 0 :: (lssOf es).drop 1 := by
    rw [← hes]; have := lss_drop he0; rw [List.drop_zero] at this; exact this
  have hstep : XX = if [(lsAt es 0).getD 1 0, (lsAt es 0).getD 0 0] ∈ (forcedA (gRows n P) ((lsAt es 0).getD 0 0) ((lsAt es 0).getD 1 0)).1 then none
      else oriF n f ((forcedA (gRows n P) ((lsAt es 0).getD 0 0) ((lsAt es 0).getD 1 0)).1.foldl remE P) ((forcedA (gRows n P) ((lsAt es 0).getD 0 0) ((lsAt es 0).getD 1 0)).1.foldl addE Q) := by
    rw [← hXX, oriF, hedges]
  have hmem0 : Ob.row 3 (svAt es 0) (ints (lsAt es 0)) ∈ rowsOb 3 es := row_mem he0
  have hll : (lsAt es 0).length = 2 := by rw [hab]; rfl
  have key : ∀ w', Arr w' lv (ints (gRows n P)) → Gives Tryz.prog 71 #[.agg #[.int .i64 n, lv], .int .i64 ((lsAt es 0).getD 0 0), .int .i64 ((lsAt es 0).getD 1 0)] w' (fun v objs => ∃ sv sf ps, v = .tuple #[sv, sf] ∧ lssOf ps = (forcedA (gRows n P) ((lsAt es 0).getD 0 0) ((lsAt es 0).getD 1 0)).1 ∧ objs = .row 24 sv (svsOf ps) :: .row 3 sf (ints (forcedA (gRows n P) ((lsAt es 0).getD 0 0) ((lsAt es 0).getD 1 0)).2) :: rowsOb 3 ps) := fun w' h => by
    rw [hab]; exact i_forced_c n lv (gRows n P) a b w' h hgG (by omega) (by omega)
  have hRf := hR.forced
  have hRok := hR.ok
  have hRl := hR.less
  clear hR hXX
  generalize forcedA (gRows n P) ((lsAt es 0).getD 0 0) ((lsAt es 0).getD 1 0) = FA at *
  have hbd := hRok.bound hn7
  have hpm := placeA_mem FA.1 [(lsAt es 0).getD 1 0, (lsAt es 0).getD 0 0]
  have hpa : ∀ (vf vg sl : Value) (fs : Pairs) (w' : World), lssOf fs = FA.1 → Cl [] w (.row 3 sl [.int .i64 ((lsAt es 0).getD 1 0), .int .i64 ((lsAt es 0).getD 0 0)] :: .row 24 vf (svsOf fs) :: .row 3 vg (ints FA.2) :: .row 24 ve (svsOf es) :: .row 3 lv (ints (gRows n P)) :: .row 3 tv (ints (gRows n Q)) :: .blk b4 [.int .i64 n, lv] :: .blk b5 [tv] :: .blk b2 [.slice none 0 0] :: .blk b1 [.int .i64 n, gv] :: (rowsOb 3 es ++ rowsOb 3 fs)) w' →
      Pure Tryz.prog 72 #[vf, sl] w' (.int .i64 (placeA FA.1 [(lsAt es 0).getD 1 0, (lsAt es 0).getD 0 0])) := fun vf vg sl fs w' hfs hw => by
    rw [← hfs]
    have hfl := congrArg List.length hfs
    rw [lssOf_length] at hfl
    exact i_indexOf_c _ _ fs _ _ (hw.arrS 1 rfl fun o ho => by repeat (first | exact List.mem_append_right _ ho | apply List.mem_cons_of_mem)) (by omega) (hw.rowArr (k := 0) rfl)
  by_cases hfound : [(lsAt es 0).getD 1 0, (lsAt es 0).getD 0 0] ∈ FA.1
  · have hq : XX = none := by rw [hstep, if_pos hfound]
    have hp0 := hpm.2 hfound
    rw [hq]
    repeat' (first | apply pwp_seq | apply pwp_region | (apply px_run; (first | (apply opv_buildO0 bl_O) | (apply opv_move; first | exact hid_int rfl | rfl) | (apply opv_assign; first | exact hid_int rfl | exact hid_bool rfl | rfl) | (apply opv_gtr <;> rfl) | (apply opv_geq <;> rfl) | (apply opv_load_ints sc_int; rfl; (first | exact rd_mem (by repeat (first | assumption | apply List.mem_cons_of_mem))); (first | omega)) | (apply opv_index_nat (k := 0) (vs := ints _) el_int; rfl; rfl; (first | exact rd_mem (by repeat (first | assumption | apply List.mem_cons_of_mem))); (first | (simp only [ints_length]; first | omega))) | (apply opv_index_nat (k := 1) (vs := ints _) el_int; rfl; rfl; (first | exact rd_mem (by repeat (first | assumption | apply List.mem_cons_of_mem))); (first | (simp only [ints_length]; first | omega))) | (apply opv_load_str 3 st_G; rfl; rfl; rfl) | (apply opv_index_nat (k := 0) (vs := svsOf _) el_intss; rfl; rfl; (first | exact rd_row 0 rfl); (simp only [svsOf_length]; first | omega)) | (apply opv_load_svs sc_ints; rfl; (first | exact rd_row 0 rfl); omega) | (apply opv_len_svs el_intss; rfl; (first | exact rd_row 0 rfl)) | (apply opv_extract; rfl; rfl) | (apply opv_call; rfl; rfl; exact Cl.stable _ _ _; exact fun w hw => hpa _ _ _ _ _ hfs hw)); rfl; rfl) | apply px_nil | apply qseq_normal | apply qseq_ret | apply pwp_block | apply qblock_ret | apply pwp_skip | apply pwp_ret | apply qround_ret | (apply pwp_region_mix; kernel_rfl; decide +kernel; exact Cl.stable _ _ _) | (apply pwp_cond_dec; rfl; all_goals (intro hc; try (first | contradiction | (exfalso; omega)))) | (apply px_lit2 ez_int; rfl; (intro w hw; (first | rfl)); rfl; (intro w hw; (first | rfl)); rfl; rfl; rfl; intro sv) | (apply px_store_str 8 st_O; rfl; rfl; rfl; rfl; rfl; (intro w hw; (first | refine all1 rfl ?_) <;> (first | rfl)); rfl) | (apply px_givesT; rfl; rfl; rfl; rfl; rfl; exact fun w hw => key _ (by first | exact hw.rowArr (k := 1) rfl); rintro _ _ ⟨vf, vg, fs, rfl, hfs, rfl⟩; refine ⟨[_, _], _, rfl, ?_⟩))
    refine qbody_cell_tmp 8 rfl st_O rfl rfl rfl rfl ⟨_, ⟨_, rfl, rfl⟩, fun w' h => ?_⟩
    exact (h.sub (List.nil_sublist _)).nilRow _
  have hp0 : ¬ 0 ≤ placeA FA.1 [(lsAt es 0).getD 1 0, (lsAt es 0).getD 0 0] := fun h => hfound (hpm.1 h)
  rw [if_neg hfound] at hstep
  repeat' (first | apply pwp_seq | apply pwp_region | (apply px_run; (first | (apply opv_move; first | exact hid_int rfl | rfl) | (apply opv_assign; first | exact hid_int rfl | rfl) | (apply opv_gtr <;> rfl) | (apply opv_geq <;> rfl) | (apply opv_load_ints sc_int; rfl; (first | exact rd_mem (by repeat (first | assumption | apply List.mem_cons_of_mem))); (first | omega)) | (apply opv_index_nat (k := 0) (vs := ints _) el_int; rfl; rfl; (first | exact rd_mem (by repeat (first | assumption | apply List.mem_cons_of_mem))); (first | (simp only [ints_length]; first | omega))) | (apply opv_index_nat (k := 1) (vs := ints _) el_int; rfl; rfl; (first | exact rd_mem (by repeat (first | assumption | apply List.mem_cons_of_mem))); (first | (simp only [ints_length]; first | omega))) | (apply opv_load_str 3 st_G; rfl; rfl; rfl) | (apply opv_index_nat (k := 0) (vs := svsOf _) el_intss; rfl; rfl; (first | exact rd_row 0 rfl); (simp only [svsOf_length]; first | omega)) | (apply opv_load_svs sc_ints; rfl; (first | exact rd_row 0 rfl); omega) | (apply opv_len_svs el_intss; rfl; (first | exact rd_row 0 rfl | exact rd_row 1 rfl)) | (apply opv_extract; rfl; rfl) | (apply opv_call; rfl; rfl; exact Cl.stable _ _ _; exact fun w hw => hpa _ _ _ _ _ hfs hw)); rfl; rfl) | apply px_nil | apply qseq_normal | apply pwp_block | apply pwp_skip | (apply pwp_region_mix; kernel_rfl; decide +kernel; exact Cl.stable _ _ _) | (apply pwp_cond_dec; rfl; all_goals (intro hc; try (first | contradiction | (exfalso; omega)))) | (apply px_lit2 ez_int; rfl; (intro w hw; (first | rfl)); rfl; (intro w hw; (first | rfl)); rfl; rfl; rfl; intro sv) | (apply px_givesT; rfl; rfl; rfl; rfl; rfl; exact fun w hw => key _ (by first | exact hw.rowArr (k := 1) rfl); rintro _ _ ⟨vf, vg, fs, rfl, hfs, rfl⟩; refine ⟨[_, _], _, rfl, ?_⟩))
  have hfl : fs.length = FA.1.length := by rw [← hfs, lssOf_length]
  have hD : ∀ j, j < fs.length → ∃ x y : Nat, (lsAt fs j).getD 0 0 = x ∧ (lsAt fs j).getD 1 0 = y ∧ (lsAt fs j).length = 2 ∧ x < n ∧ y < n ∧ x ≠ y := fun j hj => by
    obtain ⟨⟨x, y, hxy, hx, hy⟩, hne⟩ := hRf (lsAt fs j) (by rw [← hfs]; exact lsAt_mem hj)
    rw [hxy] at hne ⊢
    exact ⟨x, y, rfl, rfl, rfl, hx, hy, hne⟩
  refine pwp_loop (τ := Nat) [(12,12), (59,76)] (fun j => [(59, .int .i64 (j : Int))]) (fun j => Cl [] w (.row 24 vf (svsOf fs) :: .row 3 lv (ints (gRows n P)) :: .row 3 tv (ints (gRows n (orU Q (lssOf fs) j))) :: .blk b4 [.int .i64 n, lv] :: .blk b5 [tv] :: .blk b2 [.slice none 0 0] :: .blk b1 [.int .i64 n, gv] :: rowsOb 3 fs)) (fun j => j ≤ fs.length) (fun j => fs.length - j) 0
    ⟨rfl, trivial⟩ (Nat.zero_le _) (fun w' h => by exact Cl.sub (by assumption) (by repeat (first | exact List.Sublist.slnil | exact List.Sublist.refl _ | apply List.Sublist.cons_cons | exact List.sublist_append_left _ _ | exact List.sublist_append_right _ _ | apply List.Sublist.cons))) (fun J3 j hj => ?_)
  by_cases hlj : j < fs.length
  · obtain ⟨x, y, hx, hy, hl2, hxn, hyn, hxy⟩ := hD j hlj
    have hmj : Ob.row 3 (svAt fs j) (ints (lsAt fs j)) ∈ rowsOb 3 fs := row_mem hlj
    have hql := gRows_length n (orU Q (lssOf fs) j)
    have hor := gRows_or (orU Q (lssOf fs) j) hn7 hxn hyn
    have hsu := orU_succ (Q := Q) (L := lssOf fs) (j := j) (by rw [lssOf_length]; exact hlj)
    rw [lss_getD] at hsu
    have hae : addE (orU Q (lssOf fs) j) (lsAt fs j) = addQ (orU Q (lssOf fs) j) x y := by unfold addE; rw [hx, hy]; rfl
    have d0 : 0 ≤ (lsAt fs j).getD 0 0 ∧ (lsAt fs j).getD 0 0 < n := by omega
    have d1 : 0 ≤ (lsAt fs j).getD 1 0 := by omega
    have e0' : ((lsAt fs j).getD 0 0).toNat = x := by omega
    have hor2 : (gRows n (orU Q (lssOf fs) j)).set ((lsAt fs j).getD 0 0).toNat (ior ((gRows n (orU Q (lssOf fs) j)).getD ((lsAt fs j).getD 0 0).toNat 0) (ishl 1 ((lsAt fs j).getD 1 0))) = gRows n (addQ (orU Q (lssOf fs) j) x y) := by rw [e0', hy]; exact hor
    repeat' (first | apply pwp_seq | apply pwp_region | (apply px_run; (first | (apply opv_move; first | exact hid_int rfl | rfl) | (apply opv_assign; first | rfl) | (apply opv_lss <;> rfl) | (apply opv_or <;> rfl) | (apply opv_add_in; rfl; rfl; omega) | (apply opv_shl; rfl; rfl; omega) | (apply opv_field fld_O0; rfl) | (apply opv_load_blk 4; (first | with_reducible exact sc_int | with_reducible exact sc_ints); rfl; rfl; rfl) | (apply opv_load_ints sc_int; rfl; (first | exact rd_row 2 rfl | exact rd_mem (by repeat (first | assumption | apply List.mem_cons_of_mem))); (first | omega)) | (apply opv_index_nat (k := 0) (vs := ints _) el_int; rfl; rfl; (first | exact rd_mem (by repeat (first | assumption | apply List.mem_cons_of_mem))); (first | (simp only [ints_length]; first | omega))) | (apply opv_index_nat (k := 1) (vs := ints _) el_int; rfl; rfl; (first | exact rd_mem (by repeat (first | assumption | apply List.mem_cons_of_mem))); (first | (simp only [ints_length]; first | omega))) | (apply opv_index (vs := ints _) el_int; rfl; rfl; (first | exact rd_row 2 rfl); omega; (first | (simp only [ints_length]; omega))) | (apply opv_load_svs sc_ints; rfl; (first | exact rd_row 0 rfl); omega) | (apply opv_index_nat (vs := svsOf _) el_intss; rfl; rfl; (first | exact rd_row 0 rfl); (simp only [svsOf_length]; omega))); rfl; rfl) | apply px_nil | apply qseq_normal | apply pwp_block | apply qblock_normal | apply pwp_skip | (apply pwp_region_any [0, 1, 2, 3, 4, 5, 6, 7, 8, 9, 10, 11] [13] 2 (Cl [] w (.row 24 vf (svsOf fs) :: .row 3 lv _ :: .row 3 tv _ :: .blk b4 _ :: .blk b5 _ :: .blk b2 _ :: .blk b1 _ :: rowsOb 3 fs)); kernel_rfl; decide +kernel; exact Cl.stable _ _ _; exact fun w h => h.sub (by repeat (first | exact List.Sublist.refl _))) | apply qlooks_normal | (apply qstep_out; decide +kernel) | (apply qstep_in; exact fun w h => h.sub (by repeat (first | exact List.Sublist.refl _))) | (apply pxa_nil; decide +kernel) | (apply pxa_one 12; decide +kernel; rfl) | (apply pxa_one 13; decide +kernel; rfl) | (apply pwp_cond_dec; rfl; all_goals (intro hc; try (first | (exfalso; omega)))) | (apply px_store_int 2 co_int; rfl; rfl; rfl; (first | omega); rfl))
    refine qround_normal ?_ ⟨j + 1, ⟨rfl, trivial⟩, by omega, by omega, fun w' h => ?_⟩
    · repeat (first | exact same_refl | refine same_upd rfl ?_ | refine same_junk rfl ?_)
    · rw [hsu, hae, ← hor2]
      exact h
  obtain rfl : j = fs.length := by omega
  repeat' (first | apply pwp_seq | apply pwp_region | (apply px_run; (first | (apply opv_move; first | exact hid_int rfl | rfl) | (apply opv_lss <;> rfl) | (apply opv_len_svs el_intss; rfl; (first | exact rd_row 0 rfl))); rfl; rfl) | apply px_nil | apply qseq_normal | apply qseq_exit | apply pwp_block | (apply qblock_exit_same; rfl) | apply pwp_exit | apply qround_exit | (apply pwp_cond_dec; rfl; all_goals (intro hc; try (first | (exfalso; omega)))))
  refine pwp_loop (τ := Nat) [(14,14), (79,102)] (fun j => [(79, .int .i64 (j : Int))]) (fun j => Cl [] w (.row 24 vf (svsOf fs) :: .row 3 lv (ints (gRows n (remU P (lssOf fs) j))) :: .row 3 tv (ints (gRows n (orU Q (lssOf fs) fs.length))) :: .blk b4 [.int .i64 n, lv] :: .blk b5 [tv] :: .blk b2 [.slice none 0 0] :: .blk b1 [.int .i64 n, gv] :: rowsOb 3 fs)) (fun j => j ≤ fs.length) (fun j => fs.length - j) 0
    ⟨rfl, trivial⟩ (Nat.zero_le _) (fun w' h => h) (fun J4 j hj => ?_)
  by_cases hlj2 : j < fs.length
  · obtain ⟨x, y, hx, hy, hl2, hxn, hyn, hxy⟩ := hD j hlj2
    have hmj : Ob.row 3 (svAt fs j) (ints (lsAt fs j)) ∈ rowsOb 3 fs := row_mem hlj2
    have hsu := remU_succ (P := P) (L := lssOf fs) (j := j) (by rw [lssOf_length]; exact hlj2)
    rw [lss_getD] at hsu
    have hPs2 : ∀ i u, remU P (lssOf fs) j i u = remU P (lssOf fs) j u i := remF_sym _ hPs
    have hre : remE (remU P (lssOf fs) j) (lsAt fs j) = remP (remU P (lssOf fs) j) x y := by unfold remE; rw [hx, hy]; rfl
    rw [hre] at hsu
    generalize remU P (lssOf fs) j = P' at *
    have hpl := gRows_length n P'
    have hhas := gRows_has hn7 P' hxn hyn
    have d0 : 0 ≤ (lsAt fs j).getD 0 0 ∧ (lsAt fs j).getD 0 0 < n := by omega
    have d1 : 0 ≤ (lsAt fs j).getD 1 0 := by omega
    have e0 : ((lsAt fs j).getD 0 0).toNat = x := by omega
    have hash : ∀ w', Pure Tryz.prog 44 #[.int .i64 ((gRows n P').getD ((lsAt fs j).getD 0 0).toNat 0), .int .i64 ((lsAt fs j).getD 1 0)] w' (.bool (P' x y)) := fun w' => by
      have := i_has_c ((gRows n P').getD ((lsAt fs j).getD 0 0).toNat 0) ((lsAt fs j).getD 1 0) w' d1
      rw [e0, hy, hhas] at this
      rw [e0, hy]; exact this
    cases hP' : P' x y with
    | true =>
      have hfd := flipL_del hn7 hxn hyn hxy hP' (by rw [hPs2]; exact hP')
      have flip : ∀ w', Own w' [.row 3 lv (ints (gRows n P'))] → Turns Tryz.prog 73 #[.agg #[.int .i64 n, lv], .int .i64 ((lsAt fs j).getD 0 0), .int .i64 ((lsAt fs j).getD 1 0)] w' [.row 3 lv (ints (gRows n P'))]
          [.row 3 lv (ints (gRows n (remP P' x y)))] (.tuple #[]) := fun w' h => by
        have := i_flip_c n lv (gRows n P') x y w' h (by omega) (by omega)
        rw [hfd] at this
        rw [hx, hy]; exact this
      rw [hP'] at hash
      repeat' (first | apply pwp_seq | apply pwp_region | (apply px_run; (first | (apply opv_move; first | exact hid_int rfl | rfl) | (apply opv_assign; first | rfl) | (apply opv_lss <;> rfl) | (apply opv_add_in; rfl; rfl; omega) | (apply opv_field fld_G1; rfl) | (apply opv_load_blk 3; (first | with_reducible exact sc_int | with_reducible exact sc_ints); rfl; rfl; rfl) | (apply opv_load_ints sc_int; rfl; (first | exact rd_row 1 rfl | exact rd_mem (by repeat (first | assumption | apply List.mem_cons_of_mem))); (first | omega)) | (apply opv_index_nat (k := 0) (vs := ints _) el_int; rfl; rfl; (first | exact rd_mem (by repeat (first | assumption | apply List.mem_cons_of_mem))); (first | (simp only [ints_length]; first | omega))) | (apply opv_index_nat (k := 1) (vs := ints _) el_int; rfl; rfl; (first | exact rd_mem (by repeat (first | assumption | apply List.mem_cons_of_mem))); (first | (simp only [ints_length]; first | omega))) | (apply opv_index (vs := ints _) el_int; rfl; rfl; (first | exact rd_row 1 rfl); omega; (first | (simp only [ints_length]; omega))) | (apply opv_load_str 3 st_G; rfl; rfl; rfl) | (apply opv_load_svs sc_ints; rfl; (first | exact rd_row 0 rfl); omega) | (apply opv_index_nat (vs := svsOf _) el_intss; rfl; rfl; (first | exact rd_row 0 rfl); (simp only [svsOf_length]; omega)) | (apply opv_call; rfl; rfl; exact Cl.stable _ _ _; exact fun w hw => hash _)); rfl; rfl) | apply px_nil | apply qseq_normal | apply pwp_block | apply qblock_normal | apply pwp_skip | (apply pwp_cond_t; rfl) | (apply pwp_region_any [0, 1, 2, 3, 4, 5, 6] [7] 1 (Cl [] w (.row 24 vf (svsOf fs) :: .row 3 lv _ :: .row 3 tv _ :: .blk b4 _ :: .blk b5 _ :: .blk b2 _ :: .blk b1 _ :: rowsOb 3 fs)); kernel_rfl; decide +kernel; exact Cl.stable _ _ _; exact fun w h => h.sub (by repeat (first | exact List.Sublist.refl _))) | apply qlooks_normal | (apply qstep_out; decide +kernel) | (apply pxa_nil; decide +kernel) | (apply pxa_one 7; decide +kernel; rfl) | (apply pwp_region_mix; kernel_rfl; decide +kernel; exact Cl.stable _ _ _) | (apply pwp_cond_dec; rfl; all_goals (intro hc; try (first | (exfalso; omega)))) | (apply px_turns [1]; rfl; rfl; rfl; rfl; rfl; exact fun w ho => flip _ ho))
      refine qround_normal ?_ ⟨j + 1, ⟨rfl, trivial⟩, by omega, by omega, fun w' h => ?_⟩
      · repeat (first | exact same_refl | refine same_upd rfl ?_ | refine same_junk rfl ?_)
      · rw [hsu]
        exact h.perm (List.Perm.swap _ _ _)
    | false =>
      have hkp := gRows_keep (n := n) hP' (by rw [hPs2]; exact hP')
      rw [hP'] at hash
      repeat' (first | apply pwp_seq | apply pwp_region | (apply px_run; (first | (apply opv_move; first | exact hid_int rfl | rfl) | (apply opv_assign; first | rfl) | (apply opv_lss <;> rfl) | (apply opv_add_in; rfl; rfl; omega) | (apply opv_field fld_G1; rfl) | (apply opv_load_blk 3; (first | with_reducible exact sc_int | with_reducible exact sc_ints); rfl; rfl; rfl) | (apply opv_load_ints sc_int; rfl; (first | exact rd_row 1 rfl | exact rd_mem (by repeat (first | assumption | apply List.mem_cons_of_mem))); (first | omega)) | (apply opv_index_nat (k := 0) (vs := ints _) el_int; rfl; rfl; (first | exact rd_mem (by repeat (first | assumption | apply List.mem_cons_of_mem))); (first | (simp only [ints_length]; first | omega))) | (apply opv_index_nat (k := 1) (vs := ints _) el_int; rfl; rfl; (first | exact rd_mem (by repeat (first | assumption | apply List.mem_cons_of_mem))); (first | (simp only [ints_length]; first | omega))) | (apply opv_index (vs := ints _) el_int; rfl; rfl; (first | exact rd_row 1 rfl); omega; (first | (simp only [ints_length]; omega))) | (apply opv_load_svs sc_ints; rfl; (first | exact rd_row 0 rfl); omega) | (apply opv_index_nat (vs := svsOf _) el_intss; rfl; rfl; (first | exact rd_row 0 rfl); (simp only [svsOf_length]; omega)) | (apply opv_call; rfl; rfl; exact Cl.stable _ _ _; exact fun w hw => hash _)); rfl; rfl) | apply px_nil | apply qseq_normal | apply pwp_block | apply qblock_normal | apply pwp_skip | (apply pwp_cond_f; rfl) | (apply pwp_region_mix; kernel_rfl; decide +kernel; exact Cl.stable _ _ _) | (apply pwp_cond_dec; rfl; all_goals (intro hc; try (first | (exfalso; omega)))))
      refine qround_normal ?_ ⟨j + 1, ⟨rfl, trivial⟩, by omega, by omega, fun w' h => ?_⟩
      · repeat (first | exact same_refl | refine same_upd rfl ?_ | refine same_junk rfl ?_)
      · rw [hsu, ← hkp]
        exact h
  obtain rfl : j = fs.length := by omega
  have hrA : remU P (lssOf fs) fs.length = FA.1.foldl remE P := by unfold remU; rw [List.take_of_length_le (by rw [lssOf_length]; omega), hfs]
  have hoA : orU Q (lssOf fs) fs.length = FA.1.foldl addE Q := by unfold orU; rw [List.take_of_length_le (by rw [lssOf_length]; omega), hfs]
  rw [hrA, hoA]
  repeat' (first | apply pwp_seq | apply pwp_region | (apply px_run; (first | (apply opv_assign; first | rfl) | (apply opv_lss <;> rfl) | (apply opv_load_str 3 st_G; rfl; rfl; rfl)); rfl; rfl) | apply px_nil | apply qseq_normal | apply qseq_exit | apply qblock_normal | (apply qblock_exit_same; rfl) | apply pwp_exit | apply qround_exit | (apply pwp_cond_dec; rfl; all_goals (intro hc; try (first | contradiction))) | (apply px_givesT; rfl; rfl; rfl; rfl; rfl; exact fun w hw => hedge (FA.1.foldl remE P) _ (hw.rowArr (k := 1) rfl); rintro ve2 _ ⟨es2, hes2, rfl⟩; refine ⟨[_], _, rfl, ?_⟩))
  refine qround_normal ?_ ⟨(ve2, es2, FA.1.foldl remE P, FA.1.foldl addE Q, f), ⟨rfl, trivial⟩, ⟨hes2, remF_sym _ hPs, remF_irr hPi, by dsimp only; omega, hstep.symm⟩, hRl, fun w' h => ?_⟩
  · repeat (first | exact same_refl | refine same_upd rfl ?_ | refine same_junk rfl ?_)
  · dsimp only
    exact Cl.sub (by assumption) (by repeat (first | exact List.Sublist.slnil | exact List.Sublist.refl _ | apply List.Sublist.cons_cons | exact List.sublist_append_left _ _ | exact List.sublist_append_right _ _ | apply List.Sublist.cons))
end Go.Proofs.YtmmflnigejfplaaGreat
/- Orientations found arc by arc: the reference's. -/
namespace Go.Proofs.YtmmflnigejfplaaGreat
open Go Go.RowKit Go.Pw
theorem en_s_OrientationOf : Entry Tryz.prog 40 := ⟨_, Tryz.func40, by kernel_rfl, rfl⟩
set_option maxRecDepth 100000 in
set_option maxHeartbeats 16000000 in
theorem s_OrientationOf_c (size : Int) (gv : Value) (rows : List Int) (w : World) (hr : Arr w gv (ints rows)) :
    Gives Tryz.prog 40 #[.agg #[.int .i64 size, gv]] w (fun v objs => ∃ sv, v = .tuple #[.agg #[sv], .bool (oriX size rows).isSome] ∧ objs = [.row 3 sv (ints (oriL size rows))]) := by
  refine gives_enter (args := [_]) en_s_OrientationOf Tryz.func40 rfl Tryz.ntmps40 rfl ?_
  by_cases hg : IsG size rows
  case neg =>
    have f1 : oriX size rows = none := if_neg hg
    have f2 : oriL size rows = [] := by unfold oriL; rw [f1]; rfl
    repeat' (first | apply pwp_seq | apply pwp_region | (apply px_run; (first | (apply opv_buildO0 bl_O) | (apply opv_assign; first | exact hid_bool rfl) | (apply opv_not_dec <;> rfl) | (apply opv_load_str 1 st_G; rfl; rfl; rfl) | (apply opv_call; rfl; rfl; exact Cl.stable _ _ _; exact fun w hw => s_IsGraph_c _ _ rows _ (by first | exact hw.arr (by assumption)))); rfl; rfl) | apply px_nil | apply qseq_normal | apply qseq_ret | apply pwp_ret | (apply pwp_cond_ndec; rfl; all_goals (intro hc; try (first | contradiction))) | (apply px_box; rfl; rfl; rfl; rfl; intro bk) | (apply px_alloc st_O; rfl; rfl; rfl; intro bk) | (apply px_store_str 0 st_O; rfl; rfl; rfl; rfl; rfl; (intro w hw; (first | refine all1 rfl ?_) <;> (first | rfl)); rfl))
    refine qbody_cell_tmp 0 rfl st_O rfl rfl rfl rfl ⟨_, ⟨_, by rw [f1]; rfl, rfl⟩, fun w' h => ?_⟩
    rw [f2]
    exact (h.sub (List.nil_sublist _)).nilRow _
  obtain ⟨n, hn, hrl, hn1, hn7⟩ := isG_size hg
  have hX : oriX size rows = oriF n 50 (bitsP rows) (fun _ _ => false) := by unfold oriX; rw [if_pos hg, hrl]
  have hL : oriL size rows = ((oriX size rows).map (gRows n)).getD [] := by unfold oriL; rw [hrl]
  have hrows := bits_rows hg
  have hsy := bits_sym hg
  have hir := bits_irr hg
  rw [hL]
  generalize oriX size rows = XX at hX ⊢
  rw [hrl] at hrows
  generalize bitsP rows = P0 at *
  subst hn
  rw [hrows] at hg hr
  have hz : ints (gRows n (fun _ _ => false)) = List.replicate n (Value.int .i64 0) := by
    rw [gRows_none (fun _ _ _ _ => rfl)]; simp [ints]
  have hgl0 := gRows_length n P0
  clear hrows
  repeat' (first | apply pwp_seq | apply pwp_region | (apply px_run; (first | (apply opv_buildO1 bl_O; rfl; (first | exact rd_row 0 rfl)) | (apply opv_assign; first | exact hid_bool rfl) | (apply opv_not_dec <;> rfl) | (apply opv_field fld_G0; rfl) | (apply opv_load_blk 1; (first | with_reducible exact sc_int); rfl; rfl; rfl) | (apply opv_load_str 1 st_G; rfl; rfl; rfl) | (apply opv_load_str 3 st_G; rfl; rfl; rfl) | (apply opv_call; rfl; rfl; exact Cl.stable _ _ _; exact fun w hw => s_IsGraph_c _ _ (gRows n P0) _ (by first | exact hw.arr (by assumption)))); rfl; rfl) | apply px_nil | apply qseq_normal | apply pwp_block | apply pwp_skip | (apply pwp_cond_ndec; rfl; all_goals (intro hc; try (first | contradiction))) | (apply px_box; rfl; rfl; rfl; rfl; intro bk) | (apply px_make ez_int; rfl; rfl; rfl; rfl; rfl; omega; (simp only [maxLen]; omega); intro sv) | (apply px_alloc st_G; rfl; rfl; rfl; intro bk) | (apply px_alloc st_O; rfl; rfl; rfl; intro bk) | (apply px_store_str 0 st_G; rfl; rfl; rfl; rfl; rfl; (intro w hw; (first | refine all2 rfl ?_ ?_) <;> (first | rfl | exact stor_row 1 hw rfl)); rfl) | (apply px_store_str 0 st_O; rfl; rfl; rfl; rfl; rfl; (intro w hw; (first | refine all1 rfl ?_) <;> (first | exact stor_row 1 hw rfl)); rfl) | (apply px_gives; rfl; rfl; rfl; rfl; rfl; exact fun w hw => s_l2Copy_c _ _ (gRows n P0) _ (by first | exact hw.arr (by assumption)) (by omega); rintro _ _ ⟨lv0, rfl, rfl⟩))
  rename_i b1 b2 b4
  rename Nat => b5
  generalize hsv : sv = tv
  refine pwp_loop (τ := Value × (Nat → Nat → Bool) × (Nat → Nat → Bool) × Nat) [(3,3), (6,8), (19,94)] (fun x => []) (fun x => Cl [] w [.row 3 x.1 (ints (gRows n x.2.1)), .row 3 tv (ints (gRows n x.2.2.1)), .blk b4 [tv], .blk b5 [.int .i64 n, x.1], .blk b2 [.slice none 0 0], .blk b1 [.int .i64 n, gv]])
    (fun x => (∀ i u, x.2.1 i u = x.2.1 u i) ∧ (∀ i, x.2.1 i i = false) ∧ cntP n x.2.1 < x.2.2.2 ∧ oriF n x.2.2.2 x.2.1 x.2.2.1 = XX) (fun x => cntP n x.2.1) (lv0, P0, fun _ _ => false, 50)
    trivial ⟨hsy, hir, by have := cntP_le n P0; have := Nat.mul_le_mul hn7 hn7; dsimp only; omega, hX.symm⟩ (fun w' h => by dsimp only; rw [hz]; exact Cl.ofSel (by assumption) (by repeat (first | exact sel_nil | refine sel_cons 0 rfl ?_ | refine sel_cons 1 rfl ?_ | refine sel_cons 2 rfl ?_ | refine sel_cons 3 rfl ?_ | refine sel_cons 4 rfl ?_ | refine sel_cons 5 rfl ?_ | refine sel_cons 6 rfl ?_ | refine sel_cons 7 rfl ?_ | refine sel_cons 8 rfl ?_ | refine sel_cons 9 rfl ?_ | refine sel_cons 10 rfl ?_ | refine sel_cons 11 rfl ?_ | refine sel_cons 12 rfl ?_ | refine sel_cons 13 rfl ?_))) (fun J2 x hx => ?_)
  obtain ⟨lv, P, Q, f⟩ := x
  dsimp only at hx ⊢
  obtain ⟨hPs, hPi, hcf, hXX⟩ := hx
  obtain ⟨f, rfl⟩ : ∃ f', f = f' + 1 := ⟨f - 1, by omega⟩
  have hgl := gRows_length n P
  have hgG := gRows_isG hn1 hn7 hPs hPi
  have hedge : ∀ (w' : World), Arr w' lv (ints (gRows n P)) → Gives Tryz.prog 75 #[.agg #[.int .i64 n, lv]] w' (fun v objs => ∃ ps, lssOf ps = edgesL n (gRows n P) ∧ ps.length = (edgesL n (gRows n P)).length ∧ objs = .row 24 v (svsOf ps) :: rowsOb 3 ps) := fun w' h => by
    obtain ⟨h1, h2⟩ := s_EdgesOf_c n lv (gRows n P) w' h
    refine ⟨h1, h2.mono ?_⟩
    rintro e w'' ⟨v, objs, hv, ⟨ps, hps, ho⟩, hc⟩
    exact ⟨v, objs, hv, ⟨ps, hps, by rw [← hps, lssOf_length], ho⟩, hc⟩
  have hel2 := edgesL_length n (gRows n P)
  cases hE : edgesL n (gRows n P) with
  | nil =>
    have hq : XX = some Q := by rw [← hXX, oriF, hE]
    rw [hq]
    have hedge0 : ∀ (w' : World), Arr w' lv (ints (gRows n P)) → Gives Tryz.prog 75 #[.agg #[.int .i64 n, lv]] w' (fun v objs => ∃ ps : Pairs, ps.length = 0 ∧ objs = .row 24 v (svsOf ps) :: rowsOb 3 ps) := fun w' h => by
      obtain ⟨h1, h2⟩ := hedge w' h
      refine ⟨h1, h2.mono ?_⟩
      rintro e w'' ⟨v, objs, hv, ⟨ps, hps, hpl, ho⟩, hc⟩
      exact ⟨v, objs, hv, ⟨ps, by rw [hpl, hE]; rfl, ho⟩, hc⟩
    repeat' (first | apply pwp_seq | apply pwp_region | (apply px_run; (first | (apply opv_assign; first | exact hid_bool rfl) | (apply opv_gtr <;> rfl) | (apply opv_load_str 3 st_G; rfl; rfl; rfl) | (apply opv_load_str 3 st_O; rfl; rfl; rfl) | (apply opv_len_svs el_intss; rfl; (first | exact rd_row 0 rfl))); rfl; rfl) | apply px_nil | apply qseq_normal | apply qseq_exit | (apply qblock_exit_same; rfl) | apply pwp_exit | apply pwp_ret | apply qround_exit | (apply pwp_cond_dec; rfl; all_goals (intro hc; try (first | (exfalso; omega)))) | (apply px_store_str 5 st_O; rfl; rfl; rfl; rfl; rfl; (intro w hw; (first | refine all1 rfl ?_) <;> (first | exact stor_row 2 hw rfl)); rfl) | (apply px_givesT; rfl; rfl; rfl; rfl; rfl; exact fun w hw => hedge0 _ (hw.rowArr (k := 0) rfl); rintro ve1 _ ⟨es, hesl, rfl⟩; refine ⟨[_], _, rfl, ?_⟩))
    refine qbody_cell_tmp 5 rfl st_O rfl rfl rfl rfl ⟨_, ⟨tv, rfl, rfl⟩, fun w' h => ?_⟩
    exact h.sub (List.Sublist.cons _ (List.Sublist.cons _ (List.Sublist.cons_cons _ (List.nil_sublist _))))
  | cons e0 er =>
    have hR := roundO hn1 hn7 hPi (e := e0) (by rw [hE]; exact List.mem_cons_self ..)
    obtain ⟨a, b, hab, hab2, hbn⟩ := hR.arc
    have hstep : XX = if [e0.getD 1 0, e0.getD 0 0] ∈ (forcedA (gRows n P) (e0.getD 0 0) (e0.getD 1 0)).1 then none
        else oriF n f ((forcedA (gRows n P) (e0.getD 0 0) (e0.getD 1 0)).1.foldl remE P) ((forcedA (gRows n P) (e0.getD 0 0) (e0.getD 1 0)).1.foldl addE Q) := by
      rw [← hXX, oriF, hE]
    have hRf := hR.forced
    have hRok := hR.ok
    have hRl := hR.less
    have hRe := hR.edge
    have hfst : ∀ es : Pairs, lssOf es = e0 :: er → lsAt es 0 = e0 := fun es h => by rw [← lss_getD, h]; rfl
    have key : ∀ (es : Pairs) (w' : World), lssOf es = e0 :: er → Arr w' lv (ints (gRows n P)) → Gives Tryz.prog 76 #[.agg #[.int .i64 n, lv], .int .i64 ((lsAt es 0).getD 0 0), .int .i64 ((lsAt es 0).getD 1 0)] w' (fun v objs => ∃ ps, lssOf ps = (forcedA (gRows n P) (e0.getD 0 0) (e0.getD 1 0)).1 ∧ objs = .row 24 v (svsOf ps) :: rowsOb 3 ps) := fun es w' hes h => by
      rw [hfst es hes, hab]
      rw [hab] at hRe
      exact s_ForcedArcs_c n lv (gRows n P) a b w' h hgG (by omega) (by omega) (by rw [gRows_has hn7 P (by omega) hbn]; exact hRe)
    clear hR hXX
    generalize forcedA (gRows n P) (e0.getD 0 0) (e0.getD 1 0) = FA at *
    have hbd := hRok.bound hn7
    have hpm := placeA_mem FA.1 [e0.getD 1 0, e0.getD 0 0]
    have hpf : ∀ (es fs : Pairs) (vf : Value) (w' : World), lssOf es = e0 :: er → lssOf fs = FA.1 → ArrS w' vf fs → Pure Tryz.prog 77 #[vf, .int .i64 ((lsAt es 0).getD 1 0), .int .i64 ((lsAt es 0).getD 0 0)] w' (.int .i64 (placeA FA.1 [e0.getD 1 0, e0.getD 0 0])) := fun es fs vf w' hes hfs h => by
      have hfl := congrArg List.length hfs
      rw [lssOf_length] at hfl
      have h2 := s_l13Find_c vf fs ((lsAt es 0).getD 1 0) ((lsAt es 0).getD 0 0) w' h (by omega) (fun i hi => by
        obtain ⟨x', y', h, _⟩ := hRok.arc (lsAt fs i) (by rw [← hfs]; exact lsAt_mem hi)
        rw [h]; rfl)
      rw [hfs, hfst es hes] at h2
      rw [hfst es hes]; exact h2
    have hl2 : ∀ es : Pairs, lssOf es = e0 :: er → (lsAt es 0).length = 2 := fun es h => by rw [hfst es h, hab]; rfl
    have hedge2 : ∀ (w' : World), Arr w' lv (ints (gRows n P)) → Gives Tryz.prog 75 #[.agg #[.int .i64 n, lv]] w' (fun v objs => ∃ ps, lssOf ps = e0 :: er ∧ 0 < ps.length ∧ (lsAt ps 0).length = 2 ∧ objs = .row 24 v (svsOf ps) :: rowsOb 3 ps) := fun w' h => by
      obtain ⟨h1, h2⟩ := hedge w' h
      refine ⟨h1, h2.mono ?_⟩
      rintro e w'' ⟨v, objs, hv, ⟨ps, hps, hpl, ho⟩, hc⟩
      rw [hE] at hps hpl
      exact ⟨v, objs, hv, ⟨ps, hps, by rw [hpl]; simp, hl2 ps hps, ho⟩, hc⟩
    by_cases hfound : [e0.getD 1 0, e0.getD 0 0] ∈ FA.1
    · have hq : XX = none := by rw [hstep, if_pos hfound]
      have hp0 := hpm.2 hfound
      rw [hq]
      repeat' (first | apply pwp_seq | apply pwp_region | (apply px_run; (first | (apply opv_buildO0 bl_O) | (apply opv_move; first | rfl) | (apply opv_assign; first | exact hid_bool rfl | rfl) | (apply opv_gtr <;> rfl) | (apply opv_geq <;> rfl) | (apply opv_load_ints sc_int; rfl; (first | exact rd_mem (List.mem_append_right _ (List.mem_append_right _ (row_mem (by omega)))) | exact rd_mem (List.mem_append_right _ (List.mem_append_left _ (List.mem_append_right _ (List.mem_append_right _ (row_mem (by omega))))))); (first | omega)) | (apply opv_index_nat (k := 0) (vs := ints _) el_int; rfl; rfl; (first | exact rd_mem (List.mem_append_right _ (List.mem_append_right _ (row_mem (by omega)))) | exact rd_mem (List.mem_append_right _ (List.mem_append_left _ (List.mem_append_right _ (List.mem_append_right _ (row_mem (by omega))))))); (first | (simp only [ints_length]; first | omega))) | (apply opv_index_nat (k := 1) (vs := ints _) el_int; rfl; rfl; (first | exact rd_mem (List.mem_append_right _ (List.mem_append_right _ (row_mem (by omega)))) | exact rd_mem (List.mem_append_right _ (List.mem_append_left _ (List.mem_append_right _ (List.mem_append_right _ (row_mem (by omega))))))); (first | (simp only [ints_length]; first | omega))) | (apply opv_load_str 3 st_G; rfl; rfl; rfl) | (apply opv_load_str 4 st_G; rfl; rfl; rfl) | (apply opv_load_str 5 st_G; rfl; rfl; rfl) | (apply opv_index_nat (k := 0) (vs := svsOf _) el_intss; rfl; rfl; (first | exact rd_row 0 rfl); (simp only [svsOf_length]; first | omega)) | (apply opv_load_svs sc_ints; rfl; (first | exact rd_row 0 rfl); omega) | (apply opv_len_svs el_intss; rfl; (first | exact rd_row 0 rfl)) | (apply opv_call; rfl; rfl; exact Cl.stable _ _ _; exact fun w hw => hpf es fs _ _ hes hfs (hw.arrS 0 rfl (fun o ho => List.mem_append_right _ (List.mem_append_right _ ho))))); rfl; rfl) | apply px_nil | apply qseq_normal | apply qseq_ret | apply pwp_block | apply qblock_ret | apply pwp_skip | apply pwp_ret | apply qround_ret | (apply pwp_region_mix; kernel_rfl; decide +kernel; exact Cl.stable _ _ _) | (apply pwp_cond_dec; rfl; all_goals (intro hc; try (first | contradiction | (exfalso; omega)))) | (apply px_store_str 7 st_O; rfl; rfl; rfl; rfl; rfl; (intro w hw; (first | refine all1 rfl ?_) <;> (first | rfl)); rfl) | (apply px_givesT; rfl; rfl; rfl; rfl; rfl; exact fun w hw => hedge2 _ (hw.rowArr (k := 0) rfl); rintro ve1 _ ⟨es, hes, hesl, hes2, rfl⟩; refine ⟨[_], _, rfl, ?_⟩) | (apply px_givesT; rfl; rfl; rfl; rfl; rfl; exact fun w hw => hedge2 _ (hw.rowArr (k := 1) rfl); rintro ve1 _ ⟨es, hes, hesl, hes2, rfl⟩; refine ⟨[_], _, rfl, ?_⟩) | (apply px_givesT; rfl; rfl; rfl; rfl; rfl; exact fun w hw => key es _ hes (hw.rowArr (k := 2) rfl); rintro vf _ ⟨fs, hfs, rfl⟩; refine ⟨[_], _, rfl, ?_⟩))
      refine qbody_cell_tmp 7 rfl st_O rfl rfl rfl rfl ⟨_, ⟨_, rfl, rfl⟩, fun w' h => ?_⟩
      exact (h.sub (List.nil_sublist _)).nilRow _
    have hp0 : ¬ 0 ≤ placeA FA.1 [e0.getD 1 0, e0.getD 0 0] := fun h => hfound (hpm.1 h)
    rw [if_neg hfound] at hstep
    repeat' (first | apply pwp_seq | apply pwp_region | (apply px_run; (first | (apply opv_move; first | rfl) | (apply opv_assign; first | exact hid_int rfl | rfl) | (apply opv_gtr <;> rfl) | (apply opv_geq <;> rfl) | (apply opv_load_ints sc_int; rfl; (first | exact rd_mem (List.mem_append_right _ (List.mem_append_right _ (row_mem (by omega)))) | exact rd_mem (List.mem_append_right _ (List.mem_append_left _ (List.mem_append_right _ (List.mem_append_right _ (row_mem (by omega))))))); (first | omega)) | (apply opv_index_nat (k := 0) (vs := ints _) el_int; rfl; rfl; (first | exact rd_mem (List.mem_append_right _ (List.mem_append_right _ (row_mem (by omega)))) | exact rd_mem (List.mem_append_right _ (List.mem_append_left _ (List.mem_append_right _ (List.mem_append_right _ (row_mem (by omega))))))); (first | (simp only [ints_length]; first | omega))) | (apply opv_index_nat (k := 1) (vs := ints _) el_int; rfl; rfl; (first | exact rd_mem (List.mem_append_right _ (List.mem_append_right _ (row_mem (by omega)))) | exact rd_mem (List.mem_append_right _ (List.mem_append_left _ (List.mem_append_right _ (List.mem_append_right _ (row_mem (by omega))))))); (first | (simp only [ints_length]; first | omega))) | (apply opv_load_str 3 st_G; rfl; rfl; rfl) | (apply opv_load_str 4 st_G; rfl; rfl; rfl) | (apply opv_load_str 5 st_G; rfl; rfl; rfl) | (apply opv_index_nat (k := 0) (vs := svsOf _) el_intss; rfl; rfl; (first | exact rd_row 0 rfl); (simp only [svsOf_length]; first | omega)) | (apply opv_load_svs sc_ints; rfl; (first | exact rd_row 0 rfl); omega) | (apply opv_len_svs el_intss; rfl; (first | exact rd_row 0 rfl)) | (apply opv_call; rfl; rfl; exact Cl.stable _ _ _; exact fun w hw => hpf es fs _ _ hes hfs (hw.arrS 0 rfl (fun o ho => List.mem_append_right _ (List.mem_append_right _ ho))))); rfl; rfl) | apply px_nil | apply qseq_normal | apply pwp_block | apply pwp_skip | (apply pwp_region_mix; kernel_rfl; decide +kernel; exact Cl.stable _ _ _) | (apply pwp_cond_dec; rfl; all_goals (intro hc; try (first | contradiction | (exfalso; omega)))) | (apply px_givesT; rfl; rfl; rfl; rfl; rfl; exact fun w hw => hedge2 _ (hw.rowArr (k := 0) rfl); rintro ve1 _ ⟨es, hes, hesl, hes2, rfl⟩; refine ⟨[_], _, rfl, ?_⟩) | (apply px_givesT; rfl; rfl; rfl; rfl; rfl; exact fun w hw => hedge2 _ (hw.rowArr (k := 1) rfl); rintro ve1 _ ⟨es, hes, hesl, hes2, rfl⟩; refine ⟨[_], _, rfl, ?_⟩) | (apply px_givesT; rfl; rfl; rfl; rfl; rfl; exact fun w hw => key es _ hes (hw.rowArr (k := 2) rfl); rintro vf _ ⟨fs, hfs, rfl⟩; refine ⟨[_], _, rfl, ?_⟩))
    have hfl : fs.length = FA.1.length := by rw [← hfs, lssOf_length]
    have hD : ∀ j, j < fs.length → ∃ x y : Nat, (lsAt fs j).getD 0 0 = x ∧ (lsAt fs j).getD 1 0 = y ∧ (lsAt fs j).length = 2 ∧ x < n ∧ y < n ∧ x ≠ y := fun j hj => by
      obtain ⟨⟨x, y, hxy, hx, hy⟩, hne⟩ := hRf (lsAt fs j) (by rw [← hfs]; exact lsAt_mem hj)
      rw [hxy] at hne ⊢
      exact ⟨x, y, rfl, rfl, rfl, hx, hy, hne⟩
    refine pwp_loop (τ := Nat × Value) [(8,8), (45,94)] (fun x => [(8, .int .i64 (x.1 : Int))]) (fun x => Cl [] w (.row 24 vf (svsOf fs) :: .row 3 x.2 (ints (gRows n (remU P (lssOf fs) x.1))) :: .row 3 tv (ints (gRows n (orU Q (lssOf fs) x.1))) :: .blk b4 [tv] :: .blk b5 [.int .i64 n, x.2] :: .blk b2 [.slice none 0 0] :: .blk b1 [.int .i64 n, gv] :: rowsOb 3 fs)) (fun x => x.1 ≤ fs.length) (fun x => fs.length - x.1) (0, lv)
      ⟨rfl, trivial⟩ (Nat.zero_le _) (fun w' h => h.sub (List.Sublist.cons_cons _ (sub_two _ _ [.row 3 lv (ints (gRows n P)), .row 3 tv (ints (gRows n Q)), .blk b4 [tv], .blk b5 [.int .i64 n, lv], .blk b2 [.slice none 0 0], .blk b1 [.int .i64 n, gv]] _ _ (rowsOb 3 fs)))) (fun J3 x hx => ?_)
    obtain ⟨j, lv2⟩ := x
    dsimp only at hx ⊢
    by_cases hlj : j < fs.length
    · obtain ⟨x, y, hx, hy, hl2, hxn, hyn, hxy⟩ := hD j hlj
      have hmj : Ob.row 3 (svAt fs j) (ints (lsAt fs j)) ∈ rowsOb 3 fs := row_mem hlj
      have hor := gRows_or (orU Q (lssOf fs) j) hn7 hxn hyn
      have hsu := orU_succ (Q := Q) (L := lssOf fs) (j := j) (by rw [lssOf_length]; exact hlj)
      have hsr := remU_succ (P := P) (L := lssOf fs) (j := j) (by rw [lssOf_length]; exact hlj)
      rw [lss_getD] at hsu hsr
      have hae : addE (orU Q (lssOf fs) j) (lsAt fs j) = addQ (orU Q (lssOf fs) j) x y := by unfold addE; rw [hx, hy]; rfl
      have hre : remE (remU P (lssOf fs) j) (lsAt fs j) = remP (remU P (lssOf fs) j) x y := by unfold remE; rw [hx, hy]; rfl
      have hPs2 : ∀ i u, remU P (lssOf fs) j i u = remU P (lssOf fs) j u i := remF_sym _ hPs
      have hPi2 : ∀ i, remU P (lssOf fs) j i i = false := remF_irr hPi
      rw [hre] at hsr
      rw [hae] at hsu
      generalize remU P (lssOf fs) j = P' at *
      generalize orU Q (lssOf fs) j = Q' at *
      have hpl := gRows_length n P'
      have hql := gRows_length n Q'
      have d0 : 0 ≤ (lsAt fs j).getD 0 0 ∧ (lsAt fs j).getD 0 0 < n := by omega
      have d1 : 0 ≤ (lsAt fs j).getD 1 0 := by omega
      have e0' : ((lsAt fs j).getD 0 0).toNat = x := by omega
      have hor2 : (gRows n Q').set ((lsAt fs j).getD 0 0).toNat (ior ((gRows n Q').getD ((lsAt fs j).getD 0 0).toNat 0) (ishl 1 ((lsAt fs j).getD 1 0))) = gRows n (addQ Q' x y) := by rw [e0', hy]; exact hor
      have rem : ∀ w', Arr w' lv2 (ints (gRows n P')) → Gives Tryz.prog 78 #[.agg #[.int .i64 n, lv2], .int .i64 ((lsAt fs j).getD 0 0), .int .i64 ((lsAt fs j).getD 1 0)] w' (fun v objs => ∃ sv', v = .tuple #[.agg #[.int .i64 n, sv'], .bool (P' x y)] ∧ objs = [.row 3 sv' (ints (gRows n (remP P' x y)))]) := fun w' h => by
        rw [hx, hy]; exact s_RemoveEdge_c n lv2 P' x y w' h hn1 hn7 hPs2 hPi2 hxn hyn hxy
      repeat' (first | apply pwp_seq | apply pwp_region | (apply px_run; (first | (apply opv_move; first | exact hid_int rfl | rfl) | (apply opv_assign; first | exact hid_int rfl) | (apply opv_lss <;> rfl) | (apply opv_or <;> rfl) | (apply opv_add_in; rfl; rfl; omega) | (apply opv_shl; rfl; rfl; omega) | (apply opv_field fld_O0; rfl) | (apply opv_load_blk 3; (first | with_reducible exact sc_int | with_reducible exact sc_ints); rfl; rfl; rfl) | (apply opv_load_ints sc_int; rfl; (first | exact rd_row 2 rfl | exact rd_mem (by repeat (first | assumption | apply List.mem_cons_of_mem))); (first | omega)) | (apply opv_index_nat (k := 0) (vs := ints _) el_int; rfl; rfl; (first | exact rd_mem (by repeat (first | assumption | apply List.mem_cons_of_mem))); (first | (simp only [ints_length]; first | omega))) | (apply opv_index_nat (k := 1) (vs := ints _) el_int; rfl; rfl; (first | exact rd_mem (by repeat (first | assumption | apply List.mem_cons_of_mem))); (first | (simp only [ints_length]; first | omega))) | (apply opv_index (vs := ints _) el_int; rfl; rfl; (first | exact rd_row 2 rfl); omega; (first | (simp only [ints_length]; omega))) | (apply opv_load_str 4 st_G; rfl; rfl; rfl) | (apply opv_load_svs sc_ints; rfl; (first | exact rd_row 0 rfl); omega) | (apply opv_index_nat (vs := svsOf _) el_intss; rfl; rfl; (first | exact rd_row 0 rfl); (simp only [svsOf_length]; omega)) | (apply opv_len_svs el_intss; rfl; (first | exact rd_row 0 rfl)) | (apply opv_extract; rfl; rfl)); rfl; rfl) | apply px_nil | apply qseq_normal | apply pwp_block | apply qblock_normal | apply pwp_skip | (apply pwp_region_any [0, 1, 2, 3, 4, 5, 6, 7, 8, 9, 10, 11, 12, 13, 14, 15, 16, 17, 18, 19, 20, 21, 22, 23, 24, 25] [27] 2 (Cl [] w (.row 24 vf (svsOf fs) :: .row 3 lv2 _ :: .row 3 tv _ :: .blk b4 _ :: .blk b5 _ :: .blk b2 _ :: .blk b1 _ :: rowsOb 3 fs)); kernel_rfl; decide +kernel; exact Cl.stable _ _ _; exact fun w h => h.sub (by repeat (first | exact List.Sublist.refl _))) | (apply pwp_region_any [0, 1, 2, 3, 4, 5, 6, 7, 8, 9, 10, 11, 12] [17] 5 (Cl [] w (.row 24 vf (svsOf fs) :: .row 3 lv2 _ :: .row 3 tv _ :: .blk b4 _ :: .blk b5 _ :: .blk b2 _ :: .blk b1 _ :: rowsOb 3 fs)); kernel_rfl; decide +kernel; exact Cl.stable _ _ _; exact fun w h => h.sub (by repeat (first | exact List.Sublist.refl _))) | apply qlooks_normal | (apply qstep_out; decide +kernel) | (apply qstep_in; exact fun w h => h.sub (by repeat (first | exact List.Sublist.refl _ | exact List.sublist_append_right _ _))) | (apply pxa_nil; decide +kernel) | (apply pxa_one 13; decide +kernel; rfl) | (apply pxa_one 14; decide +kernel; rfl) | (apply pxa_one 15; decide +kernel; rfl) | (apply pxa_one 16; decide +kernel; rfl) | (apply pxa_one 17; decide +kernel; rfl) | (apply pxa_one 26; decide +kernel; rfl) | (apply pxa_one 27; decide +kernel; rfl) | (apply pxa_two 15 16; decide +kernel; rfl; rfl) | (apply pxa_two 16 17; decide +kernel; rfl; rfl) | (apply pwp_cond_dec; rfl; all_goals (intro hc; try (first | (exfalso; omega)))) | (apply px_store_int 2 co_int; rfl; rfl; rfl; (first | omega); rfl) | (apply px_store_str 5 st_G; rfl; rfl; rfl; rfl; rfl; (intro w hw; (first | refine all2 rfl ?_ ?_) <;> (first | rfl | exact stor_row 0 hw rfl)); rfl) | (apply px_gives; rfl; rfl; rfl; rfl; rfl; exact fun w hw => rem _ (hw.rowArr (k := 1) rfl); rintro _ _ ⟨lv3, rfl, rfl⟩))
      all_goals (
        refine qround_normal ?_ ⟨(j + 1, lv3), ⟨rfl, trivial⟩, by dsimp only; omega, by dsimp only; omega, fun w' h => ?_⟩
        · repeat (first | exact same_refl | refine same_upd rfl ?_ | refine same_junk rfl ?_)
        · dsimp only
          rw [hsu, hsr, ← hor2]
          exact (h.perm (List.Perm.swap _ _ _)).sub (List.Sublist.cons_cons _ (List.Sublist.cons_cons _ (List.Sublist.cons _ (List.Sublist.refl _)))))
    obtain rfl : j = fs.length := by omega
    have hrA : remU P (lssOf fs) fs.length = FA.1.foldl remE P := by unfold remU; rw [List.take_of_length_le (by rw [lssOf_length]; omega), hfs]
    have hoA : orU Q (lssOf fs) fs.length = FA.1.foldl addE Q := by unfold orU; rw [List.take_of_length_le (by rw [lssOf_length]; omega), hfs]
    rw [hrA, hoA]
    repeat' (first | apply pwp_seq | apply pwp_region | (apply px_run; (first | (apply opv_move; first | exact hid_int rfl | rfl) | (apply opv_lss <;> rfl) | (apply opv_len_svs el_intss; rfl; (first | exact rd_row 0 rfl))); rfl; rfl) | apply px_nil | apply qseq_normal | apply qseq_exit | apply qblock_normal | (apply qblock_exit_same; rfl) | apply pwp_exit | apply qround_exit | (apply pwp_cond_dec; rfl; all_goals (intro hc; try (first | (exfalso; omega)))))
    refine qround_normal ?_ ⟨(lv2, FA.1.foldl remE P, FA.1.foldl addE Q, f), trivial, ⟨remF_sym _ hPs, remF_irr hPi, by dsimp only; omega, hstep.symm⟩, hRl, fun w' h => ?_⟩
    · repeat (first | exact same_refl | refine same_upd rfl ?_ | refine same_junk rfl ?_)
    · dsimp only
      exact h.sub (List.Sublist.cons _ (List.Sublist.cons_cons _ (List.Sublist.cons_cons _ (List.Sublist.cons_cons _ (List.Sublist.cons_cons _ (List.Sublist.cons_cons _ (List.Sublist.cons_cons _ (List.nil_sublist _))))))))
end Go.Proofs.YtmmflnigejfplaaGreat
/- Permutation models out of two orientations: orders. -/
namespace Go.Proofs.YtmmflnigejfplaaGreat
open Go Go.RowKit Go.Pw
theorem opv_min_left {P : Program} {C : Cls} {ρ : Operand → Value} {d : Option Tmp} {ty : TypeId} {pos : String} {af : Array Edge} {g : Option (Nat × Bool)} {x y : Operand} {m n : Int} {ats : Array TypeId} (hx : ρ x = .int .i64 m) (hy : ρ y = .int .i64 n) (h : m ≤ n) : Opv P C ρ ⟨d, .call { callee := .builtin .min, args := #[x, y], argTypes := ats }, ty, pos, af, g⟩ (.int .i64 m) := by
  have := opv_min (P := P) (C := C) (d := d) (ty := ty) (pos := pos) (af := af) (g := g) (ats := ats) hx hy
  rwa [Int.min_eq_left h] at this
theorem en_i_orderOf : Entry Tryz.prog 39 := ⟨_, Tryz.func39, by kernel_rfl, rfl⟩
set_option maxHeartbeats 1600000 in
theorem i_orderOf_c (sv : Value) (n : Nat) (F : Nat → Nat → Bool) (w : World) (hr : Arr w sv (ints (gRows n F))) (hn : n ≤ 7) (hi : ∀ i, F i i = false) :
    Gives Tryz.prog 39 #[sv] w (fun v objs => objs = [.row 3 v (ints (ordU n F n))]) := by
  refine gives_enter (args := [_]) en_i_orderOf Tryz.func39 rfl Tryz.ntmps39 rfl ?_
  have hl := gRows_length n F
  repeat' (first | apply pwp_seq | apply pwp_region | (apply px_run; (first | (apply opv_move; first | exact hid_int rfl | rfl) | (apply opv_assign; first | rfl) | (apply opv_len_ints el_int; rfl; (first | exact rd_old (by assumption)))); rfl; rfl) | apply px_nil | apply qseq_normal | apply pwp_block | (apply px_make ez_int; rfl; rfl; rfl; rfl; rfl; omega; (simp only [maxLen]; omega); intro sv))
  refine pwp_loop (τ := Nat) [(4,5), (7,7), (13,36)] (fun v => [(13, .int .i64 (v : Int))]) (fun v => Cl [] w [.row 3 sv (ints (ordU n F v))]) (fun v => v ≤ n) (fun v => n - v) 0
    ⟨rfl, trivial⟩ (Nat.zero_le _) (fun _ h => by rw [hl] at h; simpa [ordU, ints] using h) (fun J v hv => ?_)
  by_cases hlt : v < n
  · repeat' (first | apply pwp_seq | apply pwp_region | (apply px_run; (first | (apply opv_move; first | exact hid_int rfl | rfl) | (apply opv_assign; first | exact hid_int rfl) | (apply opv_lss <;> rfl) | (apply opv_len_ints el_int; rfl; (first | exact rd_old (by assumption)))); rfl; rfl) | apply px_nil | apply qseq_normal | apply pwp_block | apply pwp_skip | (apply pwp_cond_dec; rfl; all_goals (intro hc; try (first | (exfalso; omega)))))
    refine pwp_loop (τ := Nat) [(5,5), (7,7), (18,27)] (fun k => [(18, .int .i64 (k : Int)), (5, .int .i64 (cU F v k : Nat))]) (fun k => Cl [] w [.row 3 sv (ints (ordU n F v))]) (fun k => k ≤ n) (fun k => n - k) 0
      ⟨rfl, rfl, trivial⟩ (Nat.zero_le _) (fun _ h => h) (fun J2 k hk => ?_)
    have hcs := cU_succ F v k
    have hle := cU_le F v k
    by_cases hkn : k < n
    · have hhas : ∀ w', Pure Tryz.prog 44 #[.int .i64 ((gRows n F).getD k 0), .int .i64 (v : Int)] w' (.bool (F k v)) := fun w' => by
        have := i_has_c ((gRows n F).getD k 0) (v : Int) w' (by omega)
        rw [gRows_has hn F hkn hlt] at this; exact this
      cases hF : F k v with
      | true =>
        rw [hF] at hhas
        repeat' (first | apply pwp_seq | apply pwp_region | (apply px_run; (first | (apply opv_move; first | exact hid_int rfl) | (apply opv_assign; first | exact hid_int rfl) | (apply opv_lss <;> rfl) | (apply opv_add_in; rfl; rfl; omega) | (apply opv_load_ints sc_int; rfl; (first | exact rd_old (by assumption)); (first | omega)) | (apply opv_index_nat (vs := ints _) el_int; rfl; rfl; (first | exact rd_old (by assumption)); (first | (simp only [ints_length]; omega))) | (apply opv_call; rfl; rfl; exact Cl.stable _ _ _; exact fun w hw => hhas _)); rfl; rfl) | apply px_nil | apply qseq_normal | apply pwp_block | apply qblock_normal | apply pwp_skip | (apply pwp_cond_t; rfl) | (apply pwp_cond_dec; rfl; all_goals (intro hc; try (first | (exfalso; omega)))))
        refine qround_normal ?_ ⟨k + 1, ⟨rfl, by rw [hcs, if_pos hF]; rfl, trivial⟩, by omega, by omega, fun _ h => h⟩
        repeat (first | exact same_refl | refine same_upd rfl ?_ | refine same_junk rfl ?_)
      | false =>
        rw [hF] at hhas
        repeat' (first | apply pwp_seq | apply pwp_region | (apply px_run; (first | (apply opv_move; first | exact hid_int rfl) | (apply opv_assign; first | exact hid_int rfl) | (apply opv_lss <;> rfl) | (apply opv_add_in; rfl; rfl; omega) | (apply opv_load_ints sc_int; rfl; (first | exact rd_old (by assumption)); (first | omega)) | (apply opv_index_nat (vs := ints _) el_int; rfl; rfl; (first | exact rd_old (by assumption)); (first | (simp only [ints_length]; omega))) | (apply opv_call; rfl; rfl; exact Cl.stable _ _ _; exact fun w hw => hhas _)); rfl; rfl) | apply px_nil | apply qseq_normal | apply pwp_block | apply qblock_normal | apply pwp_skip | (apply pwp_cond_f; rfl) | (apply pwp_cond_dec; rfl; all_goals (intro hc; try (first | (exfalso; omega)))))
        refine qround_normal ?_ ⟨k + 1, ⟨rfl, by rw [hcs, if_neg (by rw [hF]; exact Bool.false_ne_true)]; rfl, trivial⟩, by omega, by omega, fun _ h => h⟩
        repeat (first | exact same_refl | refine same_upd rfl ?_ | refine same_junk rfl ?_)
    · obtain rfl : k = n := by omega
      have hct := cU_lt hlt (hi v)
      have hol := ordU_len k F v
      have hst : ordU k F (v + 1) = (ordU k F v).set (cU F v k) v := rfl
      repeat' (first | apply pwp_seq | apply pwp_region | (apply px_run; (first | (apply opv_min_left; rfl; rfl; omega) | (apply opv_move; first | exact hid_int rfl | rfl) | (apply opv_lss <;> rfl) | (apply opv_add_in; rfl; rfl; omega) | (apply opv_sub_in; rfl; rfl; omega) | (apply opv_index_nat (vs := ints _) el_int; rfl; rfl; (first | exact rd_row 0 rfl); (first | (simp only [ints_length]; omega))) | (apply opv_len_ints el_int; rfl; (first | exact rd_row 0 rfl))); rfl; rfl) | apply px_nil | apply qseq_normal | apply qseq_exit | apply qblock_normal | (apply qblock_exit_same; rfl) | apply pwp_exit | apply qround_exit | (apply pwp_cond_dec; rfl; all_goals (intro hc; try (first | (exfalso; omega)))) | (apply px_store_int 0 co_int; rfl; rfl; rfl; (first | omega); rfl))
      refine qround_normal ?_ ⟨v + 1, ⟨rfl, trivial⟩, by omega, by omega, fun _ h => ?_⟩
      · repeat (first | exact same_refl | refine same_upd rfl ?_ | refine same_junk rfl ?_)
      · rw [hst]; exact h
  · obtain rfl : v = n := by omega
    repeat' (first | apply pwp_seq | apply pwp_region | (apply px_run; (first | (apply opv_move; first | rfl) | (apply opv_assign; first | rfl) | (apply opv_lss <;> rfl)); rfl; rfl) | apply px_nil | apply qseq_normal | apply qseq_exit | (apply qblock_exit_same; rfl) | apply pwp_exit | apply pwp_ret | apply qround_exit | (apply pwp_cond_dec; rfl; all_goals (intro hc; try (first | (exfalso; omega)))))
    refine qbody_ret1 rfl rfl ⟨_, rfl, fun w' h => h⟩
theorem en_s_l14Sort : Entry Tryz.prog 41 := ⟨_, Tryz.func41, by kernel_rfl, rfl⟩
set_option maxRecDepth 100000 in
set_option maxHeartbeats 3200000 in
theorem s_l14Sort_c (n : Nat) (gv ov hv : Value) (O H : Nat → Nat → Bool) (t : Bool) (w : World) (ho : Arr w ov (ints (gRows n O))) (hh : Arr w hv (ints (gRows n H))) (hn : n ≤ 7) (hO : ∀ i, O i i = false) (hH : ∀ i, H i i = false) :
    Gives Tryz.prog 41 #[.agg #[.int .i64 n, gv], .agg #[ov], .agg #[hv], .bool t] w (fun v objs => objs = [.row 3 v (ints (ordU n (fun u v => H u v || (if t = true then O v u else O u v)) n))]) := by
  refine gives_enter (args := [_, _, _, _]) en_s_l14Sort Tryz.func41 rfl Tryz.ntmps41 rfl ?_
  have hl := gRows_length n O
  have hl2 := gRows_length n H
  generalize hF : (fun u v => H u v || (if t = true then O v u else O u v)) = F
  have hFi : ∀ i, F i i = false := fun i => by rw [← hF]; dsimp only; rw [hH, hO]; simp
  have hbit : ∀ (P : Nat → Nat → Bool) (k v : Nat), k < n → v < n → (iand (ishr ((gRows n P).getD k 0) (v : Int)) 1 = 1 ↔ P k v = true) := fun P k v hk hv => by
    rw [← hasB_iff, gRows_has hn P hk hv]
  repeat' (first | apply pwp_seq | apply pwp_region | (apply px_run; (first | (apply opv_assign; first | exact hid_int rfl | rfl) | (apply opv_field fld_G0; rfl) | (apply opv_load_blk 2; (first | with_reducible exact sc_int); rfl; rfl; rfl)); rfl; rfl) | apply px_nil | apply qseq_normal | apply pwp_block | (apply px_box; rfl; rfl; rfl; rfl; intro bk) | (apply px_make ez_int; rfl; rfl; rfl; rfl; rfl; omega; (simp only [maxLen]; omega); intro sv))
  rename_i b1 b2
  refine pwp_loop (τ := Nat) [(10,13), (17,65)] (fun v => [(10, .int .i64 (v : Int))]) (fun v => Cl [] w [.row 3 sv (ints (ordU n F v)), .blk bk [hv], .blk b2 [ov], .blk b1 [.int .i64 n, gv]]) (fun v => v ≤ n) (fun v => n - v) 0
    ⟨rfl, trivial⟩ (Nat.zero_le _) (fun _ h => by simpa [ordU, ints] using h) (fun J v hvn => ?_)
  by_cases hlt : v < n
  · repeat' (first | apply pwp_seq | apply pwp_region | (apply px_run; (first | (apply opv_move; first | exact hid_int rfl) | (apply opv_assign; first | exact hid_int rfl) | (apply opv_lss <;> rfl) | (apply opv_field fld_G0; rfl) | (apply opv_load_blk 3; (first | with_reducible exact sc_int); rfl; rfl; rfl)); rfl; rfl) | apply px_nil | apply qseq_normal | apply pwp_block | apply pwp_skip | (apply pwp_cond_dec; rfl; all_goals (intro hc; try (first | (exfalso; omega)))))
    refine pwp_loop (τ := Nat) [(11,13), (23,61)] (fun k => [(12, .int .i64 (k : Int)), (11, .int .i64 (cU F v k : Nat))]) (fun k => Cl [] w [.row 3 sv (ints (ordU n F v)), .blk bk [hv], .blk b2 [ov], .blk b1 [.int .i64 n, gv]]) (fun k => k ≤ n) (fun k => n - k) 0
      ⟨rfl, rfl, trivial⟩ (Nat.zero_le _) (fun _ h => h) (fun J2 k hk => ?_)
    have hcs := cU_succ F v k
    have hle := cU_le F v k
    by_cases hkn : k < n
    · have b1' := hbit O k v hkn hlt
      have b2' := hbit O v k hlt hkn
      have b3' := hbit H k v hkn hlt
      cases t with
      | true =>
        have hFk : F k v = true ↔ (iand (ishr ((gRows n H).getD k 0) (v : Int)) 1 = 1 ∨ iand (ishr ((gRows n O).getD v 0) (k : Int)) 1 = 1) := by rw [b3', b2', ← hF]; simp
        repeat' (first | apply pwp_seq | apply pwp_region | (apply px_run; (first | (apply opv_move; first | exact hid_int rfl | exact hid_bool rfl) | (apply opv_assign; first | exact hid_int rfl | exact hid_bool rfl) | (apply opv_lss <;> rfl) | (apply opv_eql <;> rfl) | (apply opv_and <;> rfl) | (apply opv_pick_t <;> rfl) | (apply opv_pick_f <;> rfl) | (apply opv_add_in; rfl; rfl; omega) | (apply opv_shr; rfl; rfl; omega) | (apply opv_field fld_G0; rfl) | (apply opv_field fld_O0; rfl) | (apply opv_load_blk 1; (first | with_reducible exact sc_int | with_reducible exact sc_ints); rfl; rfl; rfl) | (apply opv_load_blk 2; (first | with_reducible exact sc_int | with_reducible exact sc_ints); rfl; rfl; rfl) | (apply opv_load_blk 3; (first | with_reducible exact sc_int | with_reducible exact sc_ints); rfl; rfl; rfl) | (apply opv_load_ints sc_int; rfl; (first | exact rd_old (by assumption)); (first | omega)) | (apply opv_index_nat (vs := ints _) el_int; rfl; rfl; (first | exact rd_old (by assumption)); (first | (simp only [ints_length]; omega)))); rfl; rfl) | apply px_nil | (apply px_skip; rfl; rfl) | apply qseq_normal | apply pwp_block | apply qblock_normal | apply pwp_skip | (apply pwp_cond_t; rfl) | (apply px_guard_dec; rfl; rfl; rfl; all_goals (intro hc; try (first | fail))) | (apply pwp_cond_dec; rfl; all_goals (intro hc; try (first | (exfalso; omega)))))
        all_goals first
          | (refine qround_normal ?_ ⟨k + 1, ⟨rfl, by rw [hcs, if_pos (hFk.2 (by omega))]; rfl, trivial⟩, by omega, by omega, fun _ h => h⟩
             repeat (first | exact same_refl | refine same_upd rfl ?_ | refine same_junk rfl ?_))
          | (refine qround_normal ?_ ⟨k + 1, ⟨rfl, by rw [hcs, if_neg (fun h => by have := hFk.1 h; omega)]; rfl, trivial⟩, by omega, by omega, fun _ h => h⟩
             repeat (first | exact same_refl | refine same_upd rfl ?_ | refine same_junk rfl ?_))
      | false =>
        have hFk : F k v = true ↔ (iand (ishr ((gRows n H).getD k 0) (v : Int)) 1 = 1 ∨ iand (ishr ((gRows n O).getD k 0) (v : Int)) 1 = 1) := by rw [b3', b1', ← hF]; simp
        repeat' (first | apply pwp_seq | apply pwp_region | (apply px_run; (first | (apply opv_move; first | exact hid_int rfl | exact hid_bool rfl) | (apply opv_assign; first | exact hid_int rfl | exact hid_bool rfl) | (apply opv_lss <;> rfl) | (apply opv_eql <;> rfl) | (apply opv_and <;> rfl) | (apply opv_pick_t <;> rfl) | (apply opv_pick_f <;> rfl) | (apply opv_add_in; rfl; rfl; omega) | (apply opv_shr; rfl; rfl; omega) | (apply opv_field fld_G0; rfl) | (apply opv_field fld_O0; rfl) | (apply opv_load_blk 1; (first | with_reducible exact sc_int | with_reducible exact sc_ints); rfl; rfl; rfl) | (apply opv_load_blk 2; (first | with_reducible exact sc_int | with_reducible exact sc_ints); rfl; rfl; rfl) | (apply opv_load_blk 3; (first | with_reducible exact sc_int | with_reducible exact sc_ints); rfl; rfl; rfl) | (apply opv_load_ints sc_int; rfl; (first | exact rd_old (by assumption)); (first | omega)) | (apply opv_index_nat (vs := ints _) el_int; rfl; rfl; (first | exact rd_old (by assumption)); (first | (simp only [ints_length]; omega)))); rfl; rfl) | apply px_nil | (apply px_skip; rfl; rfl) | apply qseq_normal | apply pwp_block | apply qblock_normal | apply pwp_skip | (apply pwp_cond_t; rfl) | (apply pwp_cond_f; rfl) | (apply px_guard_dec; rfl; rfl; rfl; all_goals (intro hc; try (first | fail))) | (apply pwp_cond_dec; rfl; all_goals (intro hc; try (first | (exfalso; omega)))))
        all_goals first
          | (refine qround_normal ?_ ⟨k + 1, ⟨rfl, by rw [hcs, if_pos (hFk.2 (by omega))]; rfl, trivial⟩, by omega, by omega, fun _ h => h⟩
             repeat (first | exact same_refl | refine same_upd rfl ?_ | refine same_junk rfl ?_))
          | (refine qround_normal ?_ ⟨k + 1, ⟨rfl, by rw [hcs, if_neg (fun h => by have := hFk.1 h; omega)]; rfl, trivial⟩, by omega, by omega, fun _ h => h⟩
             repeat (first | exact same_refl | refine same_upd rfl ?_ | refine same_junk rfl ?_))
    · obtain rfl : k = n := by omega
      have hct := cU_lt hlt (hFi v)
      have hol := ordU_len k F v
      have hst : ordU k F (v + 1) = (ordU k F v).set (cU F v k) v := rfl
      repeat' (first | apply pwp_seq | apply pwp_region | (apply px_run; (first | (apply opv_move; first | exact hid_int rfl | rfl) | (apply opv_assign; first | exact hid_int rfl) | (apply opv_lss <;> rfl) | (apply opv_add_in; rfl; rfl; omega) | (apply opv_field fld_G0; rfl) | (apply opv_load_blk 3; (first | with_reducible exact sc_int); rfl; rfl; rfl) | (apply opv_index_nat (vs := ints _) el_int; rfl; rfl; (first | exact rd_row 0 rfl); (first | (simp only [ints_length]; omega)))); rfl; rfl) | apply px_nil | apply qseq_normal | apply qseq_exit | apply qblock_normal | (apply qblock_exit_same; rfl) | apply pwp_exit | apply qround_exit | (apply pwp_cond_dec; rfl; all_goals (intro hc; try (first | (exfalso; omega)))) | (apply px_store_int 0 co_int; rfl; rfl; rfl; (first | omega); rfl))
      refine qround_normal ?_ ⟨v + 1, ⟨rfl, trivial⟩, by omega, by omega, fun _ h => ?_⟩
      · repeat (first | exact same_refl | refine same_upd rfl ?_ | refine same_junk rfl ?_)
      · rw [hst]; exact h
  · obtain rfl : v = n := by omega
    repeat' (first | apply pwp_seq | apply pwp_region | (apply px_run; (first | (apply opv_move; first | exact hid_int rfl | rfl) | (apply opv_assign; first | rfl) | (apply opv_lss <;> rfl) | (apply opv_field fld_G0; rfl) | (apply opv_load_blk 3; (first | with_reducible exact sc_int); rfl; rfl; rfl)); rfl; rfl) | apply px_nil | apply qseq_normal | apply qseq_exit | (apply qblock_exit_same; rfl) | apply pwp_exit | apply pwp_ret | apply qround_exit | (apply pwp_cond_dec; rfl; all_goals (intro hc; try (first | (exfalso; omega)))))
    refine qbody_ret1 rfl rfl ⟨_, rfl, fun w' h => ?_⟩
    exact Cl.sub (by assumption) (by repeat (first | exact List.Sublist.slnil | exact List.Sublist.refl _ | apply List.Sublist.cons_cons | exact List.sublist_append_left _ _ | exact List.sublist_append_right _ _ | apply List.Sublist.cons))
end Go.Proofs.YtmmflnigejfplaaGreat
/- Permutation models: the program's and the reference's. -/
namespace Go.Proofs.YtmmflnigejfplaaGreat
open Go Go.RowKit Go.Pw
theorem en_s_PermutationModelOf : Entry Tryz.prog 7 := ⟨_, Tryz.func7, by kernel_rfl, rfl⟩
set_option maxRecDepth 100000 in
set_option maxHeartbeats 6400000 in
theorem s_PermutationModelOf_c (size : Int) (gv : Value) (rows : List Int) (w : World) (hr : Arr w gv (ints rows)) :
    Gives Tryz.prog 7 #[.agg #[.int .i64 size, gv]] w (fun v objs => ∃ sa sb, v = .tuple #[sa, sb, .bool (pmOk size rows)] ∧ objs = [.row 3 sa (ints (pmA size rows)), .row 3 sb (ints (pmB size rows))]) := by
  refine gives_enter (args := [_]) en_s_PermutationModelOf Tryz.func7 rfl Tryz.ntmps7 rfl ?_
  have hpk : pmOk size rows = ((oriX size rows).isSome && (oriX (barZ size rows) (barL size rows)).isSome) := rfl
  cases hok : pmOk size rows with
  | false =>
    have f1 : pmA size rows = [] := if_neg (by rw [hok]; exact Bool.false_ne_true)
    have f2 : pmB size rows = [] := if_neg (by rw [hok]; exact Bool.false_ne_true)
    rw [f1, f2]
    rw [hok] at hpk
    repeat' (first | apply pwp_seq | apply pwp_region | (apply px_run; (first | (apply opv_move; first | exact hid_bool rfl | rfl) | (apply opv_assign; first | exact hid_bool rfl | rfl) | (apply opv_pick_t <;> rfl) | (apply opv_pick_f <;> rfl) | (apply opv_not <;> rfl) | (apply opv_load_str 0 st_G; rfl; rfl; rfl) | (apply opv_load_str 2 st_G; rfl; rfl; rfl) | (apply opv_load_str 6 st_G; rfl; rfl; rfl) | (apply opv_load_str 0 st_O; rfl; rfl; rfl) | (apply opv_load_str 4 st_O; rfl; rfl; rfl) | (apply opv_extract; rfl; rfl)); rfl; rfl) | apply px_nil | (apply px_skip; rfl; rfl) | apply qseq_normal | apply qseq_ret | apply pwp_skip | apply pwp_ret | (apply pwp_cond_t; rfl) | (apply pwp_region_draw; kernel_rfl; kernel_rfl; exact Cl.stable _ _ _) | (apply px_guard_not; rfl; rfl; rfl; all_goals (intro hc; try (first | fail))) | (apply pwp_cond_not; rfl; all_goals (intro hc; try (first | fail))) | (apply px_box; rfl; rfl; rfl; rfl; intro bk) | (apply px_alloc st_G; rfl; rfl; rfl; intro bk) | (apply px_alloc st_O; rfl; rfl; rfl; intro bk) | (apply px_store_str 0 st_G; rfl; rfl; rfl; rfl; rfl; (intro w hw; (first | refine all2 rfl ?_ ?_) <;> (first | rfl | exact stor_row 1 hw rfl)); rfl) | (apply px_store_str 0 st_O; rfl; rfl; rfl; rfl; rfl; (intro w hw; (first | refine all1 rfl ?_) <;> (first | exact stor_row 1 hw rfl)); rfl) | (apply px_lit0 ez_int; rfl; rfl; rfl; intro sv) | (apply px_gives; rfl; rfl; rfl; rfl; rfl; exact fun w hw => s_OrientationOf_c _ _ rows _ (by first | exact hw.arr (by assumption)); rintro _ _ ⟨vo, rfl, rfl⟩) | (apply px_gives; rfl; rfl; rfl; rfl; rfl; exact fun w hw => s_ComplementOf_c _ _ rows _ (by first | exact hw.arr (by assumption)); rintro _ _ ⟨vb, rfl, rfl⟩) | (apply px_gives; rfl; rfl; rfl; rfl; rfl; exact fun w hw => s_OrientationOf_c (barZ size rows) _ (barL size rows) _ (by first | exact hw.rowArr (k := 1) rfl); rintro _ _ ⟨vh, rfl, rfl⟩))
    all_goals first
      | (exfalso; simp_all; done)
      | (refine qbody_ret3 rfl rfl rfl rfl ⟨_, ⟨_, _, rfl, rfl⟩, fun w' h => ?_⟩
         exact Cl.ofSel (by assumption) (by repeat (first | exact sel_nil | refine sel_cons 0 rfl ?_ | refine sel_cons 1 rfl ?_ | refine sel_cons 2 rfl ?_ | refine sel_cons 3 rfl ?_ | refine sel_cons 4 rfl ?_ | refine sel_cons 5 rfl ?_ | refine sel_cons 6 rfl ?_ | refine sel_cons 7 rfl ?_ | refine sel_cons 8 rfl ?_ | refine sel_cons 9 rfl ?_ | refine sel_cons 10 rfl ?_ | refine sel_cons 11 rfl ?_ | refine sel_cons 12 rfl ?_ | refine sel_cons 13 rfl ?_)))
  | true =>
    have hpm := pm_facts hok
    obtain ⟨n, hn, hrl, hn1, hn7⟩ := isG_size hpm.isG
    have k1 : ∀ w', Arr w' gv (ints rows) → Gives Tryz.prog 40 #[.agg #[.int .i64 size, gv]] w' (fun v objs => ∃ sv, v = .tuple #[.agg #[sv], .bool true] ∧ objs = [.row 3 sv (ints (gRows rows.length (oriQ size rows)))]) := fun w' h => by
      have := s_OrientationOf_c size gv rows w' h
      rw [hpm.one, hpm.o] at this; exact this
    have k2 : ∀ vb w', Arr w' vb (ints (barL size rows)) → Gives Tryz.prog 40 #[.agg #[.int .i64 (barZ size rows), vb]] w' (fun v objs => ∃ sv, v = .tuple #[.agg #[sv], .bool true] ∧ objs = [.row 3 sv (ints (gRows rows.length (oriQ (barZ size rows) (barL size rows))))]) := fun vb w' h => by
      have := s_OrientationOf_c (barZ size rows) vb (barL size rows) w' h
      rw [hpm.two, hpm.h] at this; exact this
    have e1 : pmA size rows = ordU rows.length (pmFA size rows) rows.length := if_pos hok
    have e2 : pmB size rows = ordU rows.length (pmFB size rows) rows.length := if_pos hok
    have hsz : size = (rows.length : Nat) := by omega
    have k3 : ∀ vo vh w', Arr w' vo (ints (gRows rows.length (oriQ size rows))) → Arr w' vh (ints (gRows rows.length (oriQ (barZ size rows) (barL size rows)))) → Gives Tryz.prog 41 #[.agg #[.int .i64 size, gv], .agg #[vo], .agg #[vh], .bool false] w' (fun v objs => objs = [.row 3 v (ints (pmA size rows))]) := fun vo vh w' h1 h2 => by
      have := s_l14Sort_c rows.length gv vo vh _ _ false w' h1 h2 (by omega) ori_irr ori_irr
      rw [← hsz, show (fun u v => oriQ (barZ size rows) (barL size rows) u v || if false = true then oriQ size rows v u else oriQ size rows u v) = pmFA size rows from by funext u v; simp [pmFA], ← e1] at this
      exact this
    have k4 : ∀ vo vh w', Arr w' vo (ints (gRows rows.length (oriQ size rows))) → Arr w' vh (ints (gRows rows.length (oriQ (barZ size rows) (barL size rows)))) → Gives Tryz.prog 41 #[.agg #[.int .i64 size, gv], .agg #[vo], .agg #[vh], .bool true] w' (fun v objs => objs = [.row 3 v (ints (pmB size rows))]) := fun vo vh w' h1 h2 => by
      have := s_l14Sort_c rows.length gv vo vh _ _ true w' h1 h2 (by omega) ori_irr ori_irr
      rw [← hsz, show (fun u v => oriQ (barZ size rows) (barL size rows) u v || if true = true then oriQ size rows v u else oriQ size rows u v) = pmFB size rows from by funext u v; simp [pmFB], ← e2] at this
      exact this
    repeat' (first | apply pwp_seq | apply pwp_region | (apply px_run; (first | (apply opv_move; first | exact hid_bool rfl | rfl) | (apply opv_assign; first | exact hid_bool rfl | rfl) | (apply opv_pick_f <;> rfl) | (apply opv_not <;> rfl) | (apply opv_load_str 0 st_G; rfl; rfl; rfl) | (apply opv_load_str 2 st_G; rfl; rfl; rfl) | (apply opv_extract; rfl; rfl)); rfl; rfl) | apply px_nil | apply qseq_normal | apply pwp_skip | (apply pwp_cond_f; rfl) | (apply px_box; rfl; rfl; rfl; rfl; intro bk) | (apply px_alloc st_G; rfl; rfl; rfl; intro bk) | (apply px_alloc st_O; rfl; rfl; rfl; intro bk) | (apply px_store_str 0 st_G; rfl; rfl; rfl; rfl; rfl; (intro w hw; (first | refine all2 rfl ?_ ?_) <;> (first | rfl | exact stor_row 1 hw rfl)); rfl) | (apply px_store_str 0 st_O; rfl; rfl; rfl; rfl; rfl; (intro w hw; (first | refine all1 rfl ?_) <;> (first | exact stor_row 1 hw rfl)); rfl) | (apply px_gives; rfl; rfl; rfl; rfl; rfl; exact fun w hw => k1 _ (by first | exact hw.arr (by assumption)); rintro _ _ ⟨vo, rfl, rfl⟩) | (apply px_gives; rfl; rfl; rfl; rfl; rfl; exact fun w hw => s_ComplementOf_c _ _ rows _ (by first | exact hw.arr (by assumption)); rintro _ _ ⟨vb, rfl, rfl⟩) | (apply px_gives; rfl; rfl; rfl; rfl; rfl; exact fun w hw => k2 _ _ (by first | exact hw.rowArr (k := 1) rfl); rintro _ _ ⟨vh, rfl, rfl⟩))
    rename_i bg bo bb
    repeat' (first | (apply px_run; (first | (apply opv_assign; first | exact hid_bool rfl | rfl) | (apply opv_load_str 6 st_G; rfl; rfl; rfl) | (apply opv_load_str 0 st_O; rfl; rfl; rfl) | (apply opv_load_str 4 st_O; rfl; rfl; rfl)); rfl; rfl) | apply px_nil | apply qseq_normal | apply pwp_ret | (apply pwp_region_any [0, 1, 2, 4, 5, 6] [] 5 (Cl [] w [.blk bk [vh], .row 3 vh _, .blk bb _, .row 3 vb _, .blk bo _, .row 3 vo _, .blk bg _]); kernel_rfl; decide +kernel; exact Cl.stable _ _ _; exact fun w h => h.sub (by repeat (first | exact List.Sublist.refl _))) | apply qlooks_normal | (apply qstep_in; exact fun w h => h.sub (by repeat (first | exact List.sublist_append_right _ _ | apply List.Sublist.cons))) | (apply pxa_nil; decide +kernel) | (apply pxa_one 3; decide +kernel; rfl) | (apply pxa_one 7; decide +kernel; rfl) | (apply pxa_one 8; decide +kernel; rfl) | (apply pxa_one 9; decide +kernel; rfl) | (apply pxa_one 10; decide +kernel; rfl) | (apply px_gives; rfl; rfl; rfl; rfl; rfl; exact fun w hw => k3 _ _ _ (by first | exact hw.rowArr (k := 5) rfl) (by first | exact hw.rowArr (k := 1) rfl); rintro sa _ rfl) | (apply px_gives; rfl; rfl; rfl; rfl; rfl; exact fun w hw => k4 _ _ _ (by first | exact hw.rowArr (k := 6) rfl) (by first | exact hw.rowArr (k := 2) rfl); rintro sb _ rfl))
    all_goals (
      refine qbody_ret3 rfl rfl rfl rfl ⟨_, ⟨_, _, rfl, rfl⟩, fun w' h => ?_⟩
      exact Cl.ofSel (by assumption) (by repeat (first | exact sel_nil | refine sel_cons 0 rfl ?_ | refine sel_cons 1 rfl ?_ | refine sel_cons 2 rfl ?_ | refine sel_cons 3 rfl ?_ | refine sel_cons 4 rfl ?_ | refine sel_cons 5 rfl ?_ | refine sel_cons 6 rfl ?_ | refine sel_cons 7 rfl ?_ | refine sel_cons 8 rfl ?_ | refine sel_cons 9 rfl ?_ | refine sel_cons 10 rfl ?_ | refine sel_cons 11 rfl ?_ | refine sel_cons 12 rfl ?_ | refine sel_cons 13 rfl ?_)))
theorem en_i_PermutationModelOf : Entry Tryz.prog 6 := ⟨_, Tryz.func6, by kernel_rfl, rfl⟩
set_option maxRecDepth 100000 in
set_option maxHeartbeats 6400000 in
theorem i_PermutationModelOf_c (size : Int) (gv : Value) (rows : List Int) (w : World) (hr : Arr w gv (ints rows)) (hlen : rows.length ≤ 1048576) :
    Gives Tryz.prog 6 #[.agg #[.int .i64 size, gv]] w (fun v objs => ∃ sa sb, v = .tuple #[sa, sb, .bool (pmOk size rows)] ∧ objs = [.row 3 sa (ints (pmA size rows)), .row 3 sb (ints (pmB size rows))]) := by
  refine gives_enter (args := [_]) en_i_PermutationModelOf Tryz.func6 rfl Tryz.ntmps6 rfl ?_
  have hpk : pmOk size rows = ((oriX size rows).isSome && (oriX (barZ size rows) (barL size rows)).isSome) := rfl
  have hbl : (barL size rows).length ≤ 1048576 := by
    unfold barL; split <;> simp <;> omega
  cases hok : pmOk size rows with
  | false =>
    have f1 : pmA size rows = [] := if_neg (by rw [hok]; exact Bool.false_ne_true)
    have f2 : pmB size rows = [] := if_neg (by rw [hok]; exact Bool.false_ne_true)
    rw [f1, f2]
    rw [hok] at hpk
    repeat' (first | apply pwp_seq | apply pwp_region | (apply px_run; (first | (apply opv_move; first | exact hid_bool rfl | rfl) | (apply opv_assign; first | exact hid_bool rfl | rfl) | (apply opv_pick_t <;> rfl) | (apply opv_pick_f <;> rfl) | (apply opv_not <;> rfl) | (apply opv_field fld_O0; rfl) | (apply opv_load_blk 0; (first | with_reducible exact sc_ints); rfl; rfl; rfl) | (apply opv_load_str 0 st_G; rfl; rfl; rfl) | (apply opv_load_str 2 st_G; rfl; rfl; rfl) | (apply opv_extract; rfl; rfl)); rfl; rfl) | apply px_nil | (apply px_skip; rfl; rfl) | apply qseq_normal | apply qseq_ret | apply pwp_skip | apply pwp_ret | (apply pwp_cond_t; rfl) | (apply pwp_region_draw; kernel_rfl; kernel_rfl; exact Cl.stable _ _ _) | (apply px_guard_not; rfl; rfl; rfl; all_goals (intro hc; try (first | fail))) | (apply pwp_cond_not; rfl; all_goals (intro hc; try (first | fail))) | (apply px_box; rfl; rfl; rfl; rfl; intro bk) | (apply px_alloc st_G; rfl; rfl; rfl; intro bk) | (apply px_alloc st_O; rfl; rfl; rfl; intro bk) | (apply px_store_str 0 st_G; rfl; rfl; rfl; rfl; rfl; (intro w hw; (first | refine all2 rfl ?_ ?_) <;> (first | rfl | exact stor_row 1 hw rfl)); rfl) | (apply px_store_str 0 st_O; rfl; rfl; rfl; rfl; rfl; (intro w hw; (first | refine all1 rfl ?_) <;> (first | exact stor_row 1 hw rfl)); rfl) | (apply px_gives; rfl; rfl; rfl; rfl; rfl; exact fun w hw => i_ComplementOf_c _ _ rows _ (by first | exact hw.arr (by assumption)); rintro _ _ ⟨vb, rfl, rfl⟩) | (apply px_gives; rfl; rfl; rfl; rfl; rfl; exact fun w hw => i_OrientationOf_c size gv rows _ (by first | exact hw.arr (by assumption)) hlen; rintro _ _ ⟨vo, rfl, rfl⟩) | (apply px_gives; rfl; rfl; rfl; rfl; rfl; exact fun w hw => i_OrientationOf_c (barZ size rows) _ (barL size rows) _ (by first | exact hw.rowArr (k := 3) rfl) hbl; rintro _ _ ⟨vh, rfl, rfl⟩))
    all_goals first
      | (exfalso; simp_all; done)
      | (refine qbody_ret3 rfl rfl rfl rfl ⟨_, ⟨_, _, rfl, rfl⟩, fun w' h => ?_⟩
         exact ((h.sub (List.nil_sublist _)).nilRow _).nilRow _)
  | true =>
    have hpm := pm_facts hok
    obtain ⟨n, hn, hrl, hn1, hn7⟩ := isG_size hpm.isG
    subst hn
    have hrl' : rows.length = n := hrl
    have k1 : ∀ w', Arr w' gv (ints rows) → Gives Tryz.prog 36 #[.agg #[.int .i64 n, gv]] w' (fun v objs => ∃ sv, v = .tuple #[.agg #[sv], .bool true] ∧ objs = [.row 3 sv (ints (gRows n (oriQ n rows)))]) := fun w' h => by
      have := i_OrientationOf_c n gv rows w' h hlen
      rw [hpm.one, hpm.o, hrl] at this; exact this
    have k2 : ∀ vb w', Arr w' vb (ints (barL n rows)) → Gives Tryz.prog 36 #[.agg #[.int .i64 (barZ n rows), vb]] w' (fun v objs => ∃ sv, v = .tuple #[.agg #[sv], .bool true] ∧ objs = [.row 3 sv (ints (gRows n (oriQ (barZ n rows) (barL n rows))))]) := fun vb w' h => by
      have := i_OrientationOf_c (barZ n rows) vb (barL n rows) w' h hbl
      rw [hpm.two, hpm.h, hrl] at this; exact this
    have e1 : pmA n rows = ordU n (pmFA n rows) n := by unfold pmA; rw [if_pos hok, hrl]
    have e2 : pmB n rows = ordU n (pmFB n rows) n := by unfold pmB; rw [if_pos hok, hrl]
    rw [e1, e2]
    have hHn : ∀ i, oriQ (barZ n rows) (barL n rows) i i = false := fun i => ori_irr i
    have hOn : ∀ i, oriQ n rows i i = false := fun i => ori_irr i
    have hFA : pmFA n rows = fun u v => oriQ (barZ n rows) (barL n rows) u v || oriQ n rows u v := rfl
    have hFB : pmFB n rows = fun u v => oriQ (barZ n rows) (barL n rows) u v || oriQ n rows v u := rfl
    have hIA := pmFA_irr n rows
    have hIB := pmFB_irr n rows
    generalize pmFA n rows = FA at *
    generalize pmFB n rows = FB at *
    generalize oriQ (barZ n rows) (barL n rows) = H at *
    generalize oriQ n rows = O at *
    repeat' (first | apply pwp_seq | apply pwp_region | (apply px_run; (first | (apply opv_move; first | exact hid_bool rfl | rfl) | (apply opv_assign; first | exact hid_bool rfl | rfl) | (apply opv_pick_f <;> rfl) | (apply opv_not <;> rfl) | (apply opv_load_str 0 st_G; rfl; rfl; rfl) | (apply opv_load_str 2 st_G; rfl; rfl; rfl) | (apply opv_extract; rfl; rfl)); rfl; rfl) | apply px_nil | apply qseq_normal | apply pwp_skip | (apply pwp_cond_f; rfl) | (apply px_box; rfl; rfl; rfl; rfl; intro bk) | (apply px_alloc st_G; rfl; rfl; rfl; intro bk) | (apply px_alloc st_O; rfl; rfl; rfl; intro bk) | (apply px_store_str 0 st_G; rfl; rfl; rfl; rfl; rfl; (intro w hw; (first | refine all2 rfl ?_ ?_) <;> (first | rfl | exact stor_row 1 hw rfl)); rfl) | (apply px_store_str 0 st_O; rfl; rfl; rfl; rfl; rfl; (intro w hw; (first | refine all1 rfl ?_) <;> (first | exact stor_row 1 hw rfl)); rfl) | (apply px_gives; rfl; rfl; rfl; rfl; rfl; exact fun w hw => i_ComplementOf_c _ _ rows _ (by first | exact hw.arr (by assumption)); rintro _ _ ⟨vb, rfl, rfl⟩) | (apply px_gives; rfl; rfl; rfl; rfl; rfl; exact fun w hw => k1 _ (by first | exact hw.arr (by assumption)); rintro _ _ ⟨vo, rfl, rfl⟩) | (apply px_gives; rfl; rfl; rfl; rfl; rfl; exact fun w hw => k2 _ _ (by first | exact hw.rowArr (k := 3) rfl); rintro _ _ ⟨vh, rfl, rfl⟩))
    rename_i bg bb bo
    have hHl := gRows_length n H
    have hOl := gRows_length n O
    repeat' (first | apply pwp_seq | apply pwp_region | (apply px_run; (first | (apply opv_move; first | exact hid_int rfl) | (apply opv_assign; first | rfl) | (apply opv_field fld_O0; rfl) | (apply opv_load_blk 0; (first | with_reducible exact sc_ints); rfl; rfl; rfl) | (apply opv_load_blk 4; (first | with_reducible exact sc_ints); rfl; rfl; rfl) | (apply opv_len_ints el_int; rfl; (first | exact rd_row 5 rfl))); rfl; rfl) | apply px_nil | apply qseq_normal | apply pwp_block | (apply pwp_region_any [0, 1, 3, 4] [] 4 (Cl [] w [.blk bk [vh], .row 3 vh _, .blk bo [vo], .row 3 vo _, .blk bb _, .row 3 vb _, .blk bg _]); kernel_rfl; decide +kernel; exact Cl.stable _ _ _; exact fun w h => h.sub (by repeat (first | exact List.Sublist.refl _))) | apply qlooks_normal | (apply qstep_in; exact fun w h => h.sub (by repeat (first | exact List.sublist_append_right _ _ | apply List.Sublist.cons))) | (apply pxa_nil; decide +kernel) | (apply pxa_one 2; decide +kernel; rfl) | (apply pxa_one 5; decide +kernel; rfl) | (apply pxa_one 6; decide +kernel; rfl) | (apply pxa_one 7; decide +kernel; rfl) | (apply px_gives; rfl; rfl; rfl; rfl; rfl; exact fun w hw => x_Clone_c _ _ _ (by first | exact hw.rowArr (k := 1) rfl | exact hw.rowArr (k := 2) rfl) (by omega); rintro av _ rfl))
    rename_i a1
    refine pwp_loop (τ := Nat) [(13,14), (16,16), (47,75)] (fun i => [(47, .int .i64 (i : Int))]) (fun i => Cl [] w [.row 3 av (ints (gRows n (bU H O i))), .row 3 a1 (ints (gRows n (aU H O i))), .blk bk [vh], .row 3 vh (ints (gRows n H)), .blk bo [vo], .row 3 vo (ints (gRows n O)), .blk bb [.int .i64 (barZ n rows), vb], .row 3 vb (ints (barL n rows)), .blk bg [.int .i64 n, gv]]) (fun i => i ≤ n) (fun i => n - i) 0
      ⟨rfl, trivial⟩ (Nat.zero_le _) (fun w' h => by rw [aU_zero, bU_zero]; exact h) (fun J i hi => ?_)
    by_cases hin : i < n
    · have hal := gRows_length n (aU H O i)
      have has1 := aU_step H O hn7 hin
      have hbs := bU_step H O hn7 hin
      have hrg : ∀ k, k < (listS ((gRows n O).getD i 0)).length → _ := fun k => row_getD (k := k) O hn7 hin
      have hLl := listS_length ((gRows n O).getD i 0)
      generalize hLe : listS ((gRows n O).getD i 0) = L at *
      have kL : ∀ w', Gives Tryz.prog 38 #[.int .i64 ((gRows n O).getD i 0)] w' (fun v objs => objs = [.row 3 v (ints L)]) := fun w' => by
        have := i_ListOf_c ((gRows n O).getD i 0) w'
        rw [hLe] at this; exact this
      repeat' (first | apply pwp_seq | apply pwp_region | (apply px_run; (first | (apply opv_move; first | exact hid_int rfl | rfl) | (apply opv_assign; first | exact hid_int rfl) | (apply opv_lss <;> rfl) | (apply opv_or <;> rfl) | (apply opv_load_ints sc_int; rfl; (first | exact rd_row 1 rfl | exact rd_row 5 rfl); (first | omega)) | (apply opv_index_nat (vs := ints _) el_int; rfl; rfl; (first | exact rd_row 1 rfl | exact rd_row 5 rfl); (first | (simp only [ints_length]; omega))) | (apply opv_len_ints el_int; rfl; (first | exact rd_row 0 rfl))); rfl; rfl) | apply px_nil | apply qseq_normal | apply pwp_block | apply pwp_skip | (apply pwp_cond_dec; rfl; all_goals (intro hc; try (first | (exfalso; omega)))) | (apply px_store_int 1 co_int; rfl; rfl; rfl; (first | omega); rfl) | (apply px_gives; rfl; rfl; rfl; rfl; rfl; exact fun w hw => kL _; rintro sl _ rfl))
      refine pwp_loop (τ := Nat) [(16,16), (62,74)] (fun k => [(62, .int .i64 (k : Int))]) (fun k => Cl [] w [.row 3 sl (ints L), .row 3 av (ints (gRows n (orC (bU H O i) i L k))), .row 3 a1 (ints (gRows n (aU H O (i + 1)))), .blk bk [vh], .row 3 vh (ints (gRows n H)), .blk bo [vo], .row 3 vo (ints (gRows n O)), .blk bb [.int .i64 (barZ n rows), vb], .row 3 vb (ints (barL n rows)), .blk bg [.int .i64 n, gv]]) (fun k => k ≤ L.length) (fun k => L.length - k) 0
        ⟨rfl, trivial⟩ (Nat.zero_le _) (fun w' h => by rw [← has1]; exact h) (fun J2 k hk => ?_)
      by_cases hkl : k < L.length
      · obtain ⟨x, hx, hxn⟩ := hrg k hkl
        have hql := gRows_length n (orC (bU H O i) i L k)
        have hor := gRows_or (orC (bU H O i) i L k) hn7 hxn hin
        have hsu : orC (bU H O i) i L (k + 1) = addQ (orC (bU H O i) i L k) x i := by rw [orC, hx]; rfl
        have d0 : 0 ≤ L.getD k 0 ∧ L.getD k 0 < n := by omega
        have e0' : (L.getD k 0).toNat = x := by omega
        have hor2 : (gRows n (orC (bU H O i) i L k)).set (L.getD k 0).toNat (ior ((gRows n (orC (bU H O i) i L k)).getD (L.getD k 0).toNat 0) (ishl 1 (i : Int))) = gRows n (orC (bU H O i) i L (k + 1)) := by rw [e0', hsu]; exact hor
        repeat' (first | apply pwp_seq | apply pwp_region | (apply px_run; (first | (apply opv_move; first | exact hid_int rfl | rfl) | (apply opv_assign; first | exact hid_int rfl) | (apply opv_lss <;> rfl) | (apply opv_or <;> rfl) | (apply opv_add_in; rfl; rfl; omega) | (apply opv_shl; rfl; rfl; omega) | (apply opv_load_ints sc_int; rfl; (first | exact rd_row 0 rfl | exact rd_row 1 rfl); (first | omega)) | (apply opv_index_nat (vs := ints _) el_int; rfl; rfl; (first | exact rd_row 0 rfl); (first | (simp only [ints_length]; omega))) | (apply opv_index (vs := ints _) el_int; rfl; rfl; (first | exact rd_row 1 rfl); omega; (first | (simp only [ints_length]; omega)))); rfl; rfl) | apply px_nil | apply qseq_normal | apply pwp_block | apply qblock_normal | apply pwp_skip | (apply pwp_region_any [0, 1, 2, 3, 4, 5, 6] [8] 2 (Cl [] w [.row 3 sl _, .row 3 av _, .row 3 a1 _, .blk bk _, .row 3 vh _, .blk bo _, .row 3 vo _, .blk bb _, .row 3 vb _, .blk bg _]); kernel_rfl; decide +kernel; exact Cl.stable _ _ _; exact fun w h => h.sub (by repeat (first | exact List.Sublist.refl _))) | apply qlooks_normal | (apply qstep_out; decide +kernel) | (apply qstep_in; exact fun w h => h.sub (by repeat (first | exact List.Sublist.refl _))) | (apply pxa_nil; decide +kernel) | (apply pxa_one 7; decide +kernel; rfl) | (apply pxa_one 8; decide +kernel; rfl) | (apply pwp_cond_dec; rfl; all_goals (intro hc; try (first | (exfalso; omega)))) | (apply px_store_int 1 co_int; rfl; rfl; rfl; (first | omega); rfl))
        refine qround_normal ?_ ⟨k + 1, ⟨rfl, trivial⟩, by omega, by omega, fun w' h => ?_⟩
        · repeat (first | exact same_refl | refine same_upd rfl ?_ | refine same_junk rfl ?_)
        · rw [← hor2]
          exact h
      obtain rfl : k = L.length := by omega
      repeat' (first | apply pwp_seq | apply pwp_region | (apply px_run; (first | (apply opv_move; first | exact hid_int rfl) | (apply opv_lss <;> rfl) | (apply opv_add_in; rfl; rfl; omega)); rfl; rfl) | apply px_nil | apply qseq_normal | apply qseq_exit | apply qblock_normal | (apply qblock_exit_same; rfl) | apply pwp_exit | apply qround_exit | (apply pwp_cond_dec; rfl; all_goals (intro hc; try (first | (exfalso; omega)))))
      refine qround_normal ?_ ⟨i + 1, ⟨rfl, trivial⟩, by omega, by omega, fun w' h => ?_⟩
      · repeat (first | exact same_refl | refine same_upd rfl ?_ | refine same_junk rfl ?_)
      · rw [← hbs]
        exact Cl.sub (by assumption) (by repeat (first | exact List.Sublist.slnil | exact List.Sublist.refl _ | apply List.Sublist.cons_cons | exact List.sublist_append_left _ _ | exact List.sublist_append_right _ _ | apply List.Sublist.cons))
    obtain rfl : i = n := by omega
    rw [aU_done, bU_done, ← hFA, ← hFB]
    repeat' (first | apply pwp_seq | apply pwp_region | (apply px_run; (first | (apply opv_move; first | rfl) | (apply opv_assign; first | exact hid_bool rfl | rfl) | (apply opv_lss <;> rfl)); rfl; rfl) | apply px_nil | apply qseq_normal | apply qseq_exit | (apply qblock_exit_same; rfl) | apply pwp_exit | apply pwp_ret | apply qround_exit | (apply pwp_cond_dec; rfl; all_goals (intro hc; try (first | (exfalso; omega)))) | (apply px_gives; rfl; rfl; rfl; rfl; rfl; exact fun w hw => i_orderOf_c _ _ _ _ (by first | exact hw.rowArr (k := 1) rfl) hn7 hIA; rintro sa _ rfl) | (apply px_gives; rfl; rfl; rfl; rfl; rfl; exact fun w hw => i_orderOf_c _ _ _ _ (by first | exact hw.rowArr (k := 1) rfl) hn7 hIB; rintro sb _ rfl))
    refine qbody_ret3 rfl rfl rfl rfl ⟨_, ⟨_, _, rfl, rfl⟩, fun w' h => ?_⟩
    exact Cl.ofSel (by assumption) (by repeat (first | exact sel_nil | refine sel_cons 0 rfl ?_ | refine sel_cons 1 rfl ?_ | refine sel_cons 2 rfl ?_ | refine sel_cons 3 rfl ?_ | refine sel_cons 4 rfl ?_ | refine sel_cons 5 rfl ?_ | refine sel_cons 6 rfl ?_ | refine sel_cons 7 rfl ?_ | refine sel_cons 8 rfl ?_ | refine sel_cons 9 rfl ?_ | refine sel_cons 10 rfl ?_ | refine sel_cons 11 rfl ?_ | refine sel_cons 12 rfl ?_ | refine sel_cons 13 rfl ?_))
theorem en_i_IsPermutationGraph : Entry Tryz.prog 10 := ⟨_, Tryz.func10, by kernel_rfl, rfl⟩
theorem i_IsPermutationGraph_c (size : Int) (gv : Value) (rows : List Int) (w : World) (hr : Arr w gv (ints rows)) (hlen : rows.length ≤ 1048576) :
    Pure Tryz.prog 10 #[.agg #[.int .i64 size, gv]] w (.bool (pmOk size rows)) := by
  refine pure_enter (args := [_]) en_i_IsPermutationGraph Tryz.func10 rfl Tryz.ntmps10 rfl ?_
  repeat' (first | apply pwp_seq | apply pwp_region | (apply px_run; (first | (apply opv_move; first | exact hid_bool rfl | rfl) | (apply opv_assign; first | exact hid_bool rfl | rfl) | (apply opv_load_str 0 st_G; rfl; rfl; rfl) | (apply opv_extract; rfl; rfl)); rfl; rfl) | apply px_nil | apply qseq_normal | apply pwp_ret | (apply px_box; rfl; rfl; rfl; rfl; intro bk) | (apply px_gives; rfl; rfl; rfl; rfl; rfl; exact fun w hw => i_PermutationModelOf_c _ _ rows _ (by first | exact hw.arr (by assumption)) hlen; rintro _ _ ⟨sa, sb, rfl, rfl⟩))
  refine qbody_ret1 (v := .bool _) rfl rfl ⟨rfl, fun _ h => h.below⟩
end Go.Proofs.YtmmflnigejfplaaGreat
