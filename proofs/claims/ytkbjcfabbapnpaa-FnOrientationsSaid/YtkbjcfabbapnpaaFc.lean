/- Chains of arcs that force one another: the program's and the reference's. -/
import Derived.Test.YtkbjcfabbapnpaaAr
namespace Go.Proofs.Ytkbjcfabbapnpaa
open Go Go.RowKit Go.Pw
theorem en_x_slices_Reverse_int_int : Entry Try.prog 43 := ⟨_, Try.func43, by kernel_rfl, rfl⟩
set_option maxHeartbeats 800000 in
theorem x_ReverseS_c (sv : Value) (ps : Pairs) (w : World) (ho : Own w [.row 24 sv (svsOf ps)]) (hs : ∀ u ∈ svsOf ps, storable u = true) (hl : ps.length ≤ 100000) :
    Turns Try.prog 43 #[sv] w [.row 24 sv (svsOf ps)] [.row 24 sv (svsOf ps.reverse)] (.tuple #[]) := by
  refine turns_enter (args := [_]) ho en_x_slices_Reverse_int_int Try.func43 rfl Try.ntmps43 rfl fun X => ?_
  repeat' (first | apply pwp_seq | apply pwp_region | (apply px_run; (first | (apply opv_move; first | rfl) | (apply opv_assign; first | exact hid_int rfl) | (apply opv_sub_in; rfl; rfl; omega) | (apply opv_len_svs el_intss; rfl; (first | exact rd_row 0 rfl))); rfl; rfl) | apply px_nil | apply qseq_normal | apply pwp_block)
  refine pwp_loop (τ := Nat) [(2,3), (7,27)] (fun i => [(2, .int .i64 (i : Int)), (3, .int .i64 ((ps.length : Int) - 1 - i))]) (fun i => Cl X w [.row 24 sv (svsOf (revU (undef, []) ps i))]) (fun i => 2 * i ≤ ps.length ∧ ∀ u ∈ svsOf (revU (undef, []) ps i), storable u = true) (fun i => ps.length - i) 0
    ⟨rfl, by show Value.int .i64 _ = .int .i64 (_ - ((0 : Nat) : Int)); simp, trivial⟩ ⟨Nat.zero_le _, hs⟩ (fun _ h => h) (fun J i hi => ?_)
  obtain ⟨hi, hst⟩ := hi
  have hrl := revU_length (undef, []) ps i
  by_cases hlt : 2 * i + 1 < ps.length
  · obtain ⟨j, hj⟩ : ∃ j : Nat, (ps.length : Int) - 1 - i = j := ⟨ps.length - 1 - i, by omega⟩
    have hat : ∀ k, k < (revU (undef, []) ps i).length → storable (svAt (revU (undef, []) ps i) k) = true := fun k hk => hst _ (List.mem_of_getElem? (svs_get hk))
    have h1 := hat i (by omega)
    have h2 := hat j (by omega)
    rw [hj]
    repeat' (first | apply pwp_seq | apply pwp_region | (apply px_run; (first | (apply opv_index_nat el_intss; rfl; rfl; exact rd_row 0 rfl; (simp only [List.length_set, svsOf_length]; omega)) | (apply opv_move; first | exact hid_int rfl | rfl) | (apply opv_assign; first | exact hid_int rfl) | (apply opv_lss <;> rfl) | (apply opv_add_in; rfl; rfl; omega) | (apply opv_sub_in; rfl; rfl; omega) | (apply opv_load_svs sc_ints; rfl; (first | exact rd_row 0 rfl); omega)); rfl; rfl) | apply px_nil | apply qseq_normal | apply pwp_block | apply qblock_normal | apply pwp_skip | (apply pwp_region_tail [2, 3] [0, 1, 4, 5, 6, 7, 8, 9, 10, 11] [12, 13, 14, 15]; kernel_rfl; decide +kernel; exact Cl.stable _ _ _) | apply qtail_normal | apply qnorm_normal | (apply pwp_cond_dec; rfl; all_goals (intro hc; try (first | (exfalso; omega)))) | (apply px_store_row 0; (first | with_reducible exact co_ints); rfl; rfl; rfl; (intro w hw; (first | assumption)); (simp [ints]; omega); rfl))
    have e : ps.length - 1 - i = j := by omega
    have hR : svsOf (revU (undef, []) ps (i + 1)) = ((svsOf (revU (undef, []) ps i)).set i (svAt (revU (undef, []) ps i) j)).set j (svAt (revU (undef, []) ps i) i) := by
      rw [revU, e, svs_set, svs_set]; rfl
    refine qround_normal ?_ ⟨i + 1, ⟨rfl, ?_, trivial⟩, ⟨by omega, fun u hu => ?_⟩, by omega, fun w' h => ?_⟩
    · repeat (first | exact same_refl | refine same_upd rfl ?_ | refine same_junk rfl ?_)
    · show Value.int .i64 _ = .int .i64 _; congr 1; omega
    · rw [hR] at hu
      rcases List.mem_or_eq_of_mem_set hu with hu | rfl
      · rcases List.mem_or_eq_of_mem_set hu with hu | rfl
        · exact hst u hu
        · exact h2
      · exact h1
    · rw [hR]; exact h
  · repeat' (first | apply pwp_seq | apply pwp_region | (apply px_run; (first | (apply opv_move; first | exact hid_int rfl) | (apply opv_lss <;> rfl)); rfl; rfl) | apply px_nil | apply qseq_normal | apply qseq_exit | (apply qblock_exit_same; rfl) | apply pwp_exit | apply qround_exit | (apply pwp_cond_dec; rfl; all_goals (intro hc; try (first | (exfalso; omega)))))
    refine qbody_end0 rfl ⟨rfl, fun w' h => ?_⟩
    rw [revU_all (undef, []) ps i hi (by omega)] at h; exact h
theorem en_i_ForcingChain : Entry Try.prog 8 := ⟨_, Try.func8, by kernel_rfl, rfl⟩
theorem chainK_step {rows : List Int} {es : Pairs} {k : Nat} (h : k < es.length) : chainK rows ((lssOf es).drop k) = (chainX rows ((lsAt es k).getD 0 0) ((lsAt es k).getD 1 0)).or (chainK rows ((lssOf es).drop (k + 1))) := by
  rw [lss_drop h]
  unfold chainK
  rw [List.findSome?_cons]
  cases chainX rows ((lsAt es k).getD 0 0) ((lsAt es k).getD 1 0) <;> rfl
set_option maxRecDepth 100000 in
set_option maxHeartbeats 16000000 in
theorem i_ForcingChain_c (size : Int) (gv : Value) (rows : List Int) (w : World) (hr : Arr w gv (ints rows)) :
    Gives Try.prog 8 #[.agg #[.int .i64 size, gv]] w (fun v objs => ∃ sv qs, v = .tuple #[sv, .bool (forceX size rows).isSome] ∧ lssOf qs = (forceX size rows).getD [] ∧ objs = .row 24 sv (svsOf qs) :: rowsOb 3 qs) := by
  refine gives_enter (args := [_]) en_i_ForcingChain Try.func8 rfl Try.ntmps8 rfl ?_
  have hF : forceX size rows = chainK rows (edgesL size rows) := rfl
  have hel := edgesL_length size rows
  have hem := fun e he => edges_mem (size := size) (rows := rows) (e := e) he
  repeat' (first | apply pwp_seq | apply pwp_region | (apply px_run; (first | (apply opv_move; first | exact hid_int rfl) | (apply opv_assign; first | exact hid_bool rfl | rfl) | (apply opv_load_str 0 st_G; rfl; rfl; rfl) | (apply opv_len_svs el_intss; rfl; (first | exact rd_row 0 rfl))); rfl; rfl) | apply px_nil | apply qseq_normal | apply pwp_block | (apply px_box; rfl; rfl; rfl; rfl; intro bk) | (apply px_givesT; rfl; rfl; rfl; rfl; rfl; exact fun w hw => i_EdgesOf_c _ _ rows _ (by first | exact hw.arr (by assumption)); rintro ve _ ⟨es, hes, rfl⟩; refine ⟨[_], _, rfl, ?_⟩))
  rw [← hes] at hF hem hel
  rw [lssOf_length] at hel
  rw [hF]
  refine pwp_loop (τ := Nat) [(2,3), (5,9), (13,56)] (fun k => [(13, .int .i64 (k : Int))]) (fun k => Cl [] w (.row 24 ve (svsOf es) :: .blk bk [.int .i64 size, gv] :: rowsOb 3 es)) (fun k => k ≤ es.length ∧ chainK rows ((lssOf es).drop k) = chainK rows (lssOf es)) (fun k => es.length - k) 0
    ⟨rfl, trivial⟩ ⟨Nat.zero_le _, rfl⟩ (fun _ h => h) (fun J k hk => ?_)
  obtain ⟨hk, hch⟩ := hk
  rw [← hch]
  by_cases hlt : k < es.length
  · obtain ⟨a, b, hab, hab2, hb, hg, _⟩ := hem (lsAt es k) (lsAt_mem hlt)
    have ha : a < rows.length := by omega
    have hmem : Ob.row 3 (svAt es k) (ints (lsAt es k)) ∈ rowsOb 3 es := row_mem hlt
    have hll : (lsAt es k).length = 2 := by rw [hab]; rfl
    obtain ⟨n, hn, hrl, hn1, hn7⟩ := isG_size hg
    have harc : arcN rows.length [(a : Int), (b : Int)] := ⟨a, b, rfl, ha, hb⟩
    have hok := forcedA_ok harc
    have hbd := hok.bound (by omega)
    have hlen := hok.len
    have hback := hok.back
    have hcs := chainK_step (rows := rows) hlt
    have hcx : chainX rows ((lsAt es k).getD 0 0) ((lsAt es k).getD 1 0) = if [(lsAt es k).getD 1 0, (lsAt es k).getD 0 0] ∈ (forcedA rows a b).1 then some ((chainI (forcedA rows a b).2 (placeA (forcedA rows a b).1 [(lsAt es k).getD 1 0, (lsAt es k).getD 0 0])).map fun i => (forcedA rows a b).1.getD i []) else none := by
      rw [hab]; rfl
    have key : ∀ w', Arr w' gv (ints rows) → Gives Try.prog 35 #[.agg #[.int .i64 size, gv], .int .i64 ((lsAt es k).getD 0 0), .int .i64 ((lsAt es k).getD 1 0)] w' (fun v objs => ∃ sv sf ps, v = .tuple #[sv, sf] ∧ lssOf ps = (forcedA rows a b).1 ∧ objs = .row 24 sv (svsOf ps) :: .row 3 sf (ints (forcedA rows a b).2) :: rowsOb 3 ps) := fun w' h => by
      rw [hab]; exact i_forced_c size gv rows a b w' h hg ha hb
    generalize chainX rows ((lsAt es k).getD 0 0) ((lsAt es k).getD 1 0) = CX at hcs hcx
    generalize forcedA rows a b = FA at *
    have hpr := placeA_range FA.1 [(lsAt es k).getD 1 0, (lsAt es k).getD 0 0]
    have hpm := placeA_mem FA.1 [(lsAt es k).getD 1 0, (lsAt es k).getD 0 0]
    generalize hpl0 : placeA FA.1 [(lsAt es k).getD 1 0, (lsAt es k).getD 0 0] = at0 at *
    have hpa : ∀ (vf vg sl : Value) (fs : Pairs) (w' : World), lssOf fs = FA.1 → Cl [] w (.row 3 sl [.int .i64 ((lsAt es k).getD 1 0), .int .i64 ((lsAt es k).getD 0 0)] :: .row 24 vf (svsOf fs) :: .row 3 vg (ints FA.2) :: .row 24 ve (svsOf es) :: .blk bk [.int .i64 size, gv] :: (rowsOb 3 es ++ rowsOb 3 fs)) w' →
        Pure Try.prog 36 #[vf, sl] w' (.int .i64 at0) := fun vf vg sl fs w' hfs hw => by
      rw [← hpl0, ← hfs]
      have hfl := congrArg List.length hfs
      rw [lssOf_length] at hfl
      exact i_indexOf_c _ _ fs _ _ (hw.arrS 1 rfl fun o ho => List.mem_cons_of_mem _ (List.mem_cons_of_mem _ (List.mem_cons_of_mem _ (List.mem_cons_of_mem _ (List.mem_cons_of_mem _ (List.mem_append_right _ ho)))))) (by omega) (hw.rowArr (k := 0) rfl)
    by_cases hneg : at0 < 0
    · have hx : CX = none := by rw [hcx, if_neg (fun h => by have := hpm.2 h; omega)]
      repeat' (first | apply pwp_seq | apply pwp_region | (apply px_run; (first | (apply opv_move; first | exact hid_int rfl | rfl) | (apply opv_assign; first | exact hid_int rfl | rfl) | (apply opv_lss <;> rfl) | (apply opv_add_in; rfl; rfl; omega) | (apply opv_load_ints sc_int; rfl; (first | exact rd_mem (by repeat (first | assumption | apply List.mem_cons_of_mem | apply List.mem_append_right)) | exact rd_mem (by repeat (first | assumption | apply List.mem_cons_of_mem | apply List.mem_append_left))); (first | omega)) | (apply opv_index_nat (k := 0) (vs := ints _) el_int; rfl; rfl; (first | exact rd_mem (by repeat (first | assumption | apply List.mem_cons_of_mem | apply List.mem_append_right)) | exact rd_mem (by repeat (first | assumption | apply List.mem_cons_of_mem | apply List.mem_append_left))); (first | (simp only [ints_length]; first | omega))) | (apply opv_index_nat (k := 1) (vs := ints _) el_int; rfl; rfl; (first | exact rd_mem (by repeat (first | assumption | apply List.mem_cons_of_mem | apply List.mem_append_right)) | exact rd_mem (by repeat (first | assumption | apply List.mem_cons_of_mem | apply List.mem_append_left))); (first | (simp only [ints_length]; first | omega))) | (apply opv_load_str 1 st_G; rfl; rfl; rfl) | (apply opv_load_svs sc_ints; rfl; (first | exact rd_row 0 rfl); omega) | (apply opv_index_nat (vs := svsOf _) el_intss; rfl; rfl; (first | exact rd_row 0 rfl); (simp only [svsOf_length]; omega)) | (apply opv_extract; rfl; rfl) | (apply opv_call; rfl; rfl; exact Cl.stable _ _ _; exact fun w hw => hpa _ _ _ _ _ hfs hw)); rfl; rfl) | apply px_nil | apply qseq_normal | apply qseq_exit | apply pwp_block | (apply qblock_exit_same; rfl) | apply pwp_skip | apply pwp_exit | (apply pwp_region_any [0, 1, 2, 3, 4, 5, 6] [] 6 (Cl [] w (.row 24 ve (svsOf es) :: .blk bk [.int .i64 size, gv] :: rowsOb 3 es)); kernel_rfl; decide +kernel; exact Cl.stable _ _ _; exact fun w h => h.sub (by repeat (first | exact List.Sublist.refl _))) | apply qlooks_normal | (apply qstep_in; exact fun w h => h.sub (by repeat (first | apply List.Sublist.cons_cons | exact List.sublist_append_left _ _ | apply List.Sublist.cons))) | (apply pxa_nil; decide +kernel) | (apply pxa_one 7; decide +kernel; rfl) | (apply pxa_one 8; decide +kernel; rfl) | (apply pxa_one 9; decide +kernel; rfl) | (apply pxa_one 10; decide +kernel; rfl) | (apply pxa_one 11; decide +kernel; rfl) | (apply pxa_one 12; decide +kernel; rfl) | (apply pxa_two 9 10; decide +kernel; rfl; rfl) | (apply pxa_two 10 11; decide +kernel; rfl; rfl) | (apply pwp_region_mix; kernel_rfl; decide +kernel; exact Cl.stable _ _ _) | (apply pwp_cond_dec; rfl; all_goals (intro hc; try (first | contradiction | (exfalso; omega)))) | (apply px_lit2 ez_int; rfl; (intro w hw; (first | rfl)); rfl; (intro w hw; (first | rfl)); rfl; rfl; rfl; intro sv) | (apply px_givesT; rfl; rfl; rfl; rfl; rfl; exact fun w hw => key _ (by first | exact hw.arr (by assumption)); rintro _ _ ⟨vf, vg, fs, rfl, hfs, rfl⟩; refine ⟨[_, _], _, rfl, ?_⟩))
      all_goals (
        refine qround_normal ?_ ⟨k + 1, ⟨rfl, trivial⟩, ⟨by omega, ?_⟩, by omega, fun w' h => ?_⟩
        · repeat (first | exact same_refl | refine same_upd rfl ?_ | refine same_junk rfl ?_)
        · rw [hcs, hx]; rfl
        · refine h.sub (List.Sublist.cons _ (List.Sublist.cons _ (List.Sublist.cons _ (List.Sublist.cons_cons _ (List.Sublist.cons_cons _ ?_)))))
          exact List.sublist_append_left _ _)
    · have hx : CX = some ((chainI FA.2 at0).map fun i => FA.1.getD i []) := by rw [hcx, if_pos (hpm.1 (by omega))]
      rw [hcs, hx]
      repeat' (first | apply pwp_seq | apply pwp_region | (apply px_run; (first | (apply opv_move; first | exact hid_int rfl | rfl) | (apply opv_assign; first | exact hid_int rfl | rfl) | (apply opv_lss <;> rfl) | (apply opv_load_ints sc_int; rfl; (first | exact rd_mem (by repeat (first | assumption | apply List.mem_cons_of_mem | apply List.mem_append_right)) | exact rd_mem (by repeat (first | assumption | apply List.mem_cons_of_mem | apply List.mem_append_left))); (first | omega)) | (apply opv_index_nat (k := 0) (vs := ints _) el_int; rfl; rfl; (first | exact rd_mem (by repeat (first | assumption | apply List.mem_cons_of_mem | apply List.mem_append_right)) | exact rd_mem (by repeat (first | assumption | apply List.mem_cons_of_mem | apply List.mem_append_left))); (first | (simp only [ints_length]; first | omega))) | (apply opv_index_nat (k := 1) (vs := ints _) el_int; rfl; rfl; (first | exact rd_mem (by repeat (first | assumption | apply List.mem_cons_of_mem | apply List.mem_append_right)) | exact rd_mem (by repeat (first | assumption | apply List.mem_cons_of_mem | apply List.mem_append_left))); (first | (simp only [ints_length]; first | omega))) | (apply opv_load_str 1 st_G; rfl; rfl; rfl) | (apply opv_load_svs sc_ints; rfl; (first | exact rd_row 0 rfl); omega) | (apply opv_index_nat (vs := svsOf _) el_intss; rfl; rfl; (first | exact rd_row 0 rfl); (simp only [svsOf_length]; omega)) | (apply opv_extract; rfl; rfl) | (apply opv_call; rfl; rfl; exact Cl.stable _ _ _; exact fun w hw => hpa _ _ _ _ _ hfs hw)); rfl; rfl) | apply px_nil | apply qseq_normal | apply pwp_block | apply pwp_skip | (apply pwp_region_any [0, 1, 2, 3, 4, 5, 6] [] 6 (Cl [] w (.row 24 ve (svsOf es) :: .blk bk [.int .i64 size, gv] :: rowsOb 3 es)); kernel_rfl; decide +kernel; exact Cl.stable _ _ _; exact fun w h => h.sub (by repeat (first | exact List.Sublist.refl _))) | apply qlooks_normal | (apply qstep_in; exact fun w h => h.sub (by repeat (first | apply List.Sublist.cons_cons | exact List.sublist_append_left _ _ | apply List.Sublist.cons))) | (apply pxa_nil; decide +kernel) | (apply pxa_one 7; decide +kernel; rfl) | (apply pxa_one 8; decide +kernel; rfl) | (apply pxa_one 9; decide +kernel; rfl) | (apply pxa_one 10; decide +kernel; rfl) | (apply pxa_one 11; decide +kernel; rfl) | (apply pxa_one 12; decide +kernel; rfl) | (apply pxa_two 9 10; decide +kernel; rfl; rfl) | (apply pxa_two 10 11; decide +kernel; rfl; rfl) | (apply pwp_region_mix; kernel_rfl; decide +kernel; exact Cl.stable _ _ _) | (apply pwp_cond_dec; rfl; all_goals (intro hc; try (first | contradiction | (exfalso; omega)))) | (apply px_lit2 ez_int; rfl; (intro w hw; (first | rfl)); rfl; (intro w hw; (first | rfl)); rfl; rfl; rfl; intro sv) | (apply px_lit0s ez_intss; rfl; rfl; rfl; intro sv) | (apply px_givesT; rfl; rfl; rfl; rfl; rfl; exact fun w hw => key _ (by first | exact hw.arr (by assumption)); rintro _ _ ⟨vf, vg, fs, rfl, hfs, rfl⟩; refine ⟨[_, _], _, rfl, ?_⟩))
      all_goals (
        have hfl : fs.length = FA.1.length := by rw [← hfs, lssOf_length]
        refine pwp_loop (τ := Int × Value × List Nat) [(8,9), (40,52)] (fun x => [(8, .int .i64 x.1), (9, x.2.1)]) (fun x => Cl [] w (.row 24 x.2.1 (svsOf (pickP fs x.2.2)) :: .row 24 vf (svsOf fs) :: .row 3 vg (ints FA.2) :: rowsOb 3 fs))
          (fun x => (-1 ≤ x.1 ∧ x.1 < FA.2.length) ∧ x.2.2.length + (x.1 + 1) ≤ 50 ∧ chainI FA.2 at0 = chainI FA.2 x.1 ++ x.2.2.reverse ∧ ∀ y ∈ x.2.2, y < fs.length) (fun x => (x.1 + 1).toNat) (at0, sv, [])
          ⟨rfl, rfl, trivial⟩ ⟨⟨by omega, by dsimp only; omega⟩, by simp; omega, by simp, fun y hy => by cases hy⟩ (fun w' h => ?_) (fun J2 x hx => ?_)
        · refine h.sub (List.Sublist.cons_cons _ (List.Sublist.cons _ (List.Sublist.cons_cons _ (List.Sublist.cons_cons _ (List.Sublist.cons _ (List.Sublist.cons _ ?_))))))
          exact List.sublist_append_right _ _
        obtain ⟨i, so2, L⟩ := x
        dsimp only at hx ⊢
        obtain ⟨hi, hql, hL, hLm⟩ := hx
        have hpkl : (pickP fs L).length = L.length := by simp [pickP]
        by_cases hi0 : i < 0
        · rw [chainI_neg hi0, List.nil_append] at hL
          repeat' (first | apply pwp_seq | apply pwp_region | (apply px_run; (first | (apply opv_move; first | exact hid_int rfl | rfl) | (apply opv_assign; first | exact hid_bool rfl | rfl) | (apply opv_geq <;> rfl)); rfl; rfl) | apply px_nil | apply qseq_normal | apply qseq_ret | apply qseq_exit | apply qblock_ret | (apply qblock_exit_same; rfl) | apply pwp_exit | apply pwp_ret | apply qround_ret | apply qround_exit | (apply pwp_cond_dec; rfl; all_goals (intro hc; try (first | (exfalso; omega)))) | (apply px_turnsC [0]; rfl; rfl; rfl; rfl; rfl; exact fun w ho hw => x_ReverseS_c _ (pickP fs L) _ ho (stor_svsA (hw.arrS 0 rfl fun o ho => List.mem_cons_of_mem _ (List.mem_cons_of_mem _ (List.mem_cons_of_mem _ (pick_mem hLm o ho))))) (by omega)))
          obtain ⟨c1, c2⟩ := chainI_lt hback FA.2.length at0 (by omega) (by omega) (by omega)
          have hsub := pickP_sub (ps := fs) c1 (fun x hx => by have := c2 x hx; omega)
          refine qbody_ret2 rfl rfl rfl ⟨_, ⟨so2, pickP fs (chainI FA.2 at0), rfl, by rw [pickP_lss, hfs]; rfl, rfl⟩, fun w' h => ?_⟩
          rw [pick_rev, ← hL] at h
          exact h.sub (List.Sublist.cons_cons _ (List.Sublist.cons _ (List.Sublist.cons _ (rowsOb_sub hsub))))
        · obtain ⟨m, rfl⟩ : ∃ m : Nat, i = m := ⟨i.toNat, by omega⟩
          have hml : m < fs.length := by omega
          have hmem2 : Ob.row 3 (svAt fs m) (ints (lsAt fs m)) ∈ rowsOb 3 fs := row_mem hml
          have hb2 := hback m (by omega)
          have hcs2 := chainI_step hback (i := m) (by omega)
          repeat' (first | apply pwp_seq | apply pwp_region | (apply px_run; (first | (apply opv_move; first | exact hid_int rfl | rfl) | (apply opv_assign; first | exact hid_int rfl | rfl) | (apply opv_geq <;> rfl) | (apply opv_load_ints sc_int; rfl; (first | exact rd_row 3 rfl); (first | omega)) | (apply opv_index_nat (vs := ints _) el_int; rfl; rfl; (first | exact rd_row 3 rfl); (first | (simp only [ints_length]; omega))) | (apply opv_load_svs sc_ints; rfl; (first | exact rd_row 1 rfl); omega) | (apply opv_index_nat (vs := svsOf _) el_intss; rfl; rfl; (first | exact rd_row 1 rfl); (simp only [svsOf_length]; omega))); rfl; rfl) | apply px_nil | apply qseq_normal | apply pwp_block | apply qblock_normal | apply pwp_skip | (apply pwp_cond_t; rfl) | (apply px_lit1 ez_intss; rfl; (intro w hw; (first | exact stor_mem hw (by repeat (first | assumption | apply List.mem_cons_of_mem)))); rfl; rfl; rfl; intro sv) | (apply px_append 1 ez_intss; rfl; rfl; rfl; (first | exact rd_row 0 rfl); (intro w hw u hu; simp only [List.mem_singleton] at hu; subst hu; (first | exact stor_mem hw (by repeat (first | assumption | apply List.mem_cons_of_mem)))); (simp; omega); decide; rfl; rfl; intro sv))
          refine qround_normal ?_ ⟨(FA.2.getD m 0, sv, L ++ [m]), ⟨rfl, rfl, trivial⟩, ⟨⟨hb2.1, by dsimp only; omega⟩, by dsimp only; rw [List.length_append, List.length_singleton]; omega, ?_, fun y hy => ?_⟩, by dsimp only; omega, fun w' h => ?_⟩
          · repeat (first | exact same_refl | refine same_upd rfl ?_ | refine same_junk rfl ?_)
          · dsimp only; rw [hL, hcs2, List.reverse_append, List.append_assoc]; rfl
          · rcases List.mem_append.1 hy with hy | hy
            · exact hLm y hy
            · obtain rfl := List.mem_singleton.1 hy; exact hml
          · dsimp only
            rw [pick_snoc, svsOf_snoc]
            exact Cl.sub (by assumption) (by repeat (first | exact List.Sublist.slnil | exact List.Sublist.refl _ | apply List.Sublist.cons_cons | exact List.sublist_append_left _ _ | exact List.sublist_append_right _ _ | apply List.Sublist.cons)))
  · obtain rfl : k = es.length := by omega
    have hx : chainK rows ((lssOf es).drop es.length) = none := by rw [List.drop_of_length_le (by rw [lssOf_length]; omega)]; rfl
    rw [hx]
    repeat' (first | apply pwp_seq | apply pwp_region | (apply px_run; (first | (apply opv_assign; first | exact hid_bool rfl | rfl) | (apply opv_lss <;> rfl)); rfl; rfl) | apply px_nil | apply qseq_normal | apply qseq_exit | (apply qblock_exit_same; rfl) | apply pwp_exit | apply pwp_ret | apply qround_exit | (apply pwp_cond_dec; rfl; all_goals (intro hc; try (first | (exfalso; omega)))))
    refine qbody_ret2 rfl rfl rfl ⟨_, ⟨_, [], rfl, rfl, rfl⟩, fun w' h => ?_⟩
    exact (h.sub (List.nil_sublist _)).nilRow _
theorem en_s_ForcingChain : Entry Try.prog 9 := ⟨_, Try.func9, by kernel_rfl, rfl⟩
set_option maxRecDepth 100000 in
set_option maxHeartbeats 3200000 in
theorem s_ForcingChain_c (size : Int) (gv : Value) (rows : List Int) (w : World) (hr : Arr w gv (ints rows)) :
    Gives Try.prog 9 #[.agg #[.int .i64 size, gv]] w (fun v objs => ∃ sv qs, v = .tuple #[sv, .bool (forceX size rows).isSome] ∧ lssOf qs = (forceX size rows).getD [] ∧ objs = .row 24 sv (svsOf qs) :: rowsOb 3 qs) := by
  refine gives_enter (args := [_]) en_s_ForcingChain Try.func9 rfl Try.ntmps9 rfl ?_
  have hF : forceX size rows = chainK rows (edgesL size rows) := rfl
  have hel := edgesL_length size rows
  have hem := fun e he => edges_mem (size := size) (rows := rows) (e := e) he
  repeat' (first | apply pwp_seq | apply pwp_region | (apply px_run; (first | (apply opv_assign; first | exact hid_int rfl | exact hid_bool rfl | rfl) | (apply opv_load_str 0 st_G; rfl; rfl; rfl)); rfl; rfl) | apply px_nil | apply qseq_normal | apply pwp_block | (apply px_box; rfl; rfl; rfl; rfl; intro bk) | (apply px_givesT; rfl; rfl; rfl; rfl; rfl; exact fun w hw => s_EdgesOf_c _ _ rows _ (by first | exact hw.arr (by assumption)); rintro ve _ ⟨es, hes, rfl⟩; refine ⟨[_], _, rfl, ?_⟩))
  rw [← hes] at hF hem hel
  rw [lssOf_length] at hel
  rw [hF]
  refine pwp_loop (τ := Nat) [(2,3), (5,7), (10,34)] (fun k => [(5, .int .i64 (k : Int))]) (fun k => Cl [] w (.row 24 ve (svsOf es) :: .blk bk [.int .i64 size, gv] :: rowsOb 3 es)) (fun k => k ≤ es.length ∧ chainK rows ((lssOf es).drop k) = chainK rows (lssOf es)) (fun k => es.length - k) 0
    ⟨rfl, trivial⟩ ⟨Nat.zero_le _, rfl⟩ (fun _ h => h) (fun J k hk => ?_)
  obtain ⟨hk, hch⟩ := hk
  rw [← hch]
  by_cases hlt : k < es.length
  · obtain ⟨a, b, hab, hab2, hb, hg, _⟩ := hem (lsAt es k) (lsAt_mem hlt)
    have ha : a < rows.length := by omega
    have hmem : Ob.row 3 (svAt es k) (ints (lsAt es k)) ∈ rowsOb 3 es := row_mem hlt
    have hll : (lsAt es k).length = 2 := by rw [hab]; rfl
    have hcs := chainK_step (rows := rows) hlt
    have key : ∀ w', Arr w' gv (ints rows) → Gives Try.prog 44 #[.agg #[.int .i64 size, gv], .int .i64 ((lsAt es k).getD 0 0), .int .i64 ((lsAt es k).getD 1 0)] w' (fun v objs => ∃ sv qs, v = .tuple #[sv, .bool (chainX rows ((lsAt es k).getD 0 0) ((lsAt es k).getD 1 0)).isSome] ∧ lssOf qs = (chainX rows ((lsAt es k).getD 0 0) ((lsAt es k).getD 1 0)).getD [] ∧ objs = .row 24 sv (svsOf qs) :: rowsOb 3 qs) := fun w' h => by
      rw [hab]; exact s_l13Chain_c size gv rows a b w' h hg ha hb
    generalize chainX rows ((lsAt es k).getD 0 0) ((lsAt es k).getD 1 0) = CX at hcs key
    rw [hcs]
    cases CX with
    | none =>
      repeat' (first | apply pwp_seq | apply pwp_region | (apply px_run; (first | (apply opv_move; first | exact hid_int rfl | exact hid_bool rfl | rfl) | (apply opv_assign; first | exact hid_int rfl | exact hid_bool rfl | rfl) | (apply opv_lss <;> rfl) | (apply opv_add_in; rfl; rfl; omega) | (apply opv_load_ints sc_int; rfl; (first | exact rd_mem (by repeat (first | assumption | apply List.mem_cons_of_mem))); (first | omega)) | (apply opv_index_nat (k := 0) (vs := ints _) el_int; rfl; rfl; (first | exact rd_mem (by repeat (first | assumption | apply List.mem_cons_of_mem))); (first | (simp only [ints_length]; first | omega))) | (apply opv_index_nat (k := 1) (vs := ints _) el_int; rfl; rfl; (first | exact rd_mem (by repeat (first | assumption | apply List.mem_cons_of_mem))); (first | (simp only [ints_length]; first | omega))) | (apply opv_load_str 1 st_G; rfl; rfl; rfl) | (apply opv_load_svs sc_ints; rfl; (first | exact rd_row 0 rfl); omega) | (apply opv_index_nat (vs := svsOf _) el_intss; rfl; rfl; (first | exact rd_row 0 rfl); (simp only [svsOf_length]; omega)) | (apply opv_len_svs el_intss; rfl; (first | exact rd_row 0 rfl)) | (apply opv_extract; rfl; rfl)); rfl; rfl) | apply px_nil | apply qseq_normal | apply pwp_block | apply qblock_normal | apply pwp_skip | (apply pwp_cond_f; rfl) | (apply pwp_region_any [0, 1, 2, 3, 4, 5, 6, 7, 8, 9, 10, 11, 12] [] 6 (Cl [] w (.row 24 ve (svsOf es) :: .blk bk [.int .i64 size, gv] :: rowsOb 3 es)); kernel_rfl; decide +kernel; exact Cl.stable _ _ _; exact fun w h => h.sub (by repeat (first | exact List.Sublist.refl _))) | apply qlooks_normal | (apply qstep_in; exact fun w h => h.sub (by repeat (first | apply List.Sublist.cons_cons | exact List.sublist_append_left _ _ | apply List.Sublist.cons))) | (apply pxa_nil; decide +kernel) | (apply pxa_one 13; decide +kernel; rfl) | (apply pxa_one 14; decide +kernel; rfl) | (apply pxa_one 15; decide +kernel; rfl) | (apply pxa_one 16; decide +kernel; rfl) | (apply pxa_one 17; decide +kernel; rfl) | (apply pxa_one 18; decide +kernel; rfl) | (apply pxa_two 15 16; decide +kernel; rfl; rfl) | (apply pxa_two 16 17; decide +kernel; rfl; rfl) | (apply pwp_cond_dec; rfl; all_goals (intro hc; try (first | (exfalso; omega)))) | (apply px_givesT; rfl; rfl; rfl; rfl; rfl; exact fun w hw => key _ (by first | exact hw.arr (by assumption)); rintro _ _ ⟨vq, qs, rfl, hqs, rfl⟩; refine ⟨[_], _, rfl, ?_⟩))
      all_goals (
        refine qround_normal ?_ ⟨k + 1, ⟨rfl, trivial⟩, ⟨by omega, ?_⟩, by omega, fun w' h => ?_⟩
        · repeat (first | exact same_refl | refine same_upd rfl ?_ | refine same_junk rfl ?_)
        · rfl
        · exact h.sub (List.Sublist.cons _ (List.Sublist.cons_cons _ (List.Sublist.cons_cons _ (List.sublist_append_left _ _)))))
    | some q =>
      repeat' (first | apply pwp_seq | apply pwp_region | (apply px_run; (first | (apply opv_move; first | exact hid_int rfl | exact hid_bool rfl | rfl) | (apply opv_assign; first | exact hid_bool rfl | rfl) | (apply opv_lss <;> rfl) | (apply opv_load_ints sc_int; rfl; (first | exact rd_mem (by repeat (first | assumption | apply List.mem_cons_of_mem))); (first | omega)) | (apply opv_index_nat (k := 0) (vs := ints _) el_int; rfl; rfl; (first | exact rd_mem (by repeat (first | assumption | apply List.mem_cons_of_mem))); (first | (simp only [ints_length]; first | omega))) | (apply opv_index_nat (k := 1) (vs := ints _) el_int; rfl; rfl; (first | exact rd_mem (by repeat (first | assumption | apply List.mem_cons_of_mem))); (first | (simp only [ints_length]; first | omega))) | (apply opv_load_str 1 st_G; rfl; rfl; rfl) | (apply opv_load_svs sc_ints; rfl; (first | exact rd_row 0 rfl); omega) | (apply opv_index_nat (vs := svsOf _) el_intss; rfl; rfl; (first | exact rd_row 0 rfl); (simp only [svsOf_length]; omega)) | (apply opv_len_svs el_intss; rfl; (first | exact rd_row 0 rfl)) | (apply opv_extract; rfl; rfl)); rfl; rfl) | apply px_nil | apply qseq_normal | apply qseq_ret | apply pwp_block | apply qblock_ret | apply pwp_skip | apply pwp_ret | apply qround_ret | (apply pwp_cond_t; rfl) | (apply pwp_region_any [0, 1, 2, 3, 4, 5, 6, 7, 8, 9, 10, 11, 12] [] 6 (Cl [] w (.row 24 ve (svsOf es) :: .blk bk [.int .i64 size, gv] :: rowsOb 3 es)); kernel_rfl; decide +kernel; exact Cl.stable _ _ _; exact fun w h => h.sub (by repeat (first | exact List.Sublist.refl _))) | apply qlooks_normal | (apply qstep_in; exact fun w h => h.sub (by repeat (first | apply List.Sublist.cons_cons | exact List.sublist_append_left _ _ | apply List.Sublist.cons))) | (apply pxa_nil; decide +kernel) | (apply pxa_one 13; decide +kernel; rfl) | (apply pxa_one 14; decide +kernel; rfl) | (apply pxa_one 15; decide +kernel; rfl) | (apply pxa_one 16; decide +kernel; rfl) | (apply pxa_one 17; decide +kernel; rfl) | (apply pxa_one 18; decide +kernel; rfl) | (apply pxa_two 15 16; decide +kernel; rfl; rfl) | (apply pxa_two 16 17; decide +kernel; rfl; rfl) | (apply pwp_cond_dec; rfl; all_goals (intro hc; try (first | (exfalso; omega)))) | (apply px_givesT; rfl; rfl; rfl; rfl; rfl; exact fun w hw => key _ (by first | exact hw.arr (by assumption)); rintro _ _ ⟨vq, qs, rfl, hqs, rfl⟩; refine ⟨[_], _, rfl, ?_⟩))
      all_goals (
        refine qbody_ret2 rfl rfl rfl ⟨_, ⟨vq, qs, rfl, hqs, rfl⟩, fun w' h => ?_⟩
        exact h.sub (List.Sublist.cons_cons _ (List.Sublist.cons _ (List.Sublist.cons _ (List.sublist_append_right _ _)))))
  · obtain rfl : k = es.length := by omega
    have hx : chainK rows ((lssOf es).drop es.length) = none := by rw [List.drop_of_length_le (by rw [lssOf_length]; omega)]; rfl
    rw [hx]
    repeat' (first | apply pwp_seq | apply pwp_region | (apply px_run; (first | (apply opv_move; first | exact hid_int rfl | rfl) | (apply opv_assign; first | exact hid_bool rfl | rfl) | (apply opv_lss <;> rfl) | (apply opv_len_svs el_intss; rfl; (first | exact rd_row 0 rfl))); rfl; rfl) | apply px_nil | apply qseq_normal | apply qseq_exit | (apply qblock_exit_same; rfl) | apply pwp_exit | apply pwp_ret | apply qround_exit | (apply pwp_cond_dec; rfl; all_goals (intro hc; try (first | (exfalso; omega)))) | (apply px_lit0s ez_intss; rfl; rfl; rfl; intro sv))
    refine qbody_ret2 rfl rfl rfl ⟨_, ⟨sv, [], rfl, rfl, rfl⟩, fun w' h => ?_⟩
    exact h.sub (List.Sublist.cons_cons _ (List.nil_sublist _))
end Go.Proofs.Ytkbjcfabbapnpaa
