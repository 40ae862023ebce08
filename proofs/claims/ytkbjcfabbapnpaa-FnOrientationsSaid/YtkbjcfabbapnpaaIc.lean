/- What an arc forces, chains checked, comparability: the program's and the reference's. -/
import Derived.Test.YtkbjcfabbapnpaaFc
import Derived.Test.YtkbjcfabbapnpaaOi
import Derived.Test.YtkbjcfabbapnpaaOr
import Derived.Test.YtkbjcfabbapnpaaPwPho
import Derived.Test.YtkbjcfabbapnpaaPwOrd
namespace Go.Proofs.Ytkbjcfabbapnpaa
open Go Go.RowKit Go.Pw
theorem en_i_ForcedArcs : Entry Try.prog 20 := ⟨_, Try.func20, by kernel_rfl, rfl⟩
set_option maxRecDepth 100000 in
set_option maxHeartbeats 1600000 in
theorem i_ForcedArcs_c (size : Int) (gv : Value) (rows : List Int) (a b : Int) (w : World) (hr : Arr w gv (ints rows)) :
    Gives Try.prog 20 #[.agg #[.int .i64 size, gv], .int .i64 a, .int .i64 b] w (fun v objs => ∃ ps, lssOf ps = forcedX size rows a b ∧ objs = .row 24 v (svsOf ps) :: rowsOb 3 ps) := by
  refine gives_enter (args := [_, _, _]) en_i_ForcedArcs Try.func20 rfl Try.ntmps20 rfl ?_
  by_cases he : edgeP size rows a b
  case neg =>
    have hx : forcedX size rows a b = [] := if_neg he
    repeat' (first | apply pwp_seq | apply pwp_region | (apply px_run; (first | (apply opv_move; first | exact hid_int rfl) | (apply opv_assign; first | rfl) | (apply opv_not_dec <;> rfl) | (apply opv_load_str 0 st_G; rfl; rfl; rfl) | (apply opv_call; rfl; rfl; exact Cl.stable _ _ _; exact fun w hw => i_HasEdge_c _ _ rows _ _ _ (by first | exact hw.arr (by assumption)))); rfl; rfl) | apply px_nil | apply qseq_normal | apply qseq_ret | apply pwp_ret | (apply pwp_cond_ndec; rfl; all_goals (intro hc; try (first | contradiction))) | (apply px_box; rfl; rfl; rfl; rfl; intro bk))
    refine qbody_ret1 rfl rfl ⟨_, ⟨[], by rw [hx]; rfl, rfl⟩, fun w' h => ?_⟩
    exact (h.sub (List.nil_sublist _)).nilRow _
  have hx : forcedX size rows a b = (forcedA rows a b).1 := if_pos he
  obtain ⟨x, y, rfl, rfl, hxl, hyl, hg, hb⟩ := edgeP_nat he
  rw [hx]
  have key := fun w' h => i_forced_c size gv rows x y w' h hg hxl hyl
  clear hx
  generalize forcedA rows x y = FA at key ⊢
  repeat' (first | apply pwp_seq | apply pwp_region | (apply px_run; (first | (apply opv_move; first | exact hid_int rfl | rfl) | (apply opv_assign; first | rfl) | (apply opv_not_dec <;> rfl) | (apply opv_load_str 0 st_G; rfl; rfl; rfl) | (apply opv_extract; rfl; rfl) | (apply opv_call; rfl; rfl; exact Cl.stable _ _ _; exact fun w hw => i_HasEdge_c _ _ rows _ _ _ (by first | exact hw.arr (by assumption)))); rfl; rfl) | apply px_nil | apply qseq_normal | apply pwp_skip | apply pwp_ret | (apply pwp_cond_ndec; rfl; all_goals (intro hc; try (first | contradiction))) | (apply px_box; rfl; rfl; rfl; rfl; intro bk) | (apply px_givesT; rfl; rfl; rfl; rfl; rfl; exact fun w hw => key _ (by first | exact hw.arr (by assumption)); rintro _ _ ⟨vf, vg, fs, rfl, hfs, rfl⟩; refine ⟨[_, _], _, rfl, ?_⟩))
  refine qbody_ret1 (v := vf) rfl rfl ⟨_, ⟨fs, hfs, rfl⟩, fun w' h => ?_⟩
  exact Cl.sub (by assumption) (by repeat (first | exact List.Sublist.slnil | exact List.Sublist.refl _ | apply List.Sublist.cons_cons | exact List.sublist_append_left _ _ | exact List.sublist_append_right _ _ | apply List.Sublist.cons))
theorem s_ForcedArcs_x (size : Int) (gv : Value) (rows : List Int) (a b : Int) (w : World) (hr : Arr w gv (ints rows)) :
    Gives Try.prog 24 #[.agg #[.int .i64 size, gv], .int .i64 a, .int .i64 b] w (fun v objs => ∃ ps, lssOf ps = forcedX size rows a b ∧ objs = .row 24 v (svsOf ps) :: rowsOb 3 ps) := by
  by_cases he : edgeP size rows a b
  case neg =>
    have hx : forcedX size rows a b = [] := if_neg he
    refine gives_enter (args := [_, _, _]) en_s_ForcedArcs Try.func24 rfl Try.ntmps24 rfl ?_
    repeat' (first | apply pwp_seq | apply pwp_region | (apply px_run; (first | (apply opv_move; first | exact hid_int rfl) | (apply opv_assign; first | rfl) | (apply opv_not_dec <;> rfl) | (apply opv_load_str 0 st_G; rfl; rfl; rfl) | (apply opv_call; rfl; rfl; exact Cl.stable _ _ _; exact fun w hw => s_HasEdge_c _ _ rows _ _ _ (by first | exact hw.arr (by assumption)))); rfl; rfl) | apply px_nil | apply qseq_normal | apply qseq_ret | apply pwp_ret | (apply pwp_cond_ndec; rfl; all_goals (intro hc; try (first | contradiction))) | (apply px_box; rfl; rfl; rfl; rfl; intro bk) | (apply px_lit0s ez_intss; rfl; rfl; rfl; intro sv))
    refine qbody_ret1 (v := sv) rfl rfl ⟨_, ⟨[], by rw [hx]; rfl, rfl⟩, fun w' h => ?_⟩
    exact h.sub (List.Sublist.cons_cons _ (List.nil_sublist _))
  have hx : forcedX size rows a b = (forcedA rows a b).1 := if_pos he
  obtain ⟨x, y, rfl, rfl, hxl, hyl, hg, hb⟩ := edgeP_nat he
  rw [hx]
  exact s_ForcedArcs_c size gv rows x y w hr hg hxl hyl hb
theorem en_i_IsComparability : Entry Try.prog 12 := ⟨_, Try.func12, by kernel_rfl, rfl⟩
theorem i_IsComparability_c (size : Int) (gv : Value) (rows : List Int) (w : World) (hr : Arr w gv (ints rows)) (hlen : rows.length ≤ 1048576) :
    Pure Try.prog 12 #[.agg #[.int .i64 size, gv]] w (.bool (oriX size rows).isSome) := by
  refine pure_enter (args := [_]) en_i_IsComparability Try.func12 rfl Try.ntmps12 rfl ?_
  repeat' (first | apply pwp_seq | apply pwp_region | (apply px_run; (first | (apply opv_move; first | exact hid_bool rfl | rfl) | (apply opv_assign; first | exact hid_bool rfl) | (apply opv_load_str 0 st_G; rfl; rfl; rfl) | (apply opv_extract; rfl; rfl)); rfl; rfl) | apply px_nil | apply qseq_normal | apply pwp_ret | (apply px_box; rfl; rfl; rfl; rfl; intro bk) | (apply px_alloc st_O; rfl; rfl; rfl; intro bk) | (apply px_store_str 0 st_O; rfl; rfl; rfl; rfl; rfl; (intro w hw; (first | refine all1 rfl ?_) <;> (first | exact stor_row 1 hw rfl)); rfl) | (apply px_gives; rfl; rfl; rfl; rfl; rfl; exact fun w hw => i_OrientationOf_c _ _ rows _ (by first | exact hw.arr (by assumption)) hlen; rintro _ _ ⟨vo, rfl, rfl⟩))
  refine qbody_ret1 (v := .bool _) rfl rfl ⟨rfl, fun _ h => h.below⟩
theorem en_i_IsForcingChain : Entry Try.prog 15 := ⟨_, Try.func15, by kernel_rfl, rfl⟩
noncomputable instance (size : Int) (rows : List Int) (L : List (List Int)) : Decidable (fcP size rows L) := Classical.propDecidable _
set_option maxRecDepth 100000 in
set_option maxHeartbeats 6400000 in
theorem i_IsForcingChain_c (size : Int) (gv lv : Value) (rows : List Int) (ps : Pairs) (w : World) (hr : Arr w gv (ints rows)) (hv : ArrS w lv ps) (hl : ps.length ≤ 1000000) :
    Pure Try.prog 15 #[.agg #[.int .i64 size, gv], lv] w (.bool (decide (fcP size rows (lssOf ps)))) := by
  refine pure_enter (args := [_, _]) en_i_IsForcingChain Try.func15 rfl Try.ntmps15 rfl ?_
  obtain ⟨hA, hE⟩ := hv
  have hll := lssOf_length ps
  by_cases h2 : 2 ≤ ps.length ∧ ps.length ≤ 60
  case neg =>
    repeat' (first | apply pwp_seq | apply pwp_region | (apply px_run; (first | (apply opv_move; first | rfl) | (apply opv_assign; first | exact hid_bool rfl) | (apply opv_not_dec <;> rfl) | (apply opv_len_svs el_intss; rfl; (first | exact rd_old (by assumption))) | (apply opv_call; rfl; rfl; exact Cl.stable _ _ _; exact fun w hw => i_within_c _ _ _ _)); rfl; rfl) | apply px_nil | apply qseq_normal | apply qseq_ret | apply pwp_ret | (apply pwp_cond_ndec; rfl; all_goals (intro hc; try (first | (exfalso; omega)))) | (apply px_box; rfl; rfl; rfl; rfl; intro bk))
    all_goals (refine qbody_ret1 (v := .bool _) rfl rfl ⟨ret_false rfl fun h => h2 (by have := h.1; omega), fun _ h => h.below⟩)
  repeat' (first | apply pwp_seq | apply pwp_region | (apply px_run; (first | (apply opv_move; first | exact hid_int rfl | rfl) | (apply opv_assign; first | exact hid_bool rfl) | (apply opv_not_dec <;> rfl) | (apply opv_len_svs el_intss; rfl; (first | exact rd_old (by assumption))) | (apply opv_call; rfl; rfl; exact Cl.stable _ _ _; exact fun w hw => i_within_c _ _ _ _)); rfl; rfl) | apply px_nil | apply qseq_normal | apply pwp_block | apply pwp_skip | (apply pwp_cond_ndec; rfl; all_goals (intro hc; try (first | (exfalso; omega)))) | (apply px_box; rfl; rfl; rfl; rfl; intro bk))
  refine pwp_loop (τ := Nat) [(4,6), (14,58)] (fun k => [(14, .int .i64 (k : Int))]) (fun _ => Cl [] w [.blk bk [.int .i64 size, gv]]) (fun k => k ≤ ps.length ∧ (∀ i, i < k → (lsAt ps i).length = 2 ∧ edgeP size rows ((lsAt ps i).getD 0 0) ((lsAt ps i).getD 1 0)) ∧ ∀ i, i + 1 < k → lsAt ps (i + 1) ∈ nextA rows ((lsAt ps i).getD 0 0) ((lsAt ps i).getD 1 0)) (fun k => ps.length - k) 0
    ⟨rfl, trivial⟩ ⟨Nat.zero_le _, fun i hi => by omega, fun i hi => by omega⟩ (fun _ h => h) (fun J k hk => ?_)
  obtain ⟨hk, he, hn⟩ := hk
  by_cases hlt : k < ps.length
  · have hrow := hE k hlt
    by_cases hl2 : (lsAt ps k).length = 2
    case neg =>
      repeat' (first | apply pwp_seq | apply pwp_region | (apply px_run; (first | (apply opv_move; first | exact hid_int rfl | exact hid_bool rfl | rfl) | (apply opv_assign; first | exact hid_int rfl | exact hid_bool rfl | rfl) | (apply opv_lss <;> rfl) | (apply opv_neq <;> rfl) | (apply opv_pick_t <;> rfl) | (apply opv_len_ints el_int; rfl; (first | exact rd_old (by assumption))) | (apply opv_load_str 0 st_G; rfl; rfl; rfl) | (apply opv_load_svs sc_ints; rfl; (first | exact rd_old (by assumption)); omega) | (apply opv_index_nat (vs := svsOf _) el_intss; rfl; rfl; (first | exact rd_old (by assumption)); (simp only [svsOf_length]; omega))); rfl; rfl) | apply px_nil | (apply px_skip; rfl; rfl) | apply qseq_normal | apply qseq_ret | apply pwp_block | apply qblock_ret | apply pwp_skip | apply pwp_ret | apply qround_ret | (apply pwp_cond_t; rfl) | (apply pwp_region_ordf [0,1,2,3,4,5,6,7,8,9,10,11,12,13,14,15,16,17,18,19,20,21,22,23,24,25,26,27,28,29,30,31,32,34,33,35,36,37,38]; kernel_rfl; decide +kernel; exact Cl.stable _ _ _) | (apply px_guard_ndec; rfl; rfl; rfl; all_goals (intro hc; try (first | (exfalso; omega)))) | (apply pwp_cond_dec; rfl; all_goals (intro hc; try (first | (exfalso; omega)))))
      all_goals (refine qbody_ret1 (v := .bool _) rfl rfl ⟨ret_false rfl fun h => hl2 (by have := (h.2.1 k (by omega)).1; rwa [lss_getD] at this), fun _ h => h.below⟩)
    by_cases hep : edgeP size rows ((lsAt ps k).getD 0 0) ((lsAt ps k).getD 1 0)
    case neg =>
      repeat' (first | apply pwp_seq | apply pwp_region | (apply px_run; (first | (apply opv_move; first | exact hid_int rfl | exact hid_bool rfl | rfl) | (apply opv_assign; first | exact hid_int rfl | exact hid_bool rfl | rfl) | (apply opv_lss <;> rfl) | (apply opv_neq <;> rfl) | (apply opv_pick_t <;> rfl) | (apply opv_pick_f <;> rfl) | (apply opv_not_dec <;> rfl) | (apply opv_load_ints sc_int; rfl; (first | exact rd_old (by assumption)); (first | omega)) | (apply opv_index_nat (k := 0) (vs := ints _) el_int; rfl; rfl; (first | exact rd_old (by assumption)); (first | (simp only [ints_length]; first | omega))) | (apply opv_index_nat (k := 1) (vs := ints _) el_int; rfl; rfl; (first | exact rd_old (by assumption)); (first | (simp only [ints_length]; first | omega))) | (apply opv_len_ints el_int; rfl; (first | exact rd_old (by assumption))) | (apply opv_load_str 0 st_G; rfl; rfl; rfl) | (apply opv_load_svs sc_ints; rfl; (first | exact rd_old (by assumption)); omega) | (apply opv_index_nat (vs := svsOf _) el_intss; rfl; rfl; (first | exact rd_old (by assumption)); (simp only [svsOf_length]; omega)) | (apply opv_call; rfl; rfl; exact Cl.stable _ _ _; exact fun w hw => i_HasEdge_c _ _ rows _ _ _ (by first | exact hw.arr (by assumption)))); rfl; rfl) | apply px_nil | (apply px_skip; rfl; rfl) | apply qseq_normal | apply qseq_ret | apply pwp_block | apply qblock_ret | apply pwp_skip | apply pwp_ret | apply qround_ret | (apply pwp_cond_t; rfl) | (apply pwp_region_ordf [0,1,2,3,4,5,6,7,8,9,10,11,12,13,14,15,16,17,18,19,20,21,22,23,24,25,26,27,28,29,30,31,32,34,33,35,36,37,38]; kernel_rfl; decide +kernel; exact Cl.stable _ _ _) | (apply px_guard_ndec; rfl; rfl; rfl; all_goals (intro hc; try (first | contradiction | (exfalso; omega)))) | (apply pwp_cond_dec; rfl; all_goals (intro hc; try (first | (exfalso; omega)))))
      all_goals (refine qbody_ret1 (v := .bool _) rfl rfl ⟨ret_false rfl fun h => hep (by have := (h.2.1 k (by omega)).2; rwa [lss_getD] at this), fun _ h => h.below⟩)
    cases k with
    | zero =>
      repeat' (first | apply pwp_seq | apply pwp_region | (apply px_run; (first | (apply opv_move; first | exact hid_int rfl | exact hid_bool rfl | rfl) | (apply opv_assign; first | exact hid_int rfl | rfl) | (apply opv_lss <;> rfl) | (apply opv_gtr <;> rfl) | (apply opv_neq <;> rfl) | (apply opv_pick_f <;> rfl) | (apply opv_not_dec <;> rfl) | (apply opv_add_in; rfl; rfl; omega) | (apply opv_load_ints sc_int; rfl; (first | exact rd_old (by assumption)); (first | omega)) | (apply opv_index_nat (k := 0) (vs := ints _) el_int; rfl; rfl; (first | exact rd_old (by assumption)); (first | (simp only [ints_length]; first | omega))) | (apply opv_index_nat (k := 1) (vs := ints _) el_int; rfl; rfl; (first | exact rd_old (by assumption)); (first | (simp only [ints_length]; first | omega))) | (apply opv_len_ints el_int; rfl; (first | exact rd_old (by assumption))) | (apply opv_load_str 0 st_G; rfl; rfl; rfl) | (apply opv_index_nat (k := 0) (vs := svsOf _) el_intss; rfl; rfl; (first | exact rd_old (by assumption)); (simp only [svsOf_length]; first | omega)) | (apply opv_load_svs sc_ints; rfl; (first | exact rd_old (by assumption)); omega) | (apply opv_call; rfl; rfl; exact Cl.stable _ _ _; exact fun w hw => i_HasEdge_c _ _ rows _ _ _ (by first | exact hw.arr (by assumption)))); rfl; rfl) | apply px_nil | (apply px_skip; rfl; rfl) | apply qseq_normal | apply pwp_block | apply qblock_normal | apply pwp_skip | (apply pwp_cond_f; rfl) | (apply pwp_region_ordf [0,1,2,3,4,5,6,7,8,9,10,11,12,13,14,15,16,17,18,19,20,21,22,23,24,25,26,27,28,29,30,31,32,34,33,35,36,37,38]; kernel_rfl; decide +kernel; exact Cl.stable _ _ _) | (apply px_guard_ndec; rfl; rfl; rfl; all_goals (intro hc; try (first | contradiction | (exfalso; omega)))) | (apply pwp_cond_dec; rfl; all_goals (intro hc; try (first | (exfalso; omega)))))
      refine qround_normal ?_ ⟨0 + 1, ⟨rfl, trivial⟩, ⟨by omega, fun i hi => ?_, fun i hi => by omega⟩, by omega, fun _ h => h⟩
      · repeat (first | exact same_refl | refine same_upd rfl ?_ | refine same_junk rfl ?_)
      · obtain rfl : i = 0 := by omega
        exact ⟨hl2, hep⟩
    | succ m =>
      have hq : (((m + 1 : Nat) : Int) - 1).toNat = m := by omega
      have hqr := hE (((m + 1 : Nat) : Int) - 1).toNat (by omega)
      obtain ⟨hq2, hqe⟩ := he (((m + 1 : Nat) : Int) - 1).toNat (by omega)
      have hqn := edgeP_nat hqe
      have key : ∀ w', Arr w' gv (ints rows) → Gives Try.prog 49 #[.agg #[.int .i64 size, gv], .int .i64 ((lsAt ps (((m + 1 : Nat) : Int) - 1).toNat).getD 0 0), .int .i64 ((lsAt ps (((m + 1 : Nat) : Int) - 1).toNat).getD 1 0)] w' (fun v objs => ∃ fs, lssOf fs = nextA rows ((lsAt ps (((m + 1 : Nat) : Int) - 1).toNat).getD 0 0) ((lsAt ps (((m + 1 : Nat) : Int) - 1).toNat).getD 1 0) ∧ objs = .row 24 v (svsOf fs) :: rowsOb 3 fs) := by
        obtain ⟨x, y, hx, hy, hxl, hyl, hg, -⟩ := hqn
        rw [hx, hy]
        exact fun w' h => i_forces_c size gv rows x y w' h hg hxl hyl
      have hnl : (nextA rows ((lsAt ps (((m + 1 : Nat) : Int) - 1).toNat).getD 0 0) ((lsAt ps (((m + 1 : Nat) : Int) - 1).toNat).getD 1 0)).length ≤ 49 := by
        obtain ⟨x, y, hx, hy, hxl, hyl, hg, -⟩ := hqn
        obtain ⟨n, _, hrl, _, hn7⟩ := isG_size hg
        have h1 := nextU_length rows rows.length ((lsAt ps (((m + 1 : Nat) : Int) - 1).toNat).getD 0 0) ((lsAt ps (((m + 1 : Nat) : Int) - 1).toNat).getD 1 0) rows.length
        have h2 : rows.length * rows.length ≤ 7 * 7 := Nat.mul_le_mul (by omega) (by omega)
        unfold nextA
        omega
      generalize hNA : nextA rows ((lsAt ps (((m + 1 : Nat) : Int) - 1).toNat).getD 0 0) ((lsAt ps (((m + 1 : Nat) : Int) - 1).toNat).getD 1 0) = NA at key hnl
      have hpm := placeA_mem NA (lsAt ps (m + 1))
      have hpa : ∀ (vf : Value) (fs : Pairs) (w' : World), lssOf fs = NA → Cl [] w (.row 24 vf (svsOf fs) :: .blk bk [.int .i64 size, gv] :: rowsOb 3 fs) w' → Pure Try.prog 36 #[vf, svAt ps (m + 1)] w' (.int .i64 (placeA NA (lsAt ps (m + 1)))) := fun vf fs w' hfs hw => by
        rw [← hfs] at hnl ⊢
        rw [lssOf_length] at hnl
        exact i_indexOf_c _ _ fs _ _ (hw.arrS 0 rfl fun o ho => by repeat (first | exact ho | apply List.mem_cons_of_mem)) (by omega) (hrow.below hw.below)
      clear hqn
      repeat' (first | apply pwp_seq | apply pwp_region | (apply px_run; (first | (apply opv_index (vs := svsOf _) el_intss; rfl; rfl; exact rd_old (by assumption); omega; (simp only [svsOf_length]; omega)) | (apply opv_move; first | exact hid_int rfl | exact hid_bool rfl | rfl) | (apply opv_assign; first | exact hid_int rfl | exact hid_bool rfl | rfl) | (apply opv_lss <;> rfl) | (apply opv_gtr <;> rfl) | (apply opv_neq <;> rfl) | (apply opv_pick_t <;> rfl) | (apply opv_pick_f <;> rfl) | (apply opv_not_dec <;> rfl) | (apply opv_add_in; rfl; rfl; omega) | (apply opv_sub_in; rfl; rfl; omega) | (apply opv_load_ints sc_int; rfl; (first | exact rd_old (by assumption)); (first | omega)) | (apply opv_index_nat (k := 0) (vs := ints _) el_int; rfl; rfl; (first | exact rd_old (by assumption)); (first | (simp only [ints_length]; first | omega))) | (apply opv_index_nat (k := 1) (vs := ints _) el_int; rfl; rfl; (first | exact rd_old (by assumption)); (first | (simp only [ints_length]; first | omega))) | (apply opv_len_ints el_int; rfl; (first | exact rd_old (by assumption))) | (apply opv_load_str 0 st_G; rfl; rfl; rfl) | (apply opv_load_svs sc_ints; rfl; (first | exact rd_old (by assumption)); omega) | (apply opv_call; rfl; rfl; exact Cl.stable _ _ _; exact fun w hw => i_HasEdge_c _ _ rows _ _ _ (by first | exact hw.arr (by assumption))) | (apply opv_call; rfl; rfl; exact Cl.stable _ _ _; exact fun w hw => hpa _ _ _ hfs hw)); rfl; rfl) | apply px_nil | apply qseq_normal | apply qseq_ret | apply pwp_block | apply qblock_normal | apply qblock_ret | apply pwp_skip | apply pwp_ret | apply qround_ret | (apply pwp_region_ordf [0,1,2,3,4,5,6,7,8,9,10,11,12,13,14,15,16,17,18,19,20,21,22,23,24,25,26,27,28,29,30,31,32,34,33,35,36,37,38]; kernel_rfl; decide +kernel; exact Cl.stable _ _ _) | (apply px_guard_ndec; rfl; rfl; rfl; all_goals (intro hc; try (first | contradiction | (exfalso; omega)))) | (apply px_guard_dec; rfl; rfl; rfl; all_goals (intro hc; try (first | (exfalso; omega)))) | (apply pwp_cond_dec; rfl; all_goals (intro hc; try (first | (exfalso; omega)))) | (apply px_givesT; rfl; rfl; rfl; rfl; rfl; exact fun w hw => key _ (by first | exact hw.arr (by assumption)); rintro vf _ ⟨fs, hfs, rfl⟩; refine ⟨[_], _, rfl, ?_⟩))
      · refine qbody_ret1 (v := .bool _) rfl rfl ⟨ret_false rfl fun h => ?_, fun _ h => h.below⟩
        have h3 := h.2.2.1 m (by omega)
        rw [lss_getD, lss_getD] at h3
        rw [hq] at hNA
        rw [hNA] at h3
        have := hpm.2 h3
        omega
      · refine qround_normal ?_ ⟨m + 1 + 1, ⟨rfl, trivial⟩, ⟨by omega, fun i hi => ?_, fun i hi => ?_⟩, by omega, fun w' h => ?_⟩
        · repeat (first | exact same_refl | refine same_upd rfl ?_ | refine same_junk rfl ?_)
        · by_cases him : i < m + 1
          · exact he i him
          · obtain rfl : i = m + 1 := by omega
            exact ⟨hl2, hep⟩
        · by_cases him : i + 1 < m + 1
          · exact hn i him
          · obtain rfl : i = m := by omega
            rw [hq] at hNA
            rw [hNA]
            exact hpm.1 (by omega)
        · exact Cl.sub (by assumption) (by repeat (first | exact List.Sublist.slnil | exact List.Sublist.refl _ | apply List.Sublist.cons_cons | exact List.sublist_append_left _ _ | exact List.sublist_append_right _ _ | apply List.Sublist.cons))
  · have hq : ((ps.length : Int) - 1).toNat = ps.length - 1 := by omega
    have hrow0 := hE 0 (by omega)
    have hrowl := hE ((ps.length : Int) - 1).toNat (by omega)
    have hl0 := (he 0 (by omega)).1
    have hl1 := (he ((ps.length : Int) - 1).toNat (by omega)).1
    have hfin : fcP size rows (lssOf ps) ↔ (lsAt ps 0).getD 0 0 = (lsAt ps ((ps.length : Int) - 1).toNat).getD 1 0 ∧ (lsAt ps 0).getD 1 0 = (lsAt ps ((ps.length : Int) - 1).toNat).getD 0 0 := by
      unfold fcP
      rw [hll, lss_getD, lss_getD, hq]
      exact ⟨fun h => h.2.2.2, fun h => ⟨h2, fun i hi => by rw [lss_getD]; exact he i (by omega), fun i hi => by rw [lss_getD, lss_getD]; exact hn i (by omega), h⟩⟩
    repeat' (first | apply pwp_seq | apply pwp_region | (apply px_run; (first | (apply opv_index (vs := svsOf _) el_intss; rfl; rfl; exact rd_old (by assumption); omega; (simp only [svsOf_length]; omega)) | (apply opv_move; first | exact hid_bool rfl | rfl) | (apply opv_assign; first | exact hid_bool rfl | rfl) | (apply opv_lss <;> rfl) | (apply opv_eql <;> rfl) | (apply opv_pick_t <;> rfl) | (apply opv_pick_f <;> rfl) | (apply opv_sub_in; rfl; rfl; omega) | (apply opv_load_ints sc_int; rfl; (first | exact rd_old (by assumption)); (first | omega)) | (apply opv_index_nat (k := 0) (vs := ints _) el_int; rfl; rfl; (first | exact rd_old (by assumption)); (first | (simp only [ints_length]; first | omega))) | (apply opv_index_nat (k := 1) (vs := ints _) el_int; rfl; rfl; (first | exact rd_old (by assumption)); (first | (simp only [ints_length]; first | omega))) | (apply opv_load_svs sc_ints; rfl; (first | exact rd_old (by assumption)); omega) | (apply opv_len_svs el_intss; rfl; (first | exact rd_old (by assumption)))); rfl; rfl) | apply px_nil | (apply px_skip; rfl; rfl) | apply qseq_normal | apply qseq_exit | (apply qblock_exit_same; rfl) | apply pwp_exit | apply pwp_ret | apply qround_exit | (apply pwp_region_mix; kernel_rfl; decide +kernel; exact Cl.stable _ _ _) | (apply px_guard_dec; rfl; rfl; rfl; all_goals (intro hc; try (first | fail))) | (apply pwp_cond_dec; rfl; all_goals (intro hc; try (first | (exfalso; omega)))))
    all_goals first
      | (refine qbody_ret1 (v := .bool _) rfl rfl ⟨ret_false rfl fun h => absurd (hfin.1 h) (fun h2 => by first | exact hc h2.2.symm | exact hc h2.1), fun _ h => h.below⟩; done)
      | (refine qbody_ret1 (v := .bool (decide _)) rfl rfl ⟨ret_iff ⟨fun h => hfin.2 (by first | exact ⟨hc, h⟩ | exact ⟨h.symm, hc.symm⟩), fun h => by first | exact (hfin.1 h).2 | exact (hfin.1 h).1.symm⟩, fun _ h => h.below⟩; done)
theorem en_s_IsForcingChain : Entry Try.prog 25 := ⟨_, Try.func25, by kernel_rfl, rfl⟩
set_option maxRecDepth 100000 in
set_option maxHeartbeats 6400000 in
theorem s_IsForcingChain_c (size : Int) (gv lv : Value) (rows : List Int) (ps : Pairs) (w : World) (hr : Arr w gv (ints rows)) (hv : ArrS w lv ps) (hl : ps.length ≤ 1000000) :
    Pure Try.prog 25 #[.agg #[.int .i64 size, gv], lv] w (.bool (decide (fcP size rows (lssOf ps)))) := by
  refine pure_enter (args := [_, _]) en_s_IsForcingChain Try.func25 rfl Try.ntmps25 rfl ?_
  obtain ⟨hA, hE⟩ := hv
  have hll := lssOf_length ps
  by_cases h2 : 2 ≤ ps.length ∧ ps.length ≤ 60
  case neg =>
    repeat' (first | apply pwp_seq | apply pwp_region | (apply px_run; (first | (apply opv_move; first | rfl) | (apply opv_assign; first | exact hid_bool rfl) | (apply opv_not_dec <;> rfl) | (apply opv_len_svs el_intss; rfl; (first | exact rd_old (by assumption))) | (apply opv_call; rfl; rfl; exact Cl.stable _ _ _; exact fun w hw => s_l1In_c _ _ _ _)); rfl; rfl) | apply px_nil | apply qseq_normal | apply qseq_ret | apply pwp_ret | (apply pwp_cond_ndec; rfl; all_goals (intro hc; try (first | (exfalso; omega)))) | (apply px_box; rfl; rfl; rfl; rfl; intro bk))
    all_goals (refine qbody_ret1 (v := .bool _) rfl rfl ⟨ret_false rfl fun h => h2 (by have := h.1; omega), fun _ h => h.below⟩)
  repeat' (first | apply pwp_seq | apply pwp_region | (apply px_run; (first | (apply opv_move; first | rfl) | (apply opv_assign; first | exact hid_int rfl | exact hid_bool rfl) | (apply opv_not_dec <;> rfl) | (apply opv_len_svs el_intss; rfl; (first | exact rd_old (by assumption))) | (apply opv_call; rfl; rfl; exact Cl.stable _ _ _; exact fun w hw => s_l1In_c _ _ _ _)); rfl; rfl) | apply px_nil | apply qseq_normal | apply pwp_block | apply pwp_skip | (apply pwp_cond_ndec; rfl; all_goals (intro hc; try (first | (exfalso; omega)))) | (apply px_box; rfl; rfl; rfl; rfl; intro bk))
  refine pwp_loop (τ := Nat) [(4,5), (10,72)] (fun k => [(5, .int .i64 (k : Int))]) (fun _ => Cl [] w [.blk bk [.int .i64 size, gv]]) (fun k => k ≤ ps.length ∧ (∀ i, i < k → (lsAt ps i).length = 2 ∧ edgeP size rows ((lsAt ps i).getD 0 0) ((lsAt ps i).getD 1 0)) ∧ ∀ i, i + 1 < k → lsAt ps (i + 1) ∈ nextA rows ((lsAt ps i).getD 0 0) ((lsAt ps i).getD 1 0)) (fun k => ps.length - k) 0
    ⟨rfl, trivial⟩ ⟨Nat.zero_le _, fun i hi => by omega, fun i hi => by omega⟩ (fun _ h => h) (fun J k hk => ?_)
  obtain ⟨hk, he, hn⟩ := hk
  by_cases hlt : k < ps.length
  · have hrow := hE k hlt
    by_cases hl2 : (lsAt ps k).length = 2
    case neg =>
      repeat' (first | apply pwp_seq | apply pwp_region | (apply px_run; (first | (apply opv_move; first | exact hid_int rfl | exact hid_bool rfl | rfl) | (apply opv_assign; first | exact hid_bool rfl) | (apply opv_lss <;> rfl) | (apply opv_neq <;> rfl) | (apply opv_pick_t <;> rfl) | (apply opv_len_ints el_int; rfl; (first | exact rd_old (by assumption))) | (apply opv_load_str 0 st_G; rfl; rfl; rfl) | (apply opv_load_svs sc_ints; rfl; (first | exact rd_old (by assumption)); omega) | (apply opv_index_nat (vs := svsOf _) el_intss; rfl; rfl; (first | exact rd_old (by assumption)); (simp only [svsOf_length]; omega)) | (apply opv_len_svs el_intss; rfl; (first | exact rd_old (by assumption)))); rfl; rfl) | apply px_nil | (apply px_skip; rfl; rfl) | apply qseq_normal | apply qseq_ret | apply pwp_block | apply qblock_ret | apply pwp_skip | apply pwp_ret | apply qround_ret | (apply pwp_cond_t; rfl) | (apply pwp_region_mix; kernel_rfl; decide +kernel; exact Cl.stable _ _ _) | (apply px_guard_ndec; rfl; rfl; rfl; all_goals (intro hc; try (first | (exfalso; omega)))) | (apply pwp_cond_dec; rfl; all_goals (intro hc; try (first | (exfalso; omega)))))
      all_goals (refine qbody_ret1 (v := .bool _) rfl rfl ⟨ret_false rfl fun h => hl2 (by have := (h.2.1 k (by omega)).1; rwa [lss_getD] at this), fun _ h => h.below⟩)
    by_cases hep : edgeP size rows ((lsAt ps k).getD 0 0) ((lsAt ps k).getD 1 0)
    case neg =>
      repeat' (first | apply pwp_seq | apply pwp_region | (apply px_run; (first | (apply opv_move; first | exact hid_int rfl | exact hid_bool rfl | rfl) | (apply opv_assign; first | exact hid_bool rfl) | (apply opv_lss <;> rfl) | (apply opv_neq <;> rfl) | (apply opv_pick_f <;> rfl) | (apply opv_not_dec <;> rfl) | (apply opv_load_ints sc_int; rfl; (first | exact rd_old (by assumption)); (first | omega)) | (apply opv_index_nat (k := 0) (vs := ints _) el_int; rfl; rfl; (first | exact rd_old (by assumption)); (first | (simp only [ints_length]; first | omega))) | (apply opv_index_nat (k := 1) (vs := ints _) el_int; rfl; rfl; (first | exact rd_old (by assumption)); (first | (simp only [ints_length]; first | omega))) | (apply opv_len_ints el_int; rfl; (first | exact rd_old (by assumption))) | (apply opv_load_str 0 st_G; rfl; rfl; rfl) | (apply opv_load_svs sc_ints; rfl; (first | exact rd_old (by assumption)); omega) | (apply opv_index_nat (vs := svsOf _) el_intss; rfl; rfl; (first | exact rd_old (by assumption)); (simp only [svsOf_length]; omega)) | (apply opv_len_svs el_intss; rfl; (first | exact rd_old (by assumption))) | (apply opv_call; rfl; rfl; exact Cl.stable _ _ _; exact fun w hw => s_HasEdge_c _ _ rows _ _ _ (by first | exact hw.arr (by assumption)))); rfl; rfl) | apply px_nil | apply qseq_normal | apply qseq_ret | apply pwp_block | apply qblock_ret | apply pwp_skip | apply pwp_ret | apply qround_ret | (apply pwp_region_mix; kernel_rfl; decide +kernel; exact Cl.stable _ _ _) | (apply px_guard_ndec; rfl; rfl; rfl; all_goals (intro hc; try (first | (exfalso; omega)))) | (apply pwp_cond_ndec; rfl; all_goals (intro hc; try (first | contradiction))) | (apply pwp_cond_dec; rfl; all_goals (intro hc; try (first | (exfalso; omega)))))
      all_goals (refine qbody_ret1 (v := .bool _) rfl rfl ⟨ret_false rfl fun h => hep (by have := (h.2.1 k (by omega)).2; rwa [lss_getD] at this), fun _ h => h.below⟩)
    cases k with
    | zero =>
      repeat' (first | apply pwp_seq | apply pwp_region | (apply px_run; (first | (apply opv_move; first | exact hid_int rfl | exact hid_bool rfl | rfl) | (apply opv_assign; first | exact hid_int rfl) | (apply opv_lss <;> rfl) | (apply opv_gtr <;> rfl) | (apply opv_neq <;> rfl) | (apply opv_pick_f <;> rfl) | (apply opv_not_dec <;> rfl) | (apply opv_add_in; rfl; rfl; omega) | (apply opv_load_ints sc_int; rfl; (first | exact rd_old (by assumption)); (first | omega)) | (apply opv_index_nat (k := 0) (vs := ints _) el_int; rfl; rfl; (first | exact rd_old (by assumption)); (first | (simp only [ints_length]; first | omega))) | (apply opv_index_nat (k := 1) (vs := ints _) el_int; rfl; rfl; (first | exact rd_old (by assumption)); (first | (simp only [ints_length]; first | omega))) | (apply opv_len_ints el_int; rfl; (first | exact rd_old (by assumption))) | (apply opv_load_str 0 st_G; rfl; rfl; rfl) | (apply opv_index_nat (k := 0) (vs := svsOf _) el_intss; rfl; rfl; (first | exact rd_old (by assumption)); (simp only [svsOf_length]; first | omega)) | (apply opv_load_svs sc_ints; rfl; (first | exact rd_old (by assumption)); omega) | (apply opv_len_svs el_intss; rfl; (first | exact rd_old (by assumption))) | (apply opv_call; rfl; rfl; exact Cl.stable _ _ _; exact fun w hw => s_HasEdge_c _ _ rows _ _ _ (by first | exact hw.arr (by assumption)))); rfl; rfl) | apply px_nil | (apply px_skip; rfl; rfl) | apply qseq_normal | apply pwp_block | apply qblock_normal | apply pwp_skip | (apply pwp_cond_f; rfl) | (apply pwp_region_ordf [0,1,2,3,4,5,6,7,8,9,10,11,12,13,14,15,16,17,19,20,21,22,23,24,25,26,27,28,29,30,18,31,32,33]; kernel_rfl; decide +kernel; exact Cl.stable _ _ _) | (apply pwp_region_mix; kernel_rfl; decide +kernel; exact Cl.stable _ _ _) | (apply px_guard_ndec; rfl; rfl; rfl; all_goals (intro hc; try (first | (exfalso; omega)))) | (apply pwp_cond_ndec; rfl; all_goals (intro hc; try (first | contradiction))) | (apply pwp_cond_dec; rfl; all_goals (intro hc; try (first | (exfalso; omega)))))
      refine qround_normal ?_ ⟨0 + 1, ⟨rfl, trivial⟩, ⟨by omega, fun i hi => ?_, fun i hi => by omega⟩, by omega, fun _ h => h⟩
      · repeat (first | exact same_refl | refine same_upd rfl ?_ | refine same_junk rfl ?_)
      · obtain rfl : i = 0 := by omega
        exact ⟨hl2, hep⟩
    | succ m =>
      have hq : (((m + 1 : Nat) : Int) - 1).toNat = m := by omega
      have hqr := hE (((m + 1 : Nat) : Int) - 1).toNat (by omega)
      obtain ⟨hq2, hqe⟩ := he (((m + 1 : Nat) : Int) - 1).toNat (by omega)
      have hqn := edgeP_nat hqe
      have key : ∀ w', Arr w' gv (ints rows) → Gives Try.prog 56 #[.agg #[.int .i64 size, gv], .int .i64 ((lsAt ps (((m + 1 : Nat) : Int) - 1).toNat).getD 0 0), .int .i64 ((lsAt ps (((m + 1 : Nat) : Int) - 1).toNat).getD 1 0)] w' (fun v objs => ∃ fs, lssOf fs = nextA rows ((lsAt ps (((m + 1 : Nat) : Int) - 1).toNat).getD 0 0) ((lsAt ps (((m + 1 : Nat) : Int) - 1).toNat).getD 1 0) ∧ objs = .row 24 v (svsOf fs) :: rowsOb 3 fs) := by
        obtain ⟨x, y, hx, hy, hxl, hyl, hg, -⟩ := hqn
        rw [hx, hy]
        exact fun w' h => s_l13Next_c size gv rows x y w' h hg hxl hyl
      have hnl : (nextA rows ((lsAt ps (((m + 1 : Nat) : Int) - 1).toNat).getD 0 0) ((lsAt ps (((m + 1 : Nat) : Int) - 1).toNat).getD 1 0)).length ≤ 49 := by
        obtain ⟨x, y, hx, hy, hxl, hyl, hg, -⟩ := hqn
        obtain ⟨n, _, hrl, _, hn7⟩ := isG_size hg
        have h1 := nextU_length rows rows.length ((lsAt ps (((m + 1 : Nat) : Int) - 1).toNat).getD 0 0) ((lsAt ps (((m + 1 : Nat) : Int) - 1).toNat).getD 1 0) rows.length
        have h2 : rows.length * rows.length ≤ 7 * 7 := Nat.mul_le_mul (by omega) (by omega)
        unfold nextA
        omega
      have hN2 : ∀ e ∈ nextA rows ((lsAt ps (((m + 1 : Nat) : Int) - 1).toNat).getD 0 0) ((lsAt ps (((m + 1 : Nat) : Int) - 1).toNat).getD 1 0), e.length = 2 := fun e he => by
        obtain ⟨x', y', h, _⟩ := nextA_arc e he
        rw [h]; rfl
      generalize hNA : nextA rows ((lsAt ps (((m + 1 : Nat) : Int) - 1).toNat).getD 0 0) ((lsAt ps (((m + 1 : Nat) : Int) - 1).toNat).getD 1 0) = NA at key hnl hN2
      have hpm := placeA_mem NA (lsAt ps (m + 1))
      have hpa : ∀ (vf : Value) (fs : Pairs) (w' : World), lssOf fs = NA → Cl [] w (.row 24 vf (svsOf fs) :: .blk bk [.int .i64 size, gv] :: rowsOb 3 fs) w' → Pure Try.prog 41 #[vf, .int .i64 ((lsAt ps (m + 1)).getD 0 0), .int .i64 ((lsAt ps (m + 1)).getD 1 0)] w' (.int .i64 (placeA NA (lsAt ps (m + 1)))) := fun vf fs w' hfs hw => by
        rw [← hfs] at hnl hN2 ⊢
        rw [lssOf_length] at hnl
        have h3 := s_l13Find_c vf fs ((lsAt ps (m + 1)).getD 0 0) ((lsAt ps (m + 1)).getD 1 0) w' (hw.arrS 0 rfl fun o ho => by repeat (first | exact ho | apply List.mem_cons_of_mem)) (by omega) (fun k hk => hN2 _ (lsAt_mem hk))
        rw [← (pair_eq hl2).2 ⟨rfl, rfl⟩] at h3
        exact h3
      clear hqn
      repeat' (first | apply pwp_seq | apply pwp_region | (apply px_run; (first | (apply opv_index (vs := svsOf _) el_intss; rfl; rfl; exact rd_old (by assumption); omega; (simp only [svsOf_length]; omega)) | (apply opv_move; first | exact hid_int rfl | exact hid_bool rfl | rfl) | (apply opv_assign; first | exact hid_int rfl | exact hid_bool rfl) | (apply opv_lss <;> rfl) | (apply opv_gtr <;> rfl) | (apply opv_neq <;> rfl) | (apply opv_pick_t <;> rfl) | (apply opv_pick_f <;> rfl) | (apply opv_not_dec <;> rfl) | (apply opv_add_in; rfl; rfl; omega) | (apply opv_sub_in; rfl; rfl; omega) | (apply opv_load_ints sc_int; rfl; (first | exact rd_old (by assumption)); (first | omega)) | (apply opv_index_nat (k := 0) (vs := ints _) el_int; rfl; rfl; (first | exact rd_old (by assumption)); (first | (simp only [ints_length]; first | omega))) | (apply opv_index_nat (k := 1) (vs := ints _) el_int; rfl; rfl; (first | exact rd_old (by assumption)); (first | (simp only [ints_length]; first | omega))) | (apply opv_len_ints el_int; rfl; (first | exact rd_old (by assumption))) | (apply opv_load_str 0 st_G; rfl; rfl; rfl) | (apply opv_load_svs sc_ints; rfl; (first | exact rd_old (by assumption)); omega) | (apply opv_len_svs el_intss; rfl; (first | exact rd_old (by assumption))) | (apply opv_call; rfl; rfl; exact Cl.stable _ _ _; exact fun w hw => s_HasEdge_c _ _ rows _ _ _ (by first | exact hw.arr (by assumption))) | (apply opv_call; rfl; rfl; exact Cl.stable _ _ _; exact fun w hw => hpa _ _ _ hfs hw)); rfl; rfl) | apply px_nil | apply qseq_normal | apply qseq_ret | apply pwp_block | apply qblock_normal | apply qblock_ret | apply pwp_skip | apply pwp_ret | apply qround_ret | (apply pwp_region_ordf [0,1,2,3,4,5,6,7,8,9,10,11,12,13,14,15,16,17,19,20,21,22,23,24,25,26,27,28,29,30,18,31,32,33]; kernel_rfl; decide +kernel; exact Cl.stable _ _ _) | (apply pwp_region_mix; kernel_rfl; decide +kernel; exact Cl.stable _ _ _) | (apply px_guard_ndec; rfl; rfl; rfl; all_goals (intro hc; try (first | (exfalso; omega)))) | (apply px_guard_dec; rfl; rfl; rfl; all_goals (intro hc; try (first | (exfalso; omega)))) | (apply pwp_cond_ndec; rfl; all_goals (intro hc; try (first | contradiction))) | (apply pwp_cond_dec; rfl; all_goals (intro hc; try (first | (exfalso; omega)))) | (apply px_givesT; rfl; rfl; rfl; rfl; rfl; exact fun w hw => key _ (by first | exact hw.arr (by assumption)); rintro vf _ ⟨fs, hfs, rfl⟩; refine ⟨[_], _, rfl, ?_⟩))
      · refine qbody_ret1 (v := .bool _) rfl rfl ⟨ret_false rfl fun h => ?_, fun _ h => h.below⟩
        have h3 := h.2.2.1 m (by omega)
        rw [lss_getD, lss_getD] at h3
        rw [hq] at hNA
        rw [hNA] at h3
        have := hpm.2 h3
        omega
      · refine qround_normal ?_ ⟨m + 1 + 1, ⟨rfl, trivial⟩, ⟨by omega, fun i hi => ?_, fun i hi => ?_⟩, by omega, fun w' h => ?_⟩
        · repeat (first | exact same_refl | refine same_upd rfl ?_ | refine same_junk rfl ?_)
        · by_cases him : i < m + 1
          · exact he i him
          · obtain rfl : i = m + 1 := by omega
            exact ⟨hl2, hep⟩
        · by_cases him : i + 1 < m + 1
          · exact hn i him
          · obtain rfl : i = m := by omega
            rw [hq] at hNA
            rw [hNA]
            exact hpm.1 (by omega)
        · exact Cl.sub (by assumption) (by repeat (first | exact List.Sublist.slnil | exact List.Sublist.refl _ | apply List.Sublist.cons_cons | exact List.sublist_append_left _ _ | exact List.sublist_append_right _ _ | apply List.Sublist.cons))
  · have hq : ((ps.length : Int) - 1).toNat = ps.length - 1 := by omega
    have hrow0 := hE 0 (by omega)
    have hrowl := hE ((ps.length : Int) - 1).toNat (by omega)
    have hl0 := (he 0 (by omega)).1
    have hl1 := (he ((ps.length : Int) - 1).toNat (by omega)).1
    have hfin : fcP size rows (lssOf ps) ↔ (lsAt ps 0).getD 0 0 = (lsAt ps ((ps.length : Int) - 1).toNat).getD 1 0 ∧ (lsAt ps 0).getD 1 0 = (lsAt ps ((ps.length : Int) - 1).toNat).getD 0 0 := by
      unfold fcP
      rw [hll, lss_getD, lss_getD, hq]
      exact ⟨fun h => h.2.2.2, fun h => ⟨h2, fun i hi => by rw [lss_getD]; exact he i (by omega), fun i hi => by rw [lss_getD, lss_getD]; exact hn i (by omega), h⟩⟩
    repeat' (first | apply pwp_seq | apply pwp_region | (apply px_run; (first | (apply opv_index (vs := svsOf _) el_intss; rfl; rfl; exact rd_old (by assumption); omega; (simp only [svsOf_length]; omega)) | (apply opv_move; first | exact hid_int rfl | exact hid_bool rfl | rfl) | (apply opv_assign; first | exact hid_bool rfl) | (apply opv_lss <;> rfl) | (apply opv_eql <;> rfl) | (apply opv_pick_t <;> rfl) | (apply opv_pick_f <;> rfl) | (apply opv_sub_in; rfl; rfl; omega) | (apply opv_load_ints sc_int; rfl; (first | exact rd_old (by assumption)); (first | omega)) | (apply opv_index_nat (k := 0) (vs := ints _) el_int; rfl; rfl; (first | exact rd_old (by assumption)); (first | (simp only [ints_length]; first | omega))) | (apply opv_index_nat (k := 1) (vs := ints _) el_int; rfl; rfl; (first | exact rd_old (by assumption)); (first | (simp only [ints_length]; first | omega))) | (apply opv_load_svs sc_ints; rfl; (first | exact rd_old (by assumption)); omega) | (apply opv_len_svs el_intss; rfl; (first | exact rd_old (by assumption)))); rfl; rfl) | apply px_nil | (apply px_skip; rfl; rfl) | apply qseq_normal | apply qseq_exit | (apply qblock_exit_same; rfl) | apply pwp_exit | apply pwp_ret | apply qround_exit | (apply pwp_region_mix; kernel_rfl; decide +kernel; exact Cl.stable _ _ _) | (apply px_guard_dec; rfl; rfl; rfl; all_goals (intro hc; try (first | fail))) | (apply pwp_cond_dec; rfl; all_goals (intro hc; try (first | (exfalso; omega)))))
    all_goals first
      | (refine qbody_ret1 (v := .bool _) rfl rfl ⟨ret_false rfl fun h => absurd (hfin.1 h) (fun h2 => by first | exact hc h2.2.symm | exact hc h2.1), fun _ h => h.below⟩; done)
      | (refine qbody_ret1 (v := .bool (decide _)) rfl rfl ⟨ret_iff ⟨fun h => hfin.2 (by first | exact ⟨hc, h⟩ | exact ⟨h.symm, hc.symm⟩), fun h => by first | exact (hfin.1 h).2 | exact (hfin.1 h).1.symm⟩, fun _ h => h.below⟩; done)
end Go.Proofs.Ytkbjcfabbapnpaa
