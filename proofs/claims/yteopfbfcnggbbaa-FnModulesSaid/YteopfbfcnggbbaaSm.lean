/- Strong modules; first places. -/
import Derived.Test.YteopfbfcnggbbaaMl
import Derived.Test.YteopfbfcnggbbaaPwPtw
import Derived.Test.YteopfbfcnggbbaaPwBool
namespace Go.Proofs.Yteopfbfcnggbbaa
open Go Go.RowKit Go.Pw

theorem en_x_slices_IndexFunc_int_int : Entry Try.prog 59 := ⟨_, Try.func59, by kernel_rfl, rfl⟩
theorem x_IndexFunc_c (lv : Value) (l : List Int) (f : FuncId) (cs : List Value) (p : Int → Bool) (w : World) (hv : Arr w lv (ints l))
    (hp : ∀ (i : Nat) w', i < l.length → Below w.heap.size w w' → Pure Try.prog f ([Value.int .i64 (l.getD i 0)] ++ cs).toArray w' (.bool (p (l.getD i 0)))) :
    Pure Try.prog 59 #[lv, .func (.func f) #[] cs.toArray] w (.int .i64 (idxF p l)) := by
  refine pure_enter (args := [_, _]) en_x_slices_IndexFunc_int_int Try.func59 rfl Try.ntmps59 rfl ?_
  have hl := hv.len
  repeat' (first | apply pwp_seq | apply pwp_region | (apply px_run; (first | (apply opv_move; first | exact hid_int rfl | rfl) | (apply opv_assign; first | exact hid_int rfl) | (apply opv_len_ints el_int; rfl; (first | exact rd_old (by assumption)))); rfl; rfl) | apply px_nil | apply qseq_normal | apply pwp_block)
  refine pwp_loop (τ := Nat) [(4,5), (8,18)] (fun k => [(8, .int .i64 (k : Int))]) (fun k => Cl [] w []) (fun k => k ≤ l.length ∧ ∀ i, i < k → p (l.getD i 0) = false) (fun k => l.length - k) 0
    ⟨rfl, trivial⟩ ⟨Nat.zero_le _, fun i hi => by omega⟩ (fun _ h => h) (fun J k hk => ?_)
  obtain ⟨hk, he⟩ := hk
  by_cases hlt : k < l.length
  · repeat' (first | apply pwp_seq | apply pwp_region | (apply px_run; (first | (apply opv_move; first | exact hid_int rfl | rfl) | (apply opv_assign; first | exact hid_int rfl) | (apply opv_lss <;> rfl) | (apply opv_add_in; rfl; rfl; omega) | (apply opv_load_ints sc_int; rfl; (first | exact rd_old (by assumption)); (first | omega)) | (apply opv_index_nat (vs := ints _) el_int; rfl; rfl; (first | exact rd_old (by assumption)); (first | (simp only [ints_length]; omega))) | (apply opv_callx; rfl; rfl; exact Cl.stable _ _ _; exact fun w hw => hp k w hlt hw.below)); rfl; rfl) | apply px_nil | apply qseq_normal | apply qseq_ret | apply pwp_block | apply qblock_normal | apply qblock_ret | apply pwp_skip | apply pwp_ret | apply qround_ret | (apply pwp_cond_dec; rfl; all_goals (intro hc; try (first | (exfalso; omega)))) | (apply pwp_cond; rfl; all_goals (intro hc; try (first | fail))))
    · refine qbody_ret1 (v := .int _ _) rfl rfl ⟨by rw [idxF_some p l k hlt hc he], fun _ h => h.below⟩
    · refine qround_normal ?_ ⟨k + 1, ⟨rfl, trivial⟩, ⟨by omega, fun i hi => ?_⟩, by omega, fun _ h => h⟩
      · repeat (first | exact same_refl | refine same_upd rfl ?_ | refine same_junk rfl ?_)
      · by_cases hik : i < k
        · exact he i hik
        · obtain rfl : i = k := by omega
          exact hc
  · repeat' (first | apply pwp_seq | apply pwp_region | (apply px_run; (first | (apply opv_assign; first | exact hid_int rfl) | (apply opv_lss <;> rfl)); rfl; rfl) | apply px_nil | apply qseq_normal | apply qseq_exit | (apply qblock_exit_same; rfl) | apply pwp_exit | apply pwp_ret | apply qround_exit | (apply pwp_cond_dec; rfl; all_goals (intro hc; try (first | (exfalso; omega)))))
    refine qbody_ret1 (v := .int _ _) rfl rfl ⟨by rw [idxF_none p l fun i hi => he i (by omega)], fun _ h => h.below⟩
theorem en_x_slices_ContainsFunc_int_int : Entry Try.prog 34 := ⟨_, Try.func34, by kernel_rfl, rfl⟩
theorem x_ContainsFunc_c (lv : Value) (l : List Int) (f : FuncId) (cs : List Value) (p : Int → Bool) (w : World) (hv : Arr w lv (ints l))
    (hp : ∀ (i : Nat) w', i < l.length → Below w.heap.size w w' → Pure Try.prog f ([Value.int .i64 (l.getD i 0)] ++ cs).toArray w' (.bool (p (l.getD i 0)))) :
    Pure Try.prog 34 #[lv, .func (.func f) #[] cs.toArray] w (.bool (l.any p)) := by
  refine pure_enter (args := [_, _]) en_x_slices_ContainsFunc_int_int Try.func34 rfl Try.ntmps34 rfl ?_
  repeat' (first | apply pwp_seq | apply pwp_region | (apply px_run; (first | (apply opv_move; first | rfl) | (apply opv_assign; first | exact hid_bool rfl) | (apply opv_geq <;> rfl) | (apply opv_call; rfl; rfl; exact Cl.stable _ _ _; exact fun w hw => x_IndexFunc_c _ l f cs p _ (by first | exact hw.arr (by assumption)) (fun i w' h1 h2 => hp i w' h1 (below_comp hw.below h2)))); rfl; rfl) | apply px_nil | apply qseq_normal | apply pwp_ret)
  refine qbody_ret1 (v := .bool (decide _)) rfl rfl ⟨?_, fun _ h => h.below⟩
  congr 1
  rw [Bool.eq_iff_iff, decide_eq_true_eq]
  exact idxF_any p l
theorem en_i_overlap : Entry Try.prog 36 := ⟨_, Try.func36, by kernel_rfl, rfl⟩
theorem i_overlap_c (a b : Int) (w : World) : Pure Try.prog 36 #[.int .i64 a, .int .i64 b] w (.bool (decide (overQ a b))) := by
  refine pure_enter (args := [_, _]) en_i_overlap Try.func36 rfl Try.ntmps36 rfl ?_
  repeat' (first | apply pwp_seq | apply pwp_region | (apply px_run; (first | (apply opv_move; first | exact hid_int rfl | exact hid_bool rfl) | (apply opv_assign; first | exact hid_bool rfl) | (apply opv_neq <;> rfl) | (apply opv_and <;> rfl) | (apply opv_andNot <;> rfl) | (apply opv_pick_t <;> rfl) | (apply opv_pick_f <;> rfl)); rfl; rfl) | apply px_nil | (apply px_skip; rfl; rfl) | apply qseq_normal | apply pwp_ret | (apply px_guard_ndec; rfl; rfl; rfl; all_goals (intro hc; try (first | fail))))
  all_goals first
    | (refine qbody_ret1 (v := .bool _) rfl rfl ⟨ret_false rfl fun h => hc (by first | exact h.1 | exact h.2.1 | exact h.2.2), fun _ h => h.below⟩; done)
    | (refine qbody_ret1 (v := .bool (decide _)) rfl rfl ⟨ret_iff ⟨fun h => ⟨by assumption, by assumption, h⟩, fun h => h.2.2⟩, fun _ h => h.below⟩; done)
    | (refine qbody_ret1 (v := .bool _) rfl rfl ⟨ret_false rfl fun h => by simp_all [overQ], fun _ h => h.below⟩; done)
theorem en_i_StrongModules_1 : Entry Try.prog 35 := ⟨_, Try.func35, by kernel_rfl, rfl⟩
theorem i_StrongModules_1_c (o s : Int) (b : Nat) (w : World) (hb : Bk w b [.int .i64 s]) : Pure Try.prog 35 #[.int .i64 o, .pointer (some ⟨b, 0, none⟩)] w (.bool (decide (overQ o s))) := by
  refine pure_enter (args := [_, _]) en_i_StrongModules_1 Try.func35 rfl Try.ntmps35 rfl ?_
  repeat' (first | apply pwp_seq | apply pwp_region | (apply px_run; (first | (apply opv_move; first | exact hid_int rfl) | (apply opv_assign; first | exact hid_bool rfl) | (apply opv_load_old; (first | with_reducible exact sc_int); rfl; assumption; rfl) | (apply opv_call; rfl; rfl; exact Cl.stable _ _ _; exact fun w hw => i_overlap_c _ _ _)); rfl; rfl) | apply px_nil | apply qseq_normal | apply pwp_ret)
  refine qbody_ret1 (v := .bool _) rfl rfl ⟨rfl, fun _ h => h.below⟩
theorem en_i_StrongModules : Entry Try.prog 7 := ⟨_, Try.func7, by kernel_rfl, rfl⟩
set_option maxHeartbeats 1600000 in
theorem i_StrongModules_c (size : Int) (gv : Value) (rows : List Int) (w : World) (hr : Arr w gv (ints rows)) :
    Gives Try.prog 7 #[.agg #[.int .i64 size, gv]] w (fun v objs => objs = [.row 3 v (ints (strongL size rows))]) := by
  refine gives_enter (args := [_]) en_i_StrongModules Try.func7 rfl Try.ntmps7 rfl ?_
  have hml := modsL_length size rows
  generalize hLL : modsL size rows = L at *
  have hLr : strongL size rows = strongU L L.length := by unfold strongL; rw [hLL]
  rw [hLr]
  have hmo := fun (w' : World) (h : Arr w' gv (ints rows)) => i_ModulesOf_c size gv rows w' h
  rw [hLL] at hmo
  have hnat : ∀ k, k < L.length → ∃ M : Nat, L.getD k 0 = M ∧ M < 128 := fun k hk => modsL_nat (size := size) (rows := rows) (by rw [hLL]; exact getD_mem hk)
  repeat' (first | apply pwp_seq | apply pwp_region | (apply px_run; (first | (apply opv_move; first | exact hid_int rfl | rfl) | (apply opv_assign; first | rfl) | (apply opv_len_ints el_int; rfl; (first | exact rd_row 1 rfl)) | (apply opv_load_str 0 st_G; rfl; rfl; rfl)); rfl; rfl) | apply px_nil | apply qseq_normal | apply pwp_block | (apply px_box; rfl; rfl; rfl; rfl; intro bk) | (apply px_lit0 ez_int; rfl; rfl; rfl; intro sv) | (apply px_gives; rfl; rfl; rfl; rfl; rfl; exact fun w hw => hmo _ (by first | exact hw.arr (by assumption)); rintro sm _ rfl))
  refine pwp_loop (τ := Nat × Value) [(4,4), (6,6), (12,24)] (fun x => [(12, .int .i64 (x.1 : Int)), (4, x.2)]) (fun x => Cl [] w [.row 3 x.2 (ints (strongU L x.1)), .row 3 sm (ints L), .blk bk [.int .i64 size, gv]]) (fun x => x.1 ≤ L.length) (fun x => L.length - x.1) (0, _)
    ⟨rfl, rfl, trivial⟩ (Nat.zero_le _) (fun _ h => h) (fun J x hk => ?_)
  obtain ⟨k, so⟩ := x
  have hl := strongU_length L k
  dsimp only at hk ⊢
  by_cases hlt : k < L.length
  · have hsucc := strongU_succ L k hlt
    repeat' (first | apply pwp_seq | apply pwp_region | (apply px_run; (first | (apply opv_move; first | exact hid_int rfl | rfl) | (apply opv_assign; first | rfl) | (apply opv_lss <;> rfl) | (apply opv_not <;> rfl) | (apply opv_add_in; rfl; rfl; omega) | (apply opv_load_blk 0; (first | with_reducible exact sc_int); rfl; rfl; rfl) | (apply opv_load_ints sc_int; rfl; (first | exact rd_row 1 rfl); (first | omega)) | (apply opv_index_nat (vs := ints _) el_int; rfl; rfl; (first | exact rd_row 1 rfl); (first | (simp only [ints_length]; omega))) | (apply opv_make_func; rfl) | (apply opv_call; rfl; rfl; exact Cl.stable _ _ _; exact fun w hw => x_ContainsFunc_c _ L 35 _ (fun o => decide (overQ o (L.getD k 0))) _ (by first | exact hw.rowArr (k := 2) rfl) (fun i w' h1 h2 => i_StrongModules_1_c _ _ _ w' ((hw.bk (k := 0) rfl).below h2)))); rfl; rfl) | apply px_nil | apply qseq_normal | apply pwp_block | apply qblock_normal | apply pwp_skip | (apply pwp_cond_dec; rfl; all_goals (intro hc; try (first | (exfalso; omega)))) | (apply pwp_cond_not; rfl; all_goals (intro hc; try (first | fail))) | (apply px_alloc1 ez_int rfl; rfl; rfl; rfl; intro bk) | (apply px_store_blk 0; (first | with_reducible exact co_int); rfl; rfl; rfl; (intro w hw; (first | rfl)); rfl; rfl) | (apply px_lit1 ez_int; rfl; (intro w hw; (first | rfl)); rfl; rfl; rfl; intro sv) | (apply px_append 2 ez_int; rfl; rfl; rfl; (first | exact rd_row 0 rfl); (first | (intro _ _ u hu; simp at hu; subst hu; rfl)); (simp [ints]; omega); decide; rfl; rfl; intro sv))
    · refine qround_normal ?_ ⟨(k + 1, _), ⟨rfl, rfl, trivial⟩, by dsimp only; omega, by dsimp only; omega, fun w' h => ?_⟩
      · repeat (first | exact same_refl | refine same_upd rfl ?_ | refine same_junk rfl ?_)
      · rw [if_pos (by unfold strongB; rw [hc]; rfl)] at hsucc
        dsimp only
        rw [hsucc, ← ints_snoc]
        exact Cl.sub (by assumption) (by repeat (first | exact List.Sublist.slnil | exact List.Sublist.refl _ | apply List.Sublist.cons_cons | exact List.sublist_append_left _ _ | exact List.sublist_append_right _ _ | apply List.Sublist.cons))
    · refine qround_normal ?_ ⟨(k + 1, so), ⟨rfl, rfl, trivial⟩, by dsimp only; omega, by dsimp only; omega, fun w' h => ?_⟩
      · repeat (first | exact same_refl | refine same_upd rfl ?_ | refine same_junk rfl ?_)
      · rw [if_neg (by unfold strongB; rw [hc]; simp)] at hsucc
        dsimp only
        rw [hsucc]
        exact Cl.sub (by assumption) (by repeat (first | exact List.Sublist.slnil | exact List.Sublist.refl _ | apply List.Sublist.cons_cons | exact List.sublist_append_left _ _ | exact List.sublist_append_right _ _ | apply List.Sublist.cons))
  · obtain rfl : k = L.length := by omega
    repeat' (first | apply pwp_seq | apply pwp_region | (apply px_run; (first | (apply opv_move; first | rfl) | (apply opv_assign; first | rfl) | (apply opv_lss <;> rfl)); rfl; rfl) | apply px_nil | apply qseq_normal | apply qseq_exit | (apply qblock_exit_same; rfl) | apply pwp_exit | apply pwp_ret | apply qround_exit | (apply pwp_cond_dec; rfl; all_goals (intro hc; try (first | (exfalso; omega)))))
    refine qbody_ret1 (v := so) rfl rfl ⟨_, rfl, fun w' h => ?_⟩
    exact Cl.sub (by assumption) (by repeat (first | exact List.Sublist.slnil | exact List.Sublist.refl _ | apply List.Sublist.cons_cons | exact List.sublist_append_left _ _ | exact List.sublist_append_right _ _ | apply List.Sublist.cons))
theorem en_s_StrongModules : Entry Try.prog 10 := ⟨_, Try.func10, by kernel_rfl, rfl⟩
set_option maxHeartbeats 1600000 in
theorem s_StrongModules_c (size : Int) (gv : Value) (rows : List Int) (w : World) (hr : Arr w gv (ints rows)) :
    Gives Try.prog 10 #[.agg #[.int .i64 size, gv]] w (fun v objs => objs = [.row 3 v (ints (strongL size rows))]) := by
  refine gives_enter (args := [_]) en_s_StrongModules Try.func10 rfl Try.ntmps10 rfl ?_
  have hml := modsL_length size rows
  have hnat0 : ∀ k, k < (modsL size rows).length → ∃ M : Nat, (modsL size rows).getD k 0 = M ∧ M < 128 := fun k hk => modsL_nat (size := size) (rows := rows) (getD_mem hk)
  have hmo := fun (w' : World) (h : Arr w' gv (ints rows)) => s_ModulesOf_c size gv rows w' h
  unfold strongL
  generalize modsL size rows = L at *
  repeat' (first | apply pwp_seq | apply pwp_region | (apply px_run; (first | (apply opv_assign; first | exact hid_int rfl | rfl) | (apply opv_load_str 1 st_G; rfl; rfl; rfl)); rfl; rfl) | apply px_nil | apply qseq_normal | apply pwp_block | (apply px_box; rfl; rfl; rfl; rfl; intro bk) | (apply px_lit0 ez_int; rfl; rfl; rfl; intro sv) | (apply px_gives; rfl; rfl; rfl; rfl; rfl; exact fun w hw => hmo _ (by first | exact hw.arr (by assumption)); rintro sm _ rfl))
  refine pwp_loop (τ := Nat × Value) [(3,3), (5,8), (12,61)] (fun x => [(5, .int .i64 (x.1 : Int)), (3, x.2)]) (fun x => Cl [] w [.row 3 x.2 (ints (strongU L x.1)), .row 3 sm (ints L), .blk bk [.int .i64 size, gv]]) (fun x => x.1 ≤ L.length) (fun x => L.length - x.1) (0, _)
    ⟨rfl, rfl, trivial⟩ (Nat.zero_le _) (fun _ h => by refine h.perm ?_; exact List.Perm.swap _ _ _) (fun J x hk => ?_)
  obtain ⟨i, so⟩ := x
  have hl := strongU_length L i
  dsimp only at hk ⊢
  by_cases hlt : i < L.length
  · have hsucc := strongU_succ L i hlt
    obtain ⟨A, hA, hA7⟩ := hnat0 i hlt
    repeat' (first | apply pwp_seq | apply pwp_region | (apply px_run; (first | (apply opv_move; first | exact hid_int rfl | rfl) | (apply opv_assign; first | exact hid_int rfl | exact hid_bool rfl) | (apply opv_lss <;> rfl) | (apply opv_len_ints el_int; rfl; (first | exact rd_row 1 rfl))); rfl; rfl) | apply px_nil | apply qseq_normal | apply pwp_block | apply pwp_skip | (apply pwp_cond_dec; rfl; all_goals (intro hc; try (first | (exfalso; omega)))))
    refine pwp_loop (τ := Nat) [(6,8), (18,53)] (fun k => [(7, .int .i64 (k : Int)), (6, .bool (calmU L (L.getD i 0) k))]) (fun x => Cl [] w [.row 3 so (ints (strongU L i)), .row 3 sm (ints L), .blk bk [.int .i64 size, gv]]) (fun k => k ≤ L.length) (fun k => L.length - k) 0
      ⟨rfl, rfl, trivial⟩ (Nat.zero_le _) (fun _ h => h) (fun J2 k hk2 => ?_)
    by_cases hlk : k < L.length
    · have hcs := calmU_succ L (L.getD i 0) k hlk
      obtain ⟨B, hB, hB7⟩ := hnat0 k hlk
      have hov : overQ (L.getD k 0) (L.getD i 0) ↔ ¬ (iand (L.getD i 0) (L.getD k 0) = 0 ∨ iand (L.getD i 0) (L.getD k 0) = L.getD i 0 ∨ iand (L.getD i 0) (L.getD k 0) = L.getD k 0) := by rw [hA, hB]; exact over_iff hB7 hA7
      have hcal : calmU L (L.getD i 0) k = !((L.take k).any fun o => decide (overQ o (L.getD i 0))) := rfl
      repeat' (first | apply pwp_seq | apply pwp_region | (apply px_run; (first | (apply opv_move; first | exact hid_int rfl | exact hid_bool rfl | rfl) | (apply opv_assign; first | exact hid_int rfl | exact hid_bool rfl) | (apply opv_lss <;> rfl) | (apply opv_eql <;> rfl) | (apply opv_and <;> rfl) | (apply opv_pick_t <;> rfl) | (apply opv_pick_f <;> rfl) | (apply opv_add_in; rfl; rfl; omega) | (apply opv_load_ints sc_int; rfl; (first | exact rd_row 1 rfl); (first | omega)) | (apply opv_index_nat (vs := ints _) el_int; rfl; rfl; (first | exact rd_row 1 rfl); (first | (simp only [ints_length]; omega))) | (apply opv_len_ints el_int; rfl; (first | exact rd_row 1 rfl))); rfl; rfl) | apply px_nil | (apply px_skip; rfl; rfl) | apply qseq_normal | apply pwp_block | apply qblock_normal | apply pwp_skip | (apply pwp_region_mix; kernel_rfl; decide +kernel; exact Cl.stable _ _ _) | (apply px_guard_dec; rfl; rfl; rfl; all_goals (intro hc; try (first | fail))) | (apply px_guard_not; rfl; rfl; rfl; all_goals (intro hc; try (first | fail))) | (apply pwp_cond_dec; rfl; all_goals (intro hc; try (first | (exfalso; omega)))))
      all_goals
        refine qround_normal ?_ ⟨k + 1, ⟨rfl, ?_, trivial⟩, by omega, by omega, fun _ h => h⟩
        · repeat (first | exact same_refl | refine same_upd rfl ?_ | refine same_junk rfl ?_)
        · show Value.bool _ = .bool (calmU L (L.getD i 0) (k + 1))
          rw [hcs, hcal]
          first
            | (have hnov : ¬ overQ (L.getD k 0) (L.getD i 0) := fun h => hov.1 h (by first | exact .inl hc | exact .inr (.inl hc) | exact .inr (.inr hc))
               have hany : (List.any (List.take k L) fun o => decide (overQ o (L.getD i 0))) = false := by assumption
               rw [hany, decide_eq_false hnov]; rfl)
            | (rw [hc]; rfl)
            | (rw [show (List.any (List.take k L) fun o => decide (overQ o (L.getD i 0))) = false by assumption]; congr 1; rw [Bool.eq_iff_iff]; simp only [Bool.not_false, Bool.true_and, Bool.not_eq_true', decide_eq_true_eq, decide_eq_false_iff_not]; rw [hov, Decidable.not_not]; constructor; (intro h; exact .inr (.inr h)); (rintro (h | h | h); exact absurd h (by assumption); exact absurd h (by assumption); exact h))
    · obtain rfl : k = L.length := by omega
      have hca := calmU_all L (L.getD i 0)
      rw [hca]
      repeat' (first | apply pwp_seq | apply pwp_region | (apply px_run; (first | (apply opv_move; first | exact hid_int rfl | exact hid_bool rfl | rfl) | (apply opv_assign; first | exact hid_int rfl | rfl) | (apply opv_lss <;> rfl) | (apply opv_add_in; rfl; rfl; omega) | (apply opv_load_ints sc_int; rfl; (first | exact rd_row 1 rfl); (first | omega)) | (apply opv_index_nat (vs := ints _) el_int; rfl; rfl; (first | exact rd_row 1 rfl); (first | (simp only [ints_length]; omega))) | (apply opv_len_ints el_int; rfl; (first | exact rd_row 1 rfl))); rfl; rfl) | apply px_nil | apply qseq_normal | apply qseq_exit | apply qblock_normal | (apply qblock_exit_same; rfl) | apply pwp_skip | apply pwp_exit | apply qround_exit | (apply pwp_cond_dec; rfl; all_goals (intro hc; try (first | (exfalso; omega)))) | (apply pwp_cond_not; rfl; all_goals (intro hc; try (first | fail))) | (apply px_lit1 ez_int; rfl; (intro w hw; (first | rfl)); rfl; rfl; rfl; intro sv) | (apply px_append 1 ez_int; rfl; rfl; rfl; (first | exact rd_row 0 rfl); (first | (intro _ _ u hu; simp at hu; subst hu; rfl)); (simp [ints]; omega); decide; rfl; rfl; intro sv))
      · refine qround_normal ?_ ⟨(i + 1, _), ⟨rfl, rfl, trivial⟩, by dsimp only; omega, by dsimp only; omega, fun w' h => ?_⟩
        · repeat (first | exact same_refl | refine same_upd rfl ?_ | refine same_junk rfl ?_)
        · rw [if_pos (show strongB L (L.getD i 0) = true by unfold strongB; rw [hc]; rfl)] at hsucc
          dsimp only
          rw [hsucc, ← ints_snoc]
          exact Cl.sub (by assumption) (by repeat (first | exact List.Sublist.slnil | exact List.Sublist.refl _ | apply List.Sublist.cons_cons | exact List.sublist_append_left _ _ | exact List.sublist_append_right _ _ | apply List.Sublist.cons))
      · refine qround_normal ?_ ⟨(i + 1, so), ⟨rfl, rfl, trivial⟩, by dsimp only; omega, by dsimp only; omega, fun w' h => ?_⟩
        · repeat (first | exact same_refl | refine same_upd rfl ?_ | refine same_junk rfl ?_)
        · rw [if_neg (show ¬ strongB L (L.getD i 0) = true by unfold strongB; rw [hc]; exact Bool.false_ne_true)] at hsucc
          dsimp only
          rw [hsucc]
          exact Cl.sub (by assumption) (by repeat (first | exact List.Sublist.slnil | exact List.Sublist.refl _ | apply List.Sublist.cons_cons | exact List.sublist_append_left _ _ | exact List.sublist_append_right _ _ | apply List.Sublist.cons))
  · obtain rfl : i = L.length := by omega
    repeat' (first | apply pwp_seq | apply pwp_region | (apply px_run; (first | (apply opv_move; first | exact hid_int rfl | rfl) | (apply opv_assign; first | rfl) | (apply opv_lss <;> rfl) | (apply opv_len_ints el_int; rfl; (first | exact rd_row 1 rfl))); rfl; rfl) | apply px_nil | apply qseq_normal | apply qseq_exit | (apply qblock_exit_same; rfl) | apply pwp_exit | apply pwp_ret | apply qround_exit | (apply pwp_cond_dec; rfl; all_goals (intro hc; try (first | (exfalso; omega)))))
    refine qbody_ret1 (v := so) rfl rfl ⟨_, rfl, fun w' h => ?_⟩
    exact Cl.sub (by assumption) (by repeat (first | exact List.Sublist.slnil | exact List.Sublist.refl _ | apply List.Sublist.cons_cons | exact List.sublist_append_left _ _ | exact List.sublist_append_right _ _ | apply List.Sublist.cons))
end Go.Proofs.Yteopfbfcnggbbaa
