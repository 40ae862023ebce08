import Derived.Test.YtoejpckfeflkaaaGreatDoorMl
import Derived.Test.YtoejpckfeflkaaaGreatDoorPwPtw
import Derived.Test.YtoejpckfeflkaaaGreatDoorPwBool
import Derived.Test.YtoejpckfeflkaaaGreatDoorSc
import Derived.Test.YtoejpckfeflkaaaGreatDoorKd
import Derived.Test.YtoejpckfeflkaaaGreatDoorTd
import Derived.Test.YtoejpckfeflkaaaGreatDoorPwTree
import Derived.Test.YtoejpckfeflkaaaGreatDoorPwPmt
/- Strong modules; first places. -/
namespace Go.Proofs.YtoejpckfeflkaaaGreatDoor
open Go Go.RowKit Go.Pw

theorem en_x_slices_IndexFunc_int_int : Entry Tryz.prog 85 := ⟨_, Tryz.func85, by kernel_rfl, rfl⟩
theorem x_IndexFunc_c (lv : Value) (l : List Int) (f : FuncId) (cs : List Value) (p : Int → Bool) (w : World) (hv : Arr w lv (ints l))
    (hp : ∀ (i : Nat) w', i < l.length → Below w.heap.size w w' → Pure Tryz.prog f ([Value.int .i64 (l.getD i 0)] ++ cs).toArray w' (.bool (p (l.getD i 0)))) :
    Pure Tryz.prog 85 #[lv, .func (.func f) #[] cs.toArray] w (.int .i64 (idxF p l)) := by
  refine pure_enter (args := [_, _]) en_x_slices_IndexFunc_int_int Tryz.func85 rfl Tryz.ntmps85 rfl ?_
  have hl := hv.len
  repeat' (first | apply pwp_seq | apply pwp_region | (apply px_run; (first | (apply opv_move; first | exact hid_int rfl | rfl) | (apply opv_assign; first | exact hid_int rfl) | (apply opv_len_ints el_int; rfl; (first | exact rd_old (by assumption)))); rfl; rfl) | apply px_nil | apply qseq_normal | apply pwp_block)
  refine pwp_loop (τ := Nat) [(4,5), (8,18)] (fun k => [(8, .int .i64 (k : Int))]) (fun k => Cl [] w []) (fun k => k ≤ l.length ∧ ∀ i, i < k → p (l.getD i 0) = false) (fun k => l.length - k) 0
    ⟨rfl, trivial⟩ ⟨Nat.zero_le _, fun i hi => by omega⟩ (fun _ h => h) (fun J k hk => ?_)
  obtain ⟨hk, he⟩ := hk
  by_cases hlt : k < l.length
  · repeat' (first | apply pwp_seq | apply pwp_region | (apply px_run; (first | (apply opv_move; first | exact hid_int rfl | rfl) | (apply opv_assign; first | exact hid_int rfl) | (apply opv_lss <;> rfl) | (apply opv_add_in; rfl; rfl; omega) | (apply opv_load_ints sc_int; rfl; (first | exact rd_old (by assumption)); (first | omega)) | (apply opv_index_nat (vs := ints _) el_int; rfl; rfl; (first | exact rd_old (by assumption)); (first | (simp only [ints_length]; omega))) | (apply opv_callx; rfl; rfl; exact Cl.stable _ _ _; exact fun w hw => hp k w hlt hw.below)); rfl; rfl) | apply px_nil | apply qseq_normal | apply qseq_ret | apply pwp_block | apply qblock_normal | apply qblock_ret | apply pwp_skip | apply pwp_ret | apply qround_ret | (apply pwp_cond_dec; rfl; all_goals (intro hc; try (first | (exfalso; omega)))) | (apply pwp_cond; rfl; all_goals (intro hc; try (first | fail))))
    · refine qbody_ret1 (v := .int _ _) rfl rfl ⟨by rw [idxF_some p l k hlt hc he], fun _ h => h.below⟩
    · refine qround_normal ?_ ⟨k + 1, ⟨rfl, trivial⟩, ⟨by omega, fun i hi => ?_⟩, by omega, fun _ h => h⟩
      · repeat (first | exact same_refl | refine same_upd rfl ?_ | refine same_junk rfl ?_)
      · by_cases hik : i < k
        · exact he i hik
        · obtain rfl : i = k := by omega
          exact hc
  · repeat' (first | apply pwp_seq | apply pwp_region | (apply px_run; (first | (apply opv_assign; first | exact hid_int rfl) | (apply opv_lss <;> rfl)); rfl; rfl) | apply px_nil | apply qseq_normal | apply qseq_exit | (apply qblock_exit_same; rfl) | apply pwp_exit | apply pwp_ret | apply qround_exit | (apply pwp_cond_dec; rfl; all_goals (intro hc; try (first | (exfalso; omega)))))
    refine qbody_ret1 (v := .int _ _) rfl rfl ⟨by rw [idxF_none p l fun i hi => he i (by omega)], fun _ h => h.below⟩
theorem en_x_slices_ContainsFunc_int_int : Entry Tryz.prog 58 := ⟨_, Tryz.func58, by kernel_rfl, rfl⟩
theorem x_ContainsFunc_c (lv : Value) (l : List Int) (f : FuncId) (cs : List Value) (p : Int → Bool) (w : World) (hv : Arr w lv (ints l))
    (hp : ∀ (i : Nat) w', i < l.length → Below w.heap.size w w' → Pure Tryz.prog f ([Value.int .i64 (l.getD i 0)] ++ cs).toArray w' (.bool (p (l.getD i 0)))) :
    Pure Tryz.prog 58 #[lv, .func (.func f) #[] cs.toArray] w (.bool (l.any p)) := by
  refine pure_enter (args := [_, _]) en_x_slices_ContainsFunc_int_int Tryz.func58 rfl Tryz.ntmps58 rfl ?_
  repeat' (first | apply pwp_seq | apply pwp_region | (apply px_run; (first | (apply opv_move; first | rfl) | (apply opv_assign; first | exact hid_bool rfl) | (apply opv_geq <;> rfl) | (apply opv_call; rfl; rfl; exact Cl.stable _ _ _; exact fun w hw => x_IndexFunc_c _ l f cs p _ (by first | exact hw.arr (by assumption)) (fun i w' h1 h2 => hp i w' h1 (below_comp hw.below h2)))); rfl; rfl) | apply px_nil | apply qseq_normal | apply pwp_ret)
  refine qbody_ret1 (v := .bool (decide _)) rfl rfl ⟨?_, fun _ h => h.below⟩
  congr 1
  rw [Bool.eq_iff_iff, decide_eq_true_eq]
  exact idxF_any p l
theorem en_i_overlap : Entry Tryz.prog 60 := ⟨_, Tryz.func60, by kernel_rfl, rfl⟩
theorem i_overlap_c (a b : Int) (w : World) : Pure Tryz.prog 60 #[.int .i64 a, .int .i64 b] w (.bool (decide (overQ a b))) := by
  refine pure_enter (args := [_, _]) en_i_overlap Tryz.func60 rfl Tryz.ntmps60 rfl ?_
  repeat' (first | apply pwp_seq | apply pwp_region | (apply px_run; (first | (apply opv_move; first | exact hid_int rfl | exact hid_bool rfl) | (apply opv_assign; first | exact hid_bool rfl) | (apply opv_neq <;> rfl) | (apply opv_and <;> rfl) | (apply opv_andNot <;> rfl) | (apply opv_pick_t <;> rfl) | (apply opv_pick_f <;> rfl)); rfl; rfl) | apply px_nil | (apply px_skip; rfl; rfl) | apply qseq_normal | apply pwp_ret | (apply px_guard_ndec; rfl; rfl; rfl; all_goals (intro hc; try (first | fail))))
  all_goals first
    | (refine qbody_ret1 (v := .bool _) rfl rfl ⟨ret_false rfl fun h => hc (by first | exact h.1 | exact h.2.1 | exact h.2.2), fun _ h => h.below⟩; done)
    | (refine qbody_ret1 (v := .bool (decide _)) rfl rfl ⟨ret_iff ⟨fun h => ⟨by assumption, by assumption, h⟩, fun h => h.2.2⟩, fun _ h => h.below⟩; done)
    | (refine qbody_ret1 (v := .bool _) rfl rfl ⟨ret_false rfl fun h => by simp_all [overQ], fun _ h => h.below⟩; done)
theorem en_i_StrongModules_1 : Entry Tryz.prog 59 := ⟨_, Tryz.func59, by kernel_rfl, rfl⟩
theorem i_StrongModules_1_c (o s : Int) (b : Nat) (w : World) (hb : Bk w b [.int .i64 s]) : Pure Tryz.prog 59 #[.int .i64 o, .pointer (some ⟨b, 0, none⟩)] w (.bool (decide (overQ o s))) := by
  refine pure_enter (args := [_, _]) en_i_StrongModules_1 Tryz.func59 rfl Tryz.ntmps59 rfl ?_
  repeat' (first | apply pwp_seq | apply pwp_region | (apply px_run; (first | (apply opv_move; first | exact hid_int rfl) | (apply opv_assign; first | exact hid_bool rfl) | (apply opv_load_old; (first | with_reducible exact sc_int); rfl; assumption; rfl) | (apply opv_call; rfl; rfl; exact Cl.stable _ _ _; exact fun w hw => i_overlap_c _ _ _)); rfl; rfl) | apply px_nil | apply qseq_normal | apply pwp_ret)
  refine qbody_ret1 (v := .bool _) rfl rfl ⟨rfl, fun _ h => h.below⟩
theorem en_i_StrongModules : Entry Tryz.prog 29 := ⟨_, Tryz.func29, by kernel_rfl, rfl⟩
set_option maxHeartbeats 1600000 in
theorem i_StrongModules_c (size : Int) (gv : Value) (rows : List Int) (w : World) (hr : Arr w gv (ints rows)) :
    Gives Tryz.prog 29 #[.agg #[.int .i64 size, gv]] w (fun v objs => objs = [.row 3 v (ints (strongL size rows))]) := by
  refine gives_enter (args := [_]) en_i_StrongModules Tryz.func29 rfl Tryz.ntmps29 rfl ?_
  have hml := modsL_length size rows
  generalize hLL : modsL size rows = L at *
  have hLr : strongL size rows = strongU L L.length := by unfold strongL; rw [hLL]
  rw [hLr]
  have hmo := fun (w' : World) (h : Arr w' gv (ints rows)) => i_ModulesOf_c size gv rows w' h
  rw [hLL] at hmo
  have hnat : ∀ k, k < L.length → ∃ M : Nat, L.getD k 0 = M ∧ M < 128 := fun k hk => modsL_nat (size := size) (rows := rows) (by rw [hLL]; exact getD_mem hk)
  repeat' (first | apply pwp_seq | apply pwp_region | (apply px_run; (first | (apply opv_move; first | exact hid_int rfl | rfl) | (apply opv_assign; first | rfl) | (apply opv_len_ints el_int; rfl; (first | exact rd_row 1 rfl)) | (apply opv_load_str 0 st_G; rfl; rfl; rfl)); rfl; rfl) | apply px_nil | apply qseq_normal | apply pwp_block | (apply px_box; rfl; rfl; rfl; rfl; intro bk) | (apply px_lit0 ez_int; rfl; rfl; rfl; intro sv) | (apply px_gives; rfl; rfl; rfl; rfl; rfl; exact fun w hw => hmo _ (by first | exact hw.arr (by assumption)); rintro sm _ rfl))
  refine pwp_loop (τ := Nat × Value) [(4,4), (6,6), (12,24)] (fun x => [(12, .int .i64 (x.1 : Int)), (4, x.2)]) (fun x => Cl [] w [.row 3 x.2 (ints (strongU L x.1)), .row 3 sm (ints L), .blk bk [.int .i64 size, gv]]) (fun x => x.1 ≤ L.length) (fun x => L.length - x.1) (0, _)
    ⟨rfl, rfl, trivial⟩ (Nat.zero_le _) (fun _ h => h) (fun J x hk => ?_)
  obtain ⟨k, so⟩ := x
  have hl := strongU_length L k
  dsimp only at hk ⊢
  by_cases hlt : k < L.length
  · have hsucc := strongU_succ L k hlt
    repeat' (first | apply pwp_seq | apply pwp_region | (apply px_run; (first | (apply opv_move; first | exact hid_int rfl | rfl) | (apply opv_assign; first | rfl) | (apply opv_lss <;> rfl) | (apply opv_not <;> rfl) | (apply opv_add_in; rfl; rfl; omega) | (apply opv_load_blk 0; (first | with_reducible exact sc_int); rfl; rfl; rfl) | (apply opv_load_ints sc_int; rfl; (first | exact rd_row 1 rfl); (first | omega)) | (apply opv_index_nat (vs := ints _) el_int; rfl; rfl; (first | exact rd_row 1 rfl); (first | (simp only [ints_length]; omega))) | (apply opv_make_func; rfl) | (apply opv_call; rfl; rfl; exact Cl.stable _ _ _; exact fun w hw => x_ContainsFunc_c _ L 59 _ (fun o => decide (overQ o (L.getD k 0))) _ (by first | exact hw.rowArr (k := 2) rfl) (fun i w' h1 h2 => i_StrongModules_1_c _ _ _ w' ((hw.bk (k := 0) rfl).below h2)))); rfl; rfl) | apply px_nil | apply qseq_normal | apply pwp_block | apply qblock_normal | apply pwp_skip | (apply pwp_cond_dec; rfl; all_goals (intro hc; try (first | (exfalso; omega)))) | (apply pwp_cond_not; rfl; all_goals (intro hc; try (first | fail))) | (apply px_alloc1 ez_int rfl; rfl; rfl; rfl; intro bk) | (apply px_store_blk 0; (first | with_reducible exact co_int); rfl; rfl; rfl; (intro w hw; (first | rfl)); rfl; rfl) | (apply px_lit1 ez_int; rfl; (intro w hw; (first | rfl)); rfl; rfl; rfl; intro sv) | (apply px_append 2 ez_int; rfl; rfl; rfl; (first | exact rd_row 0 rfl); (first | (intro _ _ u hu; simp at hu; subst hu; rfl)); (simp [ints]; omega); decide; rfl; rfl; intro sv))
    · refine qround_normal ?_ ⟨(k + 1, _), ⟨rfl, rfl, trivial⟩, by dsimp only; omega, by dsimp only; omega, fun w' h => ?_⟩
      · repeat (first | exact same_refl | refine same_upd rfl ?_ | refine same_junk rfl ?_)
      · rw [if_pos (by unfold strongB; rw [hc]; rfl)] at hsucc
        dsimp only
        rw [hsucc, ← ints_snoc]
        exact Cl.sub (by assumption) (by repeat (first | exact List.Sublist.slnil | exact List.Sublist.refl _ | apply List.Sublist.cons_cons | exact List.sublist_append_left _ _ | exact List.sublist_append_right _ _ | apply List.Sublist.cons))
    · refine qround_normal ?_ ⟨(k + 1, so), ⟨rfl, rfl, trivial⟩, by dsimp only; omega, by dsimp only; omega, fun w' h => ?_⟩
      · repeat (first | exact same_refl | refine same_upd rfl ?_ | refine same_junk rfl ?_)
      · rw [if_neg (by unfold strongB; rw [hc]; simp)] at hsucc
        dsimp only
        rw [hsucc]
        exact Cl.sub (by assumption) (by repeat (first | exact List.Sublist.slnil | exact List.Sublist.refl _ | apply List.Sublist.cons_cons | exact List.sublist_append_left _ _ | exact List.sublist_append_right _ _ | apply List.Sublist.cons))
  · obtain rfl : k = L.length := by omega
    repeat' (first | apply pwp_seq | apply pwp_region | (apply px_run; (first | (apply opv_move; first | rfl) | (apply opv_assign; first | rfl) | (apply opv_lss <;> rfl)); rfl; rfl) | apply px_nil | apply qseq_normal | apply qseq_exit | (apply qblock_exit_same; rfl) | apply pwp_exit | apply pwp_ret | apply qround_exit | (apply pwp_cond_dec; rfl; all_goals (intro hc; try (first | (exfalso; omega)))))
    refine qbody_ret1 (v := so) rfl rfl ⟨_, rfl, fun w' h => ?_⟩
    exact Cl.sub (by assumption) (by repeat (first | exact List.Sublist.slnil | exact List.Sublist.refl _ | apply List.Sublist.cons_cons | exact List.sublist_append_left _ _ | exact List.sublist_append_right _ _ | apply List.Sublist.cons))
theorem en_s_StrongModules : Entry Tryz.prog 34 := ⟨_, Tryz.func34, by kernel_rfl, rfl⟩
set_option maxHeartbeats 1600000 in
theorem s_StrongModules_c (size : Int) (gv : Value) (rows : List Int) (w : World) (hr : Arr w gv (ints rows)) :
    Gives Tryz.prog 34 #[.agg #[.int .i64 size, gv]] w (fun v objs => objs = [.row 3 v (ints (strongL size rows))]) := by
  refine gives_enter (args := [_]) en_s_StrongModules Tryz.func34 rfl Tryz.ntmps34 rfl ?_
  have hml := modsL_length size rows
  have hnat0 : ∀ k, k < (modsL size rows).length → ∃ M : Nat, (modsL size rows).getD k 0 = M ∧ M < 128 := fun k hk => modsL_nat (size := size) (rows := rows) (getD_mem hk)
  have hmo := fun (w' : World) (h : Arr w' gv (ints rows)) => s_ModulesOf_c size gv rows w' h
  unfold strongL
  generalize modsL size rows = L at *
  repeat' (first | apply pwp_seq | apply pwp_region | (apply px_run; (first | (apply opv_assign; first | exact hid_int rfl | rfl) | (apply opv_load_str 1 st_G; rfl; rfl; rfl)); rfl; rfl) | apply px_nil | apply qseq_normal | apply pwp_block | (apply px_box; rfl; rfl; rfl; rfl; intro bk) | (apply px_lit0 ez_int; rfl; rfl; rfl; intro sv) | (apply px_gives; rfl; rfl; rfl; rfl; rfl; exact fun w hw => hmo _ (by first | exact hw.arr (by assumption)); rintro sm _ rfl))
  refine pwp_loop (τ := Nat × Value) [(3,3), (5,8), (12,61)] (fun x => [(5, .int .i64 (x.1 : Int)), (3, x.2)]) (fun x => Cl [] w [.row 3 x.2 (ints (strongU L x.1)), .row 3 sm (ints L), .blk bk [.int .i64 size, gv]]) (fun x => x.1 ≤ L.length) (fun x => L.length - x.1) (0, _)
    ⟨rfl, rfl, trivial⟩ (Nat.zero_le _) (fun _ h => by refine h.perm ?_; exact List.Perm.swap _ _ _) (fun J x hk => ?_)
  obtain ⟨i, so⟩ := x
  have hl := strongU_length L i
  dsimp only at hk ⊢
  by_cases hlt : i < L.length
  · have hsucc := strongU_succ L i hlt
    obtain ⟨A, hA, hA7⟩ := hnat0 i hlt
    repeat' (first | apply pwp_seq | apply pwp_region | (apply px_run; (first | (apply opv_move; first | exact hid_int rfl | rfl) | (apply opv_assign; first | exact hid_int rfl | exact hid_bool rfl) | (apply opv_lss <;> rfl) | (apply opv_len_ints el_int; rfl; (first | exact rd_row 1 rfl))); rfl; rfl) | apply px_nil | apply qseq_normal | apply pwp_block | apply pwp_skip | (apply pwp_cond_dec; rfl; all_goals (intro hc; try (first | (exfalso; omega)))))
    refine pwp_loop (τ := Nat) [(6,8), (18,53)] (fun k => [(7, .int .i64 (k : Int)), (6, .bool (calmU L (L.getD i 0) k))]) (fun x => Cl [] w [.row 3 so (ints (strongU L i)), .row 3 sm (ints L), .blk bk [.int .i64 size, gv]]) (fun k => k ≤ L.length) (fun k => L.length - k) 0
      ⟨rfl, rfl, trivial⟩ (Nat.zero_le _) (fun _ h => h) (fun J2 k hk2 => ?_)
    by_cases hlk : k < L.length
    · have hcs := calmU_succ L (L.getD i 0) k hlk
      obtain ⟨B, hB, hB7⟩ := hnat0 k hlk
      have hov : overQ (L.getD k 0) (L.getD i 0) ↔ ¬ (iand (L.getD i 0) (L.getD k 0) = 0 ∨ iand (L.getD i 0) (L.getD k 0) = L.getD i 0 ∨ iand (L.getD i 0) (L.getD k 0) = L.getD k 0) := by rw [hA, hB]; exact over_iff hB7 hA7
      have hcal : calmU L (L.getD i 0) k = !((L.take k).any fun o => decide (overQ o (L.getD i 0))) := rfl
      repeat' (first | apply pwp_seq | apply pwp_region | (apply px_run; (first | (apply opv_move; first | exact hid_int rfl | exact hid_bool rfl | rfl) | (apply opv_assign; first | exact hid_int rfl | exact hid_bool rfl) | (apply opv_lss <;> rfl) | (apply opv_eql <;> rfl) | (apply opv_and <;> rfl) | (apply opv_pick_t <;> rfl) | (apply opv_pick_f <;> rfl) | (apply opv_add_in; rfl; rfl; omega) | (apply opv_load_ints sc_int; rfl; (first | exact rd_row 1 rfl); (first | omega)) | (apply opv_index_nat (vs := ints _) el_int; rfl; rfl; (first | exact rd_row 1 rfl); (first | (simp only [ints_length]; omega))) | (apply opv_len_ints el_int; rfl; (first | exact rd_row 1 rfl))); rfl; rfl) | apply px_nil | (apply px_skip; rfl; rfl) | apply qseq_normal | apply pwp_block | apply qblock_normal | apply pwp_skip | (apply pwp_region_mix; kernel_rfl; decide +kernel; exact Cl.stable _ _ _) | (apply px_guard_dec; rfl; rfl; rfl; all_goals (intro hc; try (first | fail))) | (apply px_guard_not; rfl; rfl; rfl; all_goals (intro hc; try (first | fail))) | (apply pwp_cond_dec; rfl; all_goals (intro hc; try (first | (exfalso; omega)))))
      all_goals
        refine qround_normal ?_ ⟨k + 1, ⟨rfl, ?_, trivial⟩, by omega, by omega, fun _ h => h⟩
        · repeat (first | exact same_refl | refine same_upd rfl ?_ | refine same_junk rfl ?_)
        · show Value.bool _ = .bool (calmU L (L.getD i 0) (k + 1))
          rw [hcs, hcal]
          first
            | (have hnov : ¬ overQ (L.getD k 0) (L.getD i 0) := fun h => hov.1 h (by first | exact .inl hc | exact .inr (.inl hc) | exact .inr (.inr hc))
               have hany : (List.any (List.take k L) fun o => decide (overQ o (L.getD i 0))) = false := by assumption
               rw [hany, decide_eq_false hnov]; rfl)
            | (rw [hc]; rfl)
            | (rw [show (List.any (List.take k L) fun o => decide (overQ o (L.getD i 0))) = false by assumption]; congr 1; rw [Bool.eq_iff_iff]; simp only [Bool.not_false, Bool.true_and, Bool.not_eq_true', decide_eq_true_eq, decide_eq_false_iff_not]; rw [hov, Decidable.not_not]; constructor; (intro h; exact .inr (.inr h)); (rintro (h | h | h); exact absurd h (by assumption); exact absurd h (by assumption); exact h))
    · obtain rfl : k = L.length := by omega
      have hca := calmU_all L (L.getD i 0)
      rw [hca]
      repeat' (first | apply pwp_seq | apply pwp_region | (apply px_run; (first | (apply opv_move; first | exact hid_int rfl | exact hid_bool rfl | rfl) | (apply opv_assign; first | exact hid_int rfl | rfl) | (apply opv_lss <;> rfl) | (apply opv_add_in; rfl; rfl; omega) | (apply opv_load_ints sc_int; rfl; (first | exact rd_row 1 rfl); (first | omega)) | (apply opv_index_nat (vs := ints _) el_int; rfl; rfl; (first | exact rd_row 1 rfl); (first | (simp only [ints_length]; omega))) | (apply opv_len_ints el_int; rfl; (first | exact rd_row 1 rfl))); rfl; rfl) | apply px_nil | apply qseq_normal | apply qseq_exit | apply qblock_normal | (apply qblock_exit_same; rfl) | apply pwp_skip | apply pwp_exit | apply qround_exit | (apply pwp_cond_dec; rfl; all_goals (intro hc; try (first | (exfalso; omega)))) | (apply pwp_cond_not; rfl; all_goals (intro hc; try (first | fail))) | (apply px_lit1 ez_int; rfl; (intro w hw; (first | rfl)); rfl; rfl; rfl; intro sv) | (apply px_append 1 ez_int; rfl; rfl; rfl; (first | exact rd_row 0 rfl); (first | (intro _ _ u hu; simp at hu; subst hu; rfl)); (simp [ints]; omega); decide; rfl; rfl; intro sv))
      · refine qround_normal ?_ ⟨(i + 1, _), ⟨rfl, rfl, trivial⟩, by dsimp only; omega, by dsimp only; omega, fun w' h => ?_⟩
        · repeat (first | exact same_refl | refine same_upd rfl ?_ | refine same_junk rfl ?_)
        · rw [if_pos (show strongB L (L.getD i 0) = true by unfold strongB; rw [hc]; rfl)] at hsucc
          dsimp only
          rw [hsucc, ← ints_snoc]
          exact Cl.sub (by assumption) (by repeat (first | exact List.Sublist.slnil | exact List.Sublist.refl _ | apply List.Sublist.cons_cons | exact List.sublist_append_left _ _ | exact List.sublist_append_right _ _ | apply List.Sublist.cons))
      · refine qround_normal ?_ ⟨(i + 1, so), ⟨rfl, rfl, trivial⟩, by dsimp only; omega, by dsimp only; omega, fun w' h => ?_⟩
        · repeat (first | exact same_refl | refine same_upd rfl ?_ | refine same_junk rfl ?_)
        · rw [if_neg (show ¬ strongB L (L.getD i 0) = true by unfold strongB; rw [hc]; exact Bool.false_ne_true)] at hsucc
          dsimp only
          rw [hsucc]
          exact Cl.sub (by assumption) (by repeat (first | exact List.Sublist.slnil | exact List.Sublist.refl _ | apply List.Sublist.cons_cons | exact List.sublist_append_left _ _ | exact List.sublist_append_right _ _ | apply List.Sublist.cons))
  · obtain rfl : i = L.length := by omega
    repeat' (first | apply pwp_seq | apply pwp_region | (apply px_run; (first | (apply opv_move; first | exact hid_int rfl | rfl) | (apply opv_assign; first | rfl) | (apply opv_lss <;> rfl) | (apply opv_len_ints el_int; rfl; (first | exact rd_row 1 rfl))); rfl; rfl) | apply px_nil | apply qseq_normal | apply qseq_exit | (apply qblock_exit_same; rfl) | apply pwp_exit | apply pwp_ret | apply qround_exit | (apply pwp_cond_dec; rfl; all_goals (intro hc; try (first | (exfalso; omega)))))
    refine qbody_ret1 (v := so) rfl rfl ⟨_, rfl, fun w' h => ?_⟩
    exact Cl.sub (by assumption) (by repeat (first | exact List.Sublist.slnil | exact List.Sublist.refl _ | apply List.Sublist.cons_cons | exact List.sublist_append_left _ _ | exact List.sublist_append_right _ _ | apply List.Sublist.cons))
end Go.Proofs.YtoejpckfeflkaaaGreatDoor
/- Module trees built. -/
namespace Go.Proofs.YtoejpckfeflkaaaGreatDoor
open Go Go.RowKit Go.Pw
theorem bl_T : BuildT Tryz.prog 29 := ⟨fun ao l c => by kernel_rfl, by kernel_rfl⟩
theorem en_i_ModuleTreeOf_1 : Entry Tryz.prog 31 := ⟨_, Tryz.func31, by kernel_rfl, rfl⟩
theorem i_ModuleTreeOf_1_c (x y : Int) (w : World) : Pure Tryz.prog 31 #[.int .i64 x, .int .i64 y] w (.int .i64 (cmpC x y)) := by
  refine pure_enter (args := [_, _]) en_i_ModuleTreeOf_1 Tryz.func31 rfl Tryz.ntmps31 rfl ?_
  have h1 := listS_length x
  have h2 := listS_length y
  have e1 : cntS x = (listS x).length := rfl
  have e2 : cntS y = (listS y).length := rfl
  repeat' (first | apply pwp_seq | apply pwp_region | (apply px_run; (first | (apply opv_move; first | exact hid_int rfl) | (apply opv_assign; first | exact hid_int rfl) | (apply opv_sub_in; rfl; rfl; omega) | (apply opv_call; rfl; rfl; exact Cl.stable _ _ _; exact fun w hw => i_CountSet_c _ _)); rfl; rfl) | apply px_nil | apply qseq_normal | apply pwp_ret)
  refine qbody_ret1 (v := .int _ _) rfl rfl ⟨rfl, fun _ h => h.below⟩
theorem en_i_ModuleTreeOf : Entry Tryz.prog 6 := ⟨_, Tryz.func6, by kernel_rfl, rfl⟩
set_option maxRecDepth 100000 in
set_option maxHeartbeats 3200000 in
theorem i_ModuleTreeOf_c (size : Int) (gv : Value) (rows : List Int) (w : World) (hr : Arr w gv (ints rows)) :
    Gives Tryz.prog 6 #[.agg #[.int .i64 size, gv]] w (fun v objs => ∃ sa sb sc, v = .tuple #[.agg #[sa, sb, sc], .bool (decide (IsG size rows))] ∧ objs = [.row 3 sa (ints (mtS size rows)), .row 3 sb (ints (mtK size rows)), .row 3 sc (ints (mtQ size rows))]) := by
  refine gives_enter (args := [_]) en_i_ModuleTreeOf Tryz.func6 rfl Tryz.ntmps6 rfl ?_
  have hfew := strong_few size rows
  by_cases hg : IsG size rows
  case neg =>
    have f1 : mtS size rows = [] := if_neg hg
    have f2 : mtK size rows = [] := by unfold mtK; rw [f1]; rfl
    have f3 : mtQ size rows = [] := by unfold mtQ; rw [f1]; rfl
    repeat' (first | apply pwp_seq | apply pwp_region | (apply px_run; (first | (apply opv_buildT0 bl_T) | (apply opv_assign; first | exact hid_bool rfl) | (apply opv_not_dec <;> rfl) | (apply opv_load_str 1 st_G; rfl; rfl; rfl) | (apply opv_call; rfl; rfl; exact Cl.stable _ _ _; exact fun w hw => i_IsGraph_c _ _ rows _ (by first | exact hw.arr (by assumption)))); rfl; rfl) | apply px_nil | apply qseq_normal | apply qseq_ret | apply pwp_ret | (apply pwp_cond_ndec; rfl; all_goals (intro hc; try (first | contradiction))) | (apply px_box; rfl; rfl; rfl; rfl; intro bk) | (apply px_alloc st_T; rfl; rfl; rfl; intro bk) | (apply px_store_str 0 st_T; rfl; rfl; rfl; rfl; rfl; (intro w hw; (first | refine all3 rfl ?_ ?_ ?_) <;> (first | rfl)); rfl))
    refine qbody_cell_tmp 0 rfl st_T rfl rfl rfl rfl ⟨_, ⟨_, _, _, by rw [decide_eq_false hg]; rfl, rfl⟩, fun w' h => ?_⟩
    rw [f1, f2, f3]
    exact (((h.sub (List.nil_sublist _)).nilRow _).nilRow _).nilRow _
  have f1 : mtS size rows = sortR ltC (strongL size rows) := if_pos hg
  have f2 : mtK size rows = (mtS size rows).map (kindX size rows) := rfl
  have f3 : mtQ size rows = parsL (mtS size rows) := rfl
  have f4 : sortR (ltBy cmpC) (strongL size rows) = mtS size rows := f1.symm
  have hlen := (mt_lens size rows).1
  rw [f2, f3]
  repeat' (first | apply pwp_seq | apply pwp_region | (apply px_run; (first | (apply opv_buildT1 bl_T; rfl; (first | exact rd_row 0 rfl)) | (apply opv_move; first | exact hid_int rfl) | (apply opv_assign; first | exact hid_bool rfl) | (apply opv_not_dec <;> rfl) | (apply opv_field fld_T0; rfl) | (apply opv_load_blk 0; (first | with_reducible exact sc_ints); rfl; rfl; rfl) | (apply opv_load_blk 1; (first | with_reducible exact sc_ints); rfl; rfl; rfl) | (apply opv_len_ints el_int; rfl; (first | exact rd_row 0 rfl)) | (apply opv_load_str 1 st_G; rfl; rfl; rfl) | (apply opv_call; rfl; rfl; exact Cl.stable _ _ _; exact fun w hw => i_IsGraph_c _ _ rows _ (by first | exact hw.arr (by assumption)))); rfl; rfl) | apply px_nil | apply qseq_normal | apply pwp_block | apply pwp_skip | (apply pwp_cond_ndec; rfl; all_goals (intro hc; try (first | contradiction))) | (apply px_box; rfl; rfl; rfl; rfl; intro bk) | (apply px_alloc st_T; rfl; rfl; rfl; intro bk) | (apply px_store_str 0 st_T; rfl; rfl; rfl; rfl; rfl; (intro w hw; (first | refine all3 rfl ?_ ?_ ?_) <;> (first | rfl | exact stor_row 1 hw rfl)); rfl) | (apply px_turns [1]; rfl; rfl; rfl; rfl; rfl; exact fun w ho => x_SortStable_c _ _ 31 [] cmpC _ ho (by omega) (fun x y w' => i_ModuleTreeOf_1_c x y w')) | (apply px_gives; rfl; rfl; rfl; rfl; rfl; exact fun w hw => i_StrongModules_c _ _ rows _ (by first | exact hw.arr (by assumption)); rintro ss _ rfl))
  rename_i bg br
  rw [f4]
  generalize hT : mtS size rows = T at *
  refine pwp_loop (τ := Nat × Value × Value) [(5,9), (23,58)] (fun x => [(23, .int .i64 (x.1 : Int))]) (fun x => Cl [] w [.blk bk [ss, x.2.1, x.2.2], .row 3 ss (ints T), .row 3 x.2.1 (ints ((T.take x.1).map (kindX size rows))), .row 3 x.2.2 (ints (parsL (T.take x.1))), .blk br [.slice none 0 0, .slice none 0 0, .slice none 0 0], .blk bg [.int .i64 size, gv]])
    (fun x => x.1 ≤ T.length) (fun x => T.length - x.1) (0, .slice none 0 0, .slice none 0 0)
    ⟨rfl, trivial⟩ (Nat.zero_le _) (fun w' h => ((h.nilRow 3).nilRow 3).pick [3, 2, 0, 0, 0, 0] rfl) (fun J x hx => ?_)
  obtain ⟨i, kv, pv⟩ := x
  dsimp only at hx ⊢
  by_cases hlt : i < T.length
  · have htl : (T.take i).length = i := by rw [List.length_take]; omega
    have hts : T.take (i + 1) = T.take i ++ [T.getD i 0] := take_snoc hlt
    have hkl : ((T.take i).map (kindX size rows)).length = i := by rw [List.length_map]; exact htl
    have hpl : (parsL (T.take i)).length = i := by rw [parsL_len]; exact htl
    repeat' (first | apply pwp_seq | apply pwp_region | (apply px_run; (first | (apply opv_move; first | exact hid_int rfl) | (apply opv_assign; first | exact hid_int rfl) | (apply opv_lss <;> rfl) | (apply opv_field fld_T0; rfl) | (apply opv_load_blk 0; (first | with_reducible exact sc_int | with_reducible exact sc_ints); rfl; rfl; rfl) | (apply opv_load_ints sc_int; rfl; (first | exact rd_row 1 rfl); (first | omega)) | (apply opv_index_nat (vs := ints _) el_int; rfl; rfl; (first | exact rd_row 1 rfl); (first | (simp only [ints_length]; omega))) | (apply opv_len_ints el_int; rfl; (first | exact rd_take (rd_row 1 rfl) (by omega))) | (apply opv_take el_int; rfl; rfl; (first | exact rd_row 1 rfl); (first | (simp only [ints_length]; omega)))); rfl; rfl) | apply px_nil | apply qseq_normal | apply pwp_block | apply pwp_skip | (apply pwp_cond_dec; rfl; all_goals (intro hc; try (first | (exfalso; omega)))))
    refine pwp_loop (τ := Nat) [(7,9), (33,43)] (fun k => [(33, .int .i64 (k : Int)), (7, .int .i64 (parU (T.take i) (T.getD i 0) k))]) (fun k => Cl [] w [.blk bk [ss, kv, pv], .row 3 ss (ints T), .row 3 kv (ints ((T.take i).map (kindX size rows))), .row 3 pv (ints (parsL (T.take i))), .blk br [.slice none 0 0, .slice none 0 0, .slice none 0 0], .blk bg [.int .i64 size, gv]])
      (fun k => k ≤ i) (fun k => i - k) 0
      ⟨rfl, rfl, trivial⟩ (Nat.zero_le _) (fun _ h => h) (fun J2 k hk => ?_)
    have hst : parU (T.take i) (T.getD i 0) (k + 1) = if iandnot (T.getD i 0) ((T.take i).getD k 0) = 0 then (k : Int) else parU (T.take i) (T.getD i 0) k := rfl
    by_cases hki : k < i
    · repeat' (first | apply pwp_seq | apply pwp_region | (apply px_run; (first | (apply opv_move; first | exact hid_int rfl) | (apply opv_assign; first | exact hid_int rfl) | (apply opv_lss <;> rfl) | (apply opv_eql <;> rfl) | (apply opv_andNot <;> rfl) | (apply opv_add_in; rfl; rfl; omega) | (apply opv_load_ints sc_int; rfl; (first | exact rd_take (rd_row 1 rfl) (by omega)); (first | omega)) | (apply opv_index_nat (vs := ints _) el_int; rfl; rfl; (first | exact rd_take (rd_row 1 rfl) (by omega)); (first | (simp only [ints_length]; omega)))); rfl; rfl) | apply px_nil | apply qseq_normal | apply pwp_block | apply qblock_normal | apply pwp_skip | (apply pwp_cond_dec; rfl; all_goals (intro hc; try (first | (exfalso; omega)))))
      · refine qround_normal ?_ ⟨k + 1, ⟨rfl, by rw [hst, if_pos hc]; rfl, trivial⟩, by omega, by omega, fun _ h => h⟩
        repeat (first | exact same_refl | refine same_upd rfl ?_ | refine same_junk rfl ?_)
      · refine qround_normal ?_ ⟨k + 1, ⟨rfl, by rw [hst, if_neg hc]; rfl, trivial⟩, by omega, by omega, fun _ h => h⟩
        repeat (first | exact same_refl | refine same_upd rfl ?_ | refine same_junk rfl ?_)
    · obtain rfl : k = i := by omega
      have hpar : parU (T.take k) (T.getD k 0) k = parL (T.take k) (T.getD k 0) := by unfold parL; rw [htl]
      repeat' (first | apply pwp_seq | apply pwp_region | (apply px_run; (first | (apply opv_move; first | exact hid_int rfl) | (apply opv_lss <;> rfl) | (apply opv_add_in; rfl; rfl; omega) | (apply opv_field fld_T1; rfl) | (apply opv_field fld_T2; rfl) | (apply opv_load_blk 0; (first | with_reducible exact sc_ints); rfl; rfl; rfl) | (apply opv_load_str 1 st_G; rfl; rfl; rfl) | (apply opv_call; rfl; rfl; exact Cl.stable _ _ _; exact fun w hw => i_KindOf_c _ _ rows _ _ (by first | exact hw.arr (by assumption)))); rfl; rfl) | apply px_nil | apply qseq_normal | apply qseq_exit | apply qblock_normal | (apply qblock_exit_same; rfl) | apply pwp_exit | apply qround_exit | (apply pwp_region_any [0, 1, 2, 3, 7, 8, 9] [13, 15] 9 (Cl [] w [.blk bk [ss, kv, pv], .blk bg [.int .i64 size, gv]]); kernel_rfl; decide +kernel; exact Cl.stable _ _ _; exact fun w h => h.sub (by repeat (first | exact List.Sublist.refl _ | apply List.Sublist.cons_cons | apply List.Sublist.cons))) | apply qlooks_normal | (apply qstep_out; decide +kernel) | (apply qstep_in; exact fun w h => h.sub (by repeat (first | exact List.Sublist.refl _ | apply List.Sublist.cons_cons | apply List.Sublist.cons))) | (apply pxa_nil; decide +kernel) | (apply pxa_one 4; decide +kernel; rfl) | (apply pxa_one 5; decide +kernel; rfl) | (apply pxa_one 6; decide +kernel; rfl) | (apply pxa_one 10; decide +kernel; rfl) | (apply pxa_one 11; decide +kernel; rfl) | (apply pxa_one 12; decide +kernel; rfl) | (apply pxa_one 13; decide +kernel; rfl) | (apply pxa_one 14; decide +kernel; rfl) | (apply pxa_one 15; decide +kernel; rfl) | (apply pxa_two 4 10; decide +kernel; rfl; rfl) | (apply pxa_two 5 10; decide +kernel; rfl; rfl) | (apply pxa_two 6 10; decide +kernel; rfl; rfl) | (apply pxa_two 10 12; decide +kernel; rfl; rfl) | (apply pxa_two 11 12; decide +kernel; rfl; rfl) | (apply pwp_cond_dec; rfl; all_goals (intro hc; try (first | (exfalso; omega)))) | (apply px_lit1 ez_int; rfl; (intro w hw; (first | rfl)); rfl; rfl; rfl; intro sv) | (apply px_append 3 ez_int; rfl; rfl; rfl; (first | exact rd_row 0 rfl); (first | (intro _ _ u hu; simp at hu; subst hu; rfl)); (simp [ints]; omega); decide; rfl; rfl; intro sv) | (apply px_append 4 ez_int; rfl; rfl; rfl; (first | exact rd_row 0 rfl | exact rd_row 1 rfl); (first | (intro _ _ u hu; simp at hu; subst hu; rfl)); (simp [ints]; omega); decide; rfl; rfl; intro sv) | (apply px_append 5 ez_int; rfl; rfl; rfl; (first | exact rd_row 0 rfl | exact rd_row 1 rfl); (first | (intro _ _ u hu; simp at hu; subst hu; rfl)); (simp [ints]; omega); decide; rfl; rfl; intro sv) | (apply px_store_blk 2; (first | with_reducible exact co_ints); rfl; rfl; rfl; (intro w hw; (first | exact stor_row 4 hw rfl | exact stor_row 5 hw rfl)); rfl; rfl))
      all_goals (
        refine qround_normal ?_ ⟨(k + 1, ?_, ?_), ⟨rfl, trivial⟩, by dsimp only; omega, by dsimp only; omega, fun w' h => ?_⟩
        rotate_right
        · dsimp only
          rw [hpar] at h
          rw [hts, List.map_append, parsL_snoc, List.map_singleton, ← ints_snoc, ← ints_snoc]
          exact Cl.sub (by assumption) (by repeat (first | exact List.Sublist.slnil | exact List.Sublist.refl _ | apply List.Sublist.cons_cons | exact List.sublist_append_left _ _ | exact List.sublist_append_right _ _ | apply List.Sublist.cons))
        · repeat (first | exact same_refl | refine same_upd rfl ?_ | refine same_junk rfl ?_))
  · obtain rfl : i = T.length := by omega
    rw [List.take_length]
    repeat' (first | apply pwp_seq | apply pwp_region | (apply px_run; (first | (apply opv_assign; first | exact hid_bool rfl) | (apply opv_lss <;> rfl) | (apply opv_load_str 0 st_T; rfl; rfl; rfl)); rfl; rfl) | apply px_nil | apply qseq_normal | apply qseq_exit | (apply qblock_exit_same; rfl) | apply pwp_exit | apply pwp_ret | apply qround_exit | (apply pwp_cond_dec; rfl; all_goals (intro hc; try (first | (exfalso; omega)))) | (apply px_store_str 4 st_T; rfl; rfl; rfl; rfl; rfl; (intro w hw; (first | refine all3 rfl ?_ ?_ ?_) <;> (first | exact stor_row 1 hw rfl | exact stor_row 2 hw rfl | exact stor_row 3 hw rfl)); rfl))
    refine qbody_cell_tmp 4 rfl st_T rfl rfl rfl rfl ⟨_, ⟨ss, kv, pv, by rw [decide_eq_true hg]; rfl, rfl⟩, fun w' h => ?_⟩
    exact Cl.sub (by assumption) (by repeat (first | exact List.Sublist.slnil | exact List.Sublist.refl _ | apply List.Sublist.cons_cons | exact List.sublist_append_left _ _ | exact List.sublist_append_right _ _ | apply List.Sublist.cons))
theorem en_s_ModuleTreeOf : Entry Tryz.prog 7 := ⟨_, Tryz.func7, by kernel_rfl, rfl⟩
set_option maxRecDepth 100000 in
set_option maxHeartbeats 3200000 in
theorem s_ModuleTreeOf_c (size : Int) (gv : Value) (rows : List Int) (w : World) (hr : Arr w gv (ints rows)) :
    Gives Tryz.prog 7 #[.agg #[.int .i64 size, gv]] w (fun v objs => ∃ sa sb sc, v = .tuple #[.agg #[sa, sb, sc], .bool (decide (IsG size rows))] ∧ objs = [.row 3 sa (ints (mtS size rows)), .row 3 sb (ints (mtK size rows)), .row 3 sc (ints (mtQ size rows))]) := by
  refine gives_enter (args := [_]) en_s_ModuleTreeOf Tryz.func7 rfl Tryz.ntmps7 rfl ?_
  have hfew := strong_few size rows
  by_cases hg : IsG size rows
  case neg =>
    have f1 : mtS size rows = [] := if_neg hg
    have f2 : mtK size rows = [] := by unfold mtK; rw [f1]; rfl
    have f3 : mtQ size rows = [] := by unfold mtQ; rw [f1]; rfl
    repeat' (first | apply pwp_seq | apply pwp_region | (apply px_run; (first | (apply opv_buildT0 bl_T) | (apply opv_assign; first | exact hid_bool rfl) | (apply opv_not_dec <;> rfl) | (apply opv_load_str 2 st_G; rfl; rfl; rfl) | (apply opv_load_str 0 st_T; rfl; rfl; rfl) | (apply opv_call; rfl; rfl; exact Cl.stable _ _ _; exact fun w hw => s_IsGraph_c _ _ rows _ (by first | exact hw.arr (by assumption)))); rfl; rfl) | apply px_nil | apply qseq_normal | apply qseq_ret | apply pwp_ret | (apply pwp_cond_ndec; rfl; all_goals (intro hc; try (first | contradiction))) | (apply px_box; rfl; rfl; rfl; rfl; intro bk) | (apply px_alloc st_T; rfl; rfl; rfl; intro bk) | (apply px_store_str 0 st_T; rfl; rfl; rfl; rfl; rfl; (intro w hw; (first | refine all3 rfl ?_ ?_ ?_) <;> (first | rfl)); rfl) | (apply px_store_str 1 st_T; rfl; rfl; rfl; rfl; rfl; (intro w hw; (first | refine all3 rfl ?_ ?_ ?_) <;> (first | rfl)); rfl))
    refine qbody_cell_tmp 1 rfl st_T rfl rfl rfl rfl ⟨_, ⟨_, _, _, by rw [decide_eq_false hg]; rfl, rfl⟩, fun w' h => ?_⟩
    rw [f1, f2, f3]
    exact (((h.sub (List.nil_sublist _)).nilRow _).nilRow _).nilRow _
  obtain ⟨n, hn, hrl, hn1, hn7⟩ := isG_size hg
  have f1 : mtS size rows = sortR ltC (strongL size rows) := if_pos hg
  have f2 : mtK size rows = (mtS size rows).map (kindX size rows) := rfl
  have f3 : mtQ size rows = parsL (mtS size rows) := rfl
  have hp := strong_pair size rows
  have f4 : bkD (strongL size rows) n n = mtS size rows := by rw [f1]; exact bkD_sort hp n (strong_cnt hg hn)
  have hmem := fun x hx => strong_mem hg hn (x := x) hx
  rw [f2, f3, ← f4]
  repeat' (first | apply pwp_seq | apply pwp_region | (apply px_run; (first | (apply opv_buildT0 bl_T) | (apply opv_assign; first | exact hid_int rfl | exact hid_bool rfl | rfl) | (apply opv_not_dec <;> rfl) | (apply opv_field fld_G0; rfl) | (apply opv_load_blk 3; (first | with_reducible exact sc_int); rfl; rfl; rfl) | (apply opv_load_str 2 st_G; rfl; rfl; rfl) | (apply opv_call; rfl; rfl; exact Cl.stable _ _ _; exact fun w hw => s_IsGraph_c _ _ rows _ (by first | exact hw.arr (by assumption)))); rfl; rfl) | apply px_nil | apply qseq_normal | apply pwp_block | apply pwp_skip | (apply pwp_cond_ndec; rfl; all_goals (intro hc; try (first | contradiction))) | (apply px_box; rfl; rfl; rfl; rfl; intro bk) | (apply px_alloc st_T; rfl; rfl; rfl; intro bk) | (apply px_store_str 0 st_T; rfl; rfl; rfl; rfl; rfl; (intro w hw; (first | refine all3 rfl ?_ ?_ ?_) <;> (first | rfl)); rfl) | (apply px_gives; rfl; rfl; rfl; rfl; rfl; exact fun w hw => s_StrongModules_c _ _ rows _ (by first | exact hw.arr (by assumption)); rintro sl _ rfl))
  rename_i bg br
  generalize strongL size rows = S at *
  subst hn
  refine pwp_loop (τ := Nat × Value × Value × Value) [(6,9), (19,84)] (fun x => [(6, .int .i64 ((n : Int) - x.1))]) (fun x => Cl [] w [.blk bk [x.2.1, x.2.2.1, x.2.2.2], .row 3 x.2.1 (ints (bkD S n x.1)), .row 3 x.2.2.1 (ints ((bkD S n x.1).map (kindX n rows))), .row 3 x.2.2.2 (ints (parsL (bkD S n x.1))), .row 3 sl (ints S), .blk br [.slice none 0 0, .slice none 0 0, .slice none 0 0], .blk bg [.int .i64 n, gv]])
    (fun x => x.1 ≤ n) (fun x => n - x.1) (0, .slice none 0 0, .slice none 0 0, .slice none 0 0)
    ⟨by first | rfl | (show Value.int .i64 _ = .int .i64 _; congr 1; omega), trivial⟩ (Nat.zero_le _) (fun w' h => (((h.nilRow 3).nilRow 3).nilRow 3).pick [4, 0, 0, 0, 0, 0, 0] rfl) (fun J x hx => ?_)
  obtain ⟨t, sv, kv, pv⟩ := x
  dsimp only at hx ⊢
  by_cases hlt : t < n
  · have hb0 : bkD S n t = bkD S n t ++ bkt (S.take 0) ((n : Int) - t) := by simp [bkt]
    repeat' (first | apply pwp_seq | apply pwp_region | (apply px_run; (first | (apply opv_move; first | exact hid_int rfl) | (apply opv_assign; first | exact hid_int rfl) | (apply opv_gtr <;> rfl)); rfl; rfl) | apply px_nil | apply qseq_normal | apply pwp_block | apply pwp_skip | (apply pwp_cond_dec; rfl; all_goals (intro hc; try (first | (exfalso; omega)))))
    refine pwp_loop (τ := Nat × Value × Value × Value) [(7,9), (23,84)] (fun x => [(7, .int .i64 (x.1 : Int))]) (fun x => Cl [] w [.blk bk [x.2.1, x.2.2.1, x.2.2.2], .row 3 x.2.1 (ints (bkD S n t ++ bkt (S.take x.1) ((n : Int) - t))), .row 3 x.2.2.1 (ints ((bkD S n t ++ bkt (S.take x.1) ((n : Int) - t)).map (kindX n rows))), .row 3 x.2.2.2 (ints (parsL (bkD S n t ++ bkt (S.take x.1) ((n : Int) - t)))), .row 3 sl (ints S), .blk br [.slice none 0 0, .slice none 0 0, .slice none 0 0], .blk bg [.int .i64 n, gv]])
      (fun x => x.1 ≤ S.length) (fun x => S.length - x.1) (0, sv, kv, pv)
      ⟨rfl, trivial⟩ (Nat.zero_le _) (fun w' h => by dsimp only; rw [← hb0]; exact h) (fun J2 x hx => ?_)
    obtain ⟨i, sv2, kv2, pv2⟩ := x
    dsimp only at hx ⊢
    have hbl := bk_len hp n t i
    have hbm := fun (x : Int) (hx : x ∈ bkD S n t ++ bkt (S.take i) ((n : Int) - t)) => hmem x (bk_mem hp hx)
    by_cases hli : i < S.length
    · have hbs : bkD S n t ++ bkt (S.take (i + 1)) ((n : Int) - t) = if cntS (S.getD i 0) = (n : Int) - t then bkD S n t ++ bkt (S.take i) ((n : Int) - t) ++ [S.getD i 0] else bkD S n t ++ bkt (S.take i) ((n : Int) - t) := by
        rw [bkt_succ hli]; split <;> simp
      obtain ⟨X, hX, _, _, hX2, _⟩ := hmem _ (getD_mem hli)
      by_cases hce : cntS (S.getD i 0) = (n : Int) - t
      · rw [if_pos hce] at hbs
        generalize bkD S n t ++ bkt (S.take i) ((n : Int) - t) = B at *
        have hkl : (B.map (kindX n rows)).length = B.length := List.length_map _
        have hpl : (parsL B).length = B.length := parsL_len B
        repeat' (first | apply pwp_seq | apply pwp_region | (apply px_run; (first | (apply opv_move; first | exact hid_int rfl | rfl) | (apply opv_assign; first | exact hid_int rfl) | (apply opv_lss <;> rfl) | (apply opv_neq <;> rfl) | (apply opv_load_ints sc_int; rfl; (first | exact rd_row 4 rfl); (first | omega)) | (apply opv_index_nat (vs := ints _) el_int; rfl; rfl; (first | exact rd_row 4 rfl); (first | (simp only [ints_length]; omega))) | (apply opv_len_ints el_int; rfl; (first | exact rd_row 4 rfl)) | (apply opv_call; rfl; rfl; exact Cl.stable _ _ _; exact fun w hw => s_CountSet_c _ _)); rfl; rfl) | apply px_nil | apply qseq_normal | apply pwp_block | apply pwp_skip | (apply pwp_cond_ndec; rfl; all_goals (intro hc; try (first | contradiction))) | (apply pwp_cond_dec; rfl; all_goals (intro hc; try (first | (exfalso; omega)))))
        refine pwp_loop (τ := Nat) [(8,9), (36,58)] (fun k => [(9, .int .i64 (k : Int)), (8, .int .i64 (parU B (S.getD i 0) k))]) (fun k => Cl [] w [.blk bk [sv2, kv2, pv2], .row 3 sv2 (ints B), .row 3 kv2 (ints (B.map (kindX n rows))), .row 3 pv2 (ints (parsL B)), .row 3 sl (ints S), .blk br [.slice none 0 0, .slice none 0 0, .slice none 0 0], .blk bg [.int .i64 n, gv]])
          (fun k => k ≤ B.length) (fun k => B.length - k) 0
          ⟨rfl, rfl, trivial⟩ (Nat.zero_le _) (fun _ h => h) (fun J3 k hk => ?_)
        have hst : parU B (S.getD i 0) (k + 1) = if iandnot (S.getD i 0) (B.getD k 0) = 0 then (k : Int) else parU B (S.getD i 0) k := rfl
        by_cases hkl : k < B.length
        · have hsub : iand (B.getD k 0) (S.getD i 0) = S.getD i 0 ↔ iandnot (S.getD i 0) (B.getD k 0) = 0 := by
            obtain ⟨Y, hY, _, _, hY2, _⟩ := hbm _ (getD_mem hkl)
            rw [hX, hY]; exact sub_iff hX2 hY2
          repeat' (first | apply pwp_seq | apply pwp_region | (apply px_run; (first | (apply opv_move; first | exact hid_int rfl | rfl) | (apply opv_assign; first | exact hid_int rfl) | (apply opv_lss <;> rfl) | (apply opv_eql <;> rfl) | (apply opv_and <;> rfl) | (apply opv_add_in; rfl; rfl; omega) | (apply opv_field fld_T0; rfl) | (apply opv_load_blk 0; (first | with_reducible exact sc_int | with_reducible exact sc_ints); rfl; rfl; rfl) | (apply opv_load_ints sc_int; rfl; (first | exact rd_row 1 rfl | exact rd_row 4 rfl); (first | omega)) | (apply opv_index_nat (vs := ints _) el_int; rfl; rfl; (first | exact rd_row 1 rfl | exact rd_row 4 rfl); (first | (simp only [ints_length]; omega))) | (apply opv_len_ints el_int; rfl; (first | exact rd_row 1 rfl))); rfl; rfl) | apply px_nil | apply qseq_normal | apply pwp_block | apply qblock_normal | apply pwp_skip | (apply pwp_region_mix; kernel_rfl; decide +kernel; exact Cl.stable _ _ _) | (apply pwp_cond_dec; rfl; all_goals (intro hc; try (first | (exfalso; omega)))))
          · refine qround_normal ?_ ⟨k + 1, ⟨rfl, by rw [hst, if_pos (hsub.1 hc)]; rfl, trivial⟩, by omega, by omega, fun _ h => h⟩
            repeat (first | exact same_refl | refine same_upd rfl ?_ | refine same_junk rfl ?_)
          · refine qround_normal ?_ ⟨k + 1, ⟨rfl, by rw [hst, if_neg (fun e => hc (hsub.2 e))]; rfl, trivial⟩, by omega, by omega, fun _ h => h⟩
            repeat (first | exact same_refl | refine same_upd rfl ?_ | refine same_junk rfl ?_)
        · obtain rfl : k = B.length := by omega
          have hpar : parU B (S.getD i 0) B.length = parL B (S.getD i 0) := rfl
          repeat' (first | apply pwp_seq | apply pwp_region | (apply px_run; (first | (apply opv_move; first | exact hid_int rfl | rfl) | (apply opv_assign; first | exact hid_int rfl) | (apply opv_lss <;> rfl) | (apply opv_add_in; rfl; rfl; omega) | (apply opv_field fld_T0; rfl) | (apply opv_field fld_T1; rfl) | (apply opv_field fld_T2; rfl) | (apply opv_load_blk 0; (first | with_reducible exact sc_int | with_reducible exact sc_ints); rfl; rfl; rfl) | (apply opv_load_blk 2; (first | with_reducible exact sc_int | with_reducible exact sc_ints); rfl; rfl; rfl) | (apply opv_load_ints sc_int; rfl; (first | exact rd_row 1 rfl); (first | omega)) | (apply opv_index_nat (vs := ints _) el_int; rfl; rfl; (first | exact rd_row 1 rfl); (first | (simp only [ints_length]; omega))) | (apply opv_len_ints el_int; rfl; (first | exact rd_row 1 rfl)) | (apply opv_load_str 2 st_G; rfl; rfl; rfl) | (apply opv_call; rfl; rfl; exact Cl.stable _ _ _; exact fun w hw => s_KindOf_c _ _ rows _ _ (by first | exact hw.arr (by assumption)))); rfl; rfl) | apply px_nil | apply qseq_normal | apply qseq_exit | apply qblock_normal | (apply qblock_exit_same; rfl) | apply pwp_exit | apply qround_exit | (apply pwp_region_any [0, 1, 2, 3, 4, 5] [9] 4 (Cl [] w [.blk bk [sv2, kv2, pv2], .row 3 sl (ints S)]); kernel_rfl; decide +kernel; exact Cl.stable _ _ _; exact fun w h => h.sub (by repeat (first | apply List.Sublist.cons_cons | exact List.sublist_append_left _ _ | apply List.Sublist.cons))) | (apply pwp_region_any [0, 1, 2, 3, 4, 5, 6] [11] 5 (Cl [] w [.blk bk _, .row 3 sl (ints S), .blk bg [.int .i64 n, gv]]); kernel_rfl; decide +kernel; exact Cl.stable _ _ _; exact fun w h => h.sub (by repeat (first | exact List.Sublist.refl _ | apply List.Sublist.cons_cons | apply List.Sublist.cons))) | apply qlooks_normal | (apply qstep_out; decide +kernel) | (apply qstep_in; exact fun w h => h.sub (by repeat (first | exact List.Sublist.refl _ | apply List.Sublist.cons_cons | exact List.sublist_append_left _ _ | apply List.Sublist.cons))) | (apply pxa_nil; decide +kernel) | (apply pxa_one 6; decide +kernel; rfl) | (apply pxa_one 7; decide +kernel; rfl) | (apply pxa_one 8; decide +kernel; rfl) | (apply pxa_one 9; decide +kernel; rfl) | (apply pxa_one 10; decide +kernel; rfl) | (apply pxa_one 11; decide +kernel; rfl) | (apply pwp_cond_dec; rfl; all_goals (intro hc; try (first | (exfalso; omega)))) | (apply px_lit1 ez_int; rfl; (intro w hw; (first | rfl)); rfl; rfl; rfl; intro sv) | (apply px_append 2 ez_int; rfl; rfl; rfl; (first | exact rd_row 0 rfl); (first | (intro _ _ u hu; simp at hu; subst hu; rfl)); (simp [ints]; omega); decide; rfl; rfl; intro sv) | (apply px_append 4 ez_int; rfl; rfl; rfl; (first | exact rd_row 0 rfl); (first | (intro _ _ u hu; simp at hu; subst hu; rfl)); (simp [ints]; omega); decide; rfl; rfl; intro sv) | (apply px_append 6 ez_int; rfl; rfl; rfl; (first | exact rd_row 0 rfl); (first | (intro _ _ u hu; simp at hu; subst hu; rfl)); (simp [ints]; omega); decide; rfl; rfl; intro sv) | (apply px_store_blk 1; (first | with_reducible exact co_ints); rfl; rfl; rfl; (intro w hw; (first | exact stor_row 2 hw rfl)); rfl; rfl) | (apply px_store_blk 2; (first | with_reducible exact co_ints); rfl; rfl; rfl; (intro w hw; (first | exact stor_row 4 hw rfl)); rfl; rfl) | (apply px_store_blk 3; (first | with_reducible exact co_ints); rfl; rfl; rfl; (intro w hw; (first | exact stor_row 6 hw rfl)); rfl; rfl))
          refine qround_normal ?_ ⟨(i + 1, ?_, ?_, ?_), ⟨rfl, trivial⟩, by dsimp only; omega, by dsimp only; omega, fun w' h => ?_⟩
          rotate_right
          · dsimp only
            rw [hpar] at h
            rw [hbs, List.map_append, parsL_snoc, List.map_singleton, ← ints_snoc, ← ints_snoc, ← ints_snoc]
            exact Cl.sub (by assumption) (by repeat (first | exact List.Sublist.slnil | exact List.Sublist.refl _ | apply List.Sublist.cons_cons | exact List.sublist_append_left _ _ | exact List.sublist_append_right _ _ | apply List.Sublist.cons))
          · repeat (first | exact same_refl | refine same_upd rfl ?_ | refine same_junk rfl ?_)
      · rw [if_neg hce] at hbs
        generalize bkD S n t ++ bkt (S.take i) ((n : Int) - t) = B at *
        repeat' (first | apply pwp_seq | apply pwp_region | (apply px_run; (first | (apply opv_move; first | exact hid_int rfl | rfl) | (apply opv_assign; first | exact hid_int rfl) | (apply opv_lss <;> rfl) | (apply opv_neq <;> rfl) | (apply opv_add_in; rfl; rfl; omega) | (apply opv_load_ints sc_int; rfl; (first | exact rd_row 4 rfl); (first | omega)) | (apply opv_index_nat (vs := ints _) el_int; rfl; rfl; (first | exact rd_row 4 rfl); (first | (simp only [ints_length]; omega))) | (apply opv_len_ints el_int; rfl; (first | exact rd_row 4 rfl)) | (apply opv_call; rfl; rfl; exact Cl.stable _ _ _; exact fun w hw => s_CountSet_c _ _)); rfl; rfl) | apply px_nil | apply qseq_normal | apply qseq_exit | apply pwp_block | (apply qblock_exit_same; rfl) | apply pwp_skip | apply pwp_exit | (apply pwp_cond_ndec; rfl; all_goals (intro hc; try (first | contradiction))) | (apply pwp_cond_dec; rfl; all_goals (intro hc; try (first | (exfalso; omega)))))
        refine qround_normal ?_ ⟨(i + 1, sv2, kv2, pv2), ⟨rfl, trivial⟩, by dsimp only; omega, by dsimp only; omega, fun w' h => ?_⟩
        · repeat (first | exact same_refl | refine same_upd rfl ?_ | refine same_junk rfl ?_)
        · dsimp only; rw [hbs]; exact h
    · obtain rfl : i = S.length := by omega
      rw [List.take_length] at *
      repeat' (first | apply pwp_seq | apply pwp_region | (apply px_run; (first | (apply opv_move; first | exact hid_int rfl | rfl) | (apply opv_assign; first | exact hid_int rfl) | (apply opv_lss <;> rfl) | (apply opv_sub_in; rfl; rfl; omega) | (apply opv_len_ints el_int; rfl; (first | exact rd_row 4 rfl))); rfl; rfl) | apply px_nil | apply qseq_normal | apply qseq_exit | apply qblock_normal | (apply qblock_exit_same; rfl) | apply pwp_exit | apply qround_exit | (apply pwp_cond_dec; rfl; all_goals (intro hc; try (first | (exfalso; omega)))))
      refine qround_normal ?_ ⟨(t + 1, sv2, kv2, pv2), ⟨by show Value.int .i64 _ = .int .i64 _; congr 1; omega, trivial⟩, by dsimp only; omega, by dsimp only; omega, fun w' h => h⟩
      repeat (first | exact same_refl | refine same_upd rfl ?_ | refine same_junk rfl ?_)
  · obtain rfl : t = n := by omega
    repeat' (first | apply pwp_seq | apply pwp_region | (apply px_run; (first | (apply opv_move; first | exact hid_int rfl) | (apply opv_assign; first | exact hid_bool rfl) | (apply opv_gtr <;> rfl) | (apply opv_load_str 0 st_T; rfl; rfl; rfl)); rfl; rfl) | apply px_nil | apply qseq_normal | apply qseq_exit | (apply qblock_exit_same; rfl) | apply pwp_exit | apply pwp_ret | apply qround_exit | (apply pwp_cond_dec; rfl; all_goals (intro hc; try (first | (exfalso; omega)))) | (apply px_store_str 5 st_T; rfl; rfl; rfl; rfl; rfl; (intro w hw; (first | refine all3 rfl ?_ ?_ ?_) <;> (first | exact stor_row 1 hw rfl | exact stor_row 2 hw rfl | exact stor_row 3 hw rfl)); rfl))
    refine qbody_cell_tmp 5 rfl st_T rfl rfl rfl rfl ⟨_, ⟨sv, kv, pv, by rw [decide_eq_true hg]; rfl, rfl⟩, fun w' h => ?_⟩
    exact Cl.sub (by assumption) (by repeat (first | exact List.Sublist.slnil | exact List.Sublist.refl _ | apply List.Sublist.cons_cons | exact List.sublist_append_left _ _ | exact List.sublist_append_right _ _ | apply List.Sublist.cons))
theorem en_i_IsModuleTree : Entry Tryz.prog 9 := ⟨_, Tryz.func9, by kernel_rfl, rfl⟩
theorem i_IsModuleTree_c (size : Int) (gv sa sb sc : Value) (rows a b c : List Int) (w : World) (hr : Arr w gv (ints rows)) (ha : Arr w sa (ints a)) (hb : Arr w sb (ints b)) (hd : Arr w sc (ints c)) :
    Pure Tryz.prog 9 #[.agg #[.int .i64 size, gv], .agg #[sa, sb, sc]] w (.bool (decide (IsG size rows ∧ mtS size rows = a ∧ mtK size rows = b ∧ mtQ size rows = c))) := by
  refine pure_enter (args := [_, _]) en_i_IsModuleTree Tryz.func9 rfl Tryz.ntmps9 rfl ?_
  repeat' (first | apply pwp_seq | apply pwp_region | (apply px_run; (first | (apply opv_move; first | exact hid_bool rfl | rfl) | (apply opv_assign; first | exact hid_bool rfl) | (apply opv_pick_t <;> rfl) | (apply opv_pick_f <;> rfl) | (apply opv_load_str 1 st_G; rfl; rfl; rfl) | (apply opv_load_str 0 st_T; rfl; rfl; rfl) | (apply opv_load_str 4 st_T; rfl; rfl; rfl) | (apply opv_extract; rfl; rfl) | (apply opv_call; rfl; rfl; exact Cl.stable _ _ _; exact fun w hw => i_EqualModuleTrees_c _ _ _ _ _ _ (mtS size rows) (mtK size rows) (mtQ size rows) a b c _ (by first | exact hw.rowArr (k := 1) rfl) (by first | exact hw.rowArr (k := 2) rfl) (by first | exact hw.rowArr (k := 3) rfl) (by first | exact hw.arr (by assumption)) (by first | exact hw.arr (by assumption)) (by first | exact hw.arr (by assumption)))); rfl; rfl) | apply px_nil | (apply px_skip; rfl; rfl) | apply qseq_normal | apply pwp_ret | (apply px_guard_dec; rfl; rfl; rfl; all_goals (intro hc; try (first | fail))) | (apply px_box; rfl; rfl; rfl; rfl; intro bk) | (apply px_alloc st_T; rfl; rfl; rfl; intro bk) | (apply px_store_str 0 st_T; rfl; rfl; rfl; rfl; rfl; (intro w hw; (first | refine all3 rfl ?_ ?_ ?_) <;> (first | exact stor_row 1 hw rfl | exact stor_row 2 hw rfl | exact stor_row 3 hw rfl)); rfl) | (apply px_gives; rfl; rfl; rfl; rfl; rfl; exact fun w hw => i_ModuleTreeOf_c _ _ rows _ (by first | exact hw.arr (by assumption)); rintro _ _ ⟨va, vb, vc, rfl, rfl⟩))
  all_goals (refine qbody_ret1 (v := .bool _) rfl rfl ⟨by simp_all, fun _ h => h.below⟩)
theorem en_s_IsModuleTree : Entry Tryz.prog 16 := ⟨_, Tryz.func16, by kernel_rfl, rfl⟩
theorem s_IsModuleTree_c (size : Int) (gv sa sb sc : Value) (rows a b c : List Int) (w : World) (hr : Arr w gv (ints rows)) (ha : Arr w sa (ints a)) (hb : Arr w sb (ints b)) (hd : Arr w sc (ints c)) :
    Pure Tryz.prog 16 #[.agg #[.int .i64 size, gv], .agg #[sa, sb, sc]] w (.bool (decide (IsG size rows ∧ mtS size rows = a ∧ mtK size rows = b ∧ mtQ size rows = c))) := by
  refine pure_enter (args := [_, _]) en_s_IsModuleTree Tryz.func16 rfl Tryz.ntmps16 rfl ?_
  repeat' (first | apply pwp_seq | apply pwp_region | (apply px_run; (first | (apply opv_move; first | exact hid_bool rfl | rfl) | (apply opv_assign; first | exact hid_bool rfl) | (apply opv_pick_t <;> rfl) | (apply opv_pick_f <;> rfl) | (apply opv_load_str 1 st_G; rfl; rfl; rfl) | (apply opv_load_str 0 st_T; rfl; rfl; rfl) | (apply opv_load_str 4 st_T; rfl; rfl; rfl) | (apply opv_extract; rfl; rfl) | (apply opv_call; rfl; rfl; exact Cl.stable _ _ _; exact fun w hw => s_EqualModuleTrees_c _ _ _ _ _ _ (mtS size rows) (mtK size rows) (mtQ size rows) a b c _ (by first | exact hw.rowArr (k := 1) rfl) (by first | exact hw.rowArr (k := 2) rfl) (by first | exact hw.rowArr (k := 3) rfl) (by first | exact hw.arr (by assumption)) (by first | exact hw.arr (by assumption)) (by first | exact hw.arr (by assumption)))); rfl; rfl) | apply px_nil | (apply px_skip; rfl; rfl) | apply qseq_normal | apply pwp_ret | (apply px_guard_dec; rfl; rfl; rfl; all_goals (intro hc; try (first | fail))) | (apply px_box; rfl; rfl; rfl; rfl; intro bk) | (apply px_alloc st_T; rfl; rfl; rfl; intro bk) | (apply px_store_str 0 st_T; rfl; rfl; rfl; rfl; rfl; (intro w hw; (first | refine all3 rfl ?_ ?_ ?_) <;> (first | exact stor_row 1 hw rfl | exact stor_row 2 hw rfl | exact stor_row 3 hw rfl)); rfl) | (apply px_gives; rfl; rfl; rfl; rfl; rfl; exact fun w hw => s_ModuleTreeOf_c _ _ rows _ (by first | exact hw.arr (by assumption)); rintro _ _ ⟨va, vb, vc, rfl, rfl⟩))
  all_goals (refine qbody_ret1 (v := .bool _) rfl rfl ⟨by simp_all, fun _ h => h.below⟩)
end Go.Proofs.YtoejpckfeflkaaaGreatDoor
