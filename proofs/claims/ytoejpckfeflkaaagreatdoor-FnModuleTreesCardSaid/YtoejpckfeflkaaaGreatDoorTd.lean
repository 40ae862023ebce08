/- Module trees: equality, children, depth. -/
import Derived.Test.YtoejpckfeflkaaaGreatDoorLa
import Derived.Test.YtoejpckfeflkaaaGreatDoorPwBool
import Derived.Test.YtoejpckfeflkaaaGreatDoorPwTurn
import Derived.Test.YtoejpckfeflkaaaGreatDoorGs
import Derived.Test.YtoejpckfeflkaaaGreatDoorPwPlt
namespace Go.Proofs.YtoejpckfeflkaaaGreatDoor
open Go Go.RowKit Go.Pw

theorem en_s_l8Same : Entry Tryz.prog 36 := ⟨_, Tryz.func36, by kernel_rfl, rfl⟩
theorem s_l8Same_c (sa sb : Value) (a b : List Int) (w : World) (ha : Arr w sa (ints a)) (hb : Arr w sb (ints b)) :
    Pure Tryz.prog 36 #[sa, sb] w (.bool (decide (a = b))) := by
  refine pure_enter (args := [_, _]) en_s_l8Same Tryz.func36 rfl Tryz.ntmps36 rfl ?_
  have h1 := ha.len
  have h2 := hb.len
  repeat' (first | apply pwp_seq | apply pwp_region | (apply px_run; (first | (apply opv_move; first | rfl) | (apply opv_assign; first | exact hid_int rfl | exact hid_bool rfl) | (apply opv_neq <;> rfl) | (apply opv_len_ints el_int; rfl; (first | exact rd_old (by assumption)))); rfl; rfl) | apply px_nil | apply qseq_normal | apply qseq_ret | apply pwp_block | apply pwp_skip | apply pwp_ret | (apply pwp_cond_ndec; rfl; all_goals (intro hc; try (first | fail))))
  · refine qbody_ret1 (v := .bool _) rfl rfl ⟨ret_false rfl fun h => hc (by rw [h]), fun _ h => h.below⟩
  have hl : a.length = b.length := by omega
  refine pwp_loop [(4,5), (11,25)] (fun k : Nat => [(5, .int .i64 (k : Int))]) (fun k => Cl [] w []) (fun k => k ≤ a.length ∧ ∀ i, i < k → a.getD i 0 = b.getD i 0) (fun k => a.length - k) 0
    ⟨rfl, trivial⟩ ⟨Nat.zero_le _, fun i hi => by omega⟩ (fun _ h => h) (fun J k hk => ?_)
  obtain ⟨hk, he⟩ := hk
  by_cases hlt : k < a.length
  · repeat' (first | apply pwp_seq | apply pwp_region | (apply px_run; (first | (apply opv_move; first | exact hid_int rfl | rfl) | (apply opv_assign; first | exact hid_int rfl | exact hid_bool rfl) | (apply opv_lss <;> rfl) | (apply opv_neq <;> rfl) | (apply opv_add_in; rfl; rfl; omega) | (apply opv_load_ints sc_int; rfl; (first | exact rd_old (by assumption)); (first | omega)) | (apply opv_index_nat (vs := ints _) el_int; rfl; rfl; (first | exact rd_old (by assumption)); (first | (simp only [ints_length]; omega))) | (apply opv_len_ints el_int; rfl; (first | exact rd_old (by assumption)))); rfl; rfl) | apply px_nil | apply qseq_normal | apply qseq_ret | apply pwp_block | apply qblock_normal | apply qblock_ret | apply pwp_skip | apply pwp_ret | apply qround_ret | (apply pwp_region_mix; kernel_rfl; decide +kernel; exact Cl.stable _ _ _) | (apply pwp_cond_ndec; rfl; all_goals (intro hc; try (first | fail))) | (apply pwp_cond_dec; rfl; all_goals (intro hc; try (first | (exfalso; omega)))))
    · refine qbody_ret1 (v := .bool _) rfl rfl ⟨ret_false rfl fun h => hc (by rw [h]), fun _ h => h.below⟩
    · refine qround_normal ?_ ⟨k + 1, ⟨rfl, trivial⟩, ⟨by omega, fun i hi => ?_⟩, by omega, fun _ h => h⟩
      · repeat (first | exact same_refl | refine same_upd rfl ?_ | refine same_junk rfl ?_)
      · by_cases hik : i < k
        · exact he i hik
        · obtain rfl : i = k := by omega
          exact hc
  · repeat' (first | apply pwp_seq | apply pwp_region | (apply px_run; (first | (apply opv_move; first | exact hid_int rfl | rfl) | (apply opv_assign; first | exact hid_bool rfl) | (apply opv_lss <;> rfl) | (apply opv_len_ints el_int; rfl; (first | exact rd_old (by assumption)))); rfl; rfl) | apply px_nil | apply qseq_normal | apply qseq_exit | (apply qblock_exit_same; rfl) | apply pwp_exit | apply pwp_ret | apply qround_exit | (apply pwp_cond_dec; rfl; all_goals (intro hc; try (first | (exfalso; omega)))))
    refine qbody_ret1 (v := .bool _) rfl rfl ⟨ret_true rfl (eq_of_getD hl fun i hi => he i (by omega)), fun _ h => h.below⟩
theorem en_x_slices_Equal_int_int : Entry Tryz.prog 46 := ⟨_, Tryz.func46, by kernel_rfl, rfl⟩
theorem x_Equal_c (sa sb : Value) (a b : List Int) (w : World) (ha : Arr w sa (ints a)) (hb : Arr w sb (ints b)) :
    Pure Tryz.prog 46 #[sa, sb] w (.bool (decide (a = b))) := by
  refine pure_enter (args := [_, _]) en_x_slices_Equal_int_int Tryz.func46 rfl Tryz.ntmps46 rfl ?_
  have h1 := ha.len
  have h2 := hb.len
  repeat' (first | apply pwp_seq | apply pwp_region | (apply px_run; (first | (apply opv_move; first | exact hid_int rfl | rfl) | (apply opv_assign; first | exact hid_bool rfl) | (apply opv_neq <;> rfl) | (apply opv_len_ints el_int; rfl; (first | exact rd_old (by assumption)))); rfl; rfl) | apply px_nil | apply qseq_normal | apply qseq_ret | apply pwp_block | apply pwp_skip | apply pwp_ret | (apply pwp_cond_ndec; rfl; all_goals (intro hc; try (first | fail))))
  · refine qbody_ret1 (v := .bool _) rfl rfl ⟨ret_false rfl fun h => hc (by rw [h]), fun _ h => h.below⟩
  have hl : a.length = b.length := by omega
  refine pwp_loop [(4,5), (13,25)] (fun k : Nat => [(13, .int .i64 (k : Int))]) (fun k => Cl [] w []) (fun k => k ≤ a.length ∧ ∀ i, i < k → a.getD i 0 = b.getD i 0) (fun k => a.length - k) 0
    ⟨rfl, trivial⟩ ⟨Nat.zero_le _, fun i hi => by omega⟩ (fun _ h => h) (fun J k hk => ?_)
  obtain ⟨hk, he⟩ := hk
  by_cases hlt : k < a.length
  · repeat' (first | apply pwp_seq | apply pwp_region | (apply px_run; (first | (apply opv_move; first | exact hid_int rfl | rfl) | (apply opv_assign; first | exact hid_int rfl | exact hid_bool rfl) | (apply opv_lss <;> rfl) | (apply opv_neq <;> rfl) | (apply opv_add_in; rfl; rfl; omega) | (apply opv_load_ints sc_int; rfl; (first | exact rd_old (by assumption)); (first | omega)) | (apply opv_index_nat (vs := ints _) el_int; rfl; rfl; (first | exact rd_old (by assumption)); (first | (simp only [ints_length]; omega)))); rfl; rfl) | apply px_nil | apply qseq_normal | apply qseq_ret | apply pwp_block | apply qblock_normal | apply qblock_ret | apply pwp_skip | apply pwp_ret | apply qround_ret | (apply pwp_region_mix; kernel_rfl; decide +kernel; exact Cl.stable _ _ _) | (apply pwp_cond_ndec; rfl; all_goals (intro hc; try (first | fail))) | (apply pwp_cond_dec; rfl; all_goals (intro hc; try (first | (exfalso; omega)))))
    · refine qbody_ret1 (v := .bool _) rfl rfl ⟨ret_false rfl fun h => hc (by rw [h]), fun _ h => h.below⟩
    · refine qround_normal ?_ ⟨k + 1, ⟨rfl, trivial⟩, ⟨by omega, fun i hi => ?_⟩, by omega, fun _ h => h⟩
      · repeat (first | exact same_refl | refine same_upd rfl ?_ | refine same_junk rfl ?_)
      · by_cases hik : i < k
        · exact he i hik
        · obtain rfl : i = k := by omega
          exact hc
  · repeat' (first | apply pwp_seq | apply pwp_region | (apply px_run; (first | (apply opv_assign; first | exact hid_bool rfl) | (apply opv_lss <;> rfl)); rfl; rfl) | apply px_nil | apply qseq_normal | apply qseq_exit | (apply qblock_exit_same; rfl) | apply pwp_exit | apply pwp_ret | apply qround_exit | (apply pwp_cond_dec; rfl; all_goals (intro hc; try (first | (exfalso; omega)))))
    refine qbody_ret1 (v := .bool _) rfl rfl ⟨ret_true rfl (eq_of_getD hl fun i hi => he i (by omega)), fun _ h => h.below⟩
theorem en_s_EqualModuleTrees : Entry Tryz.prog 8 := ⟨_, Tryz.func8, by kernel_rfl, rfl⟩
theorem s_EqualModuleTrees_c (sa sb sc ta tb tc : Value) (a b c a' b' c' : List Int) (w : World) (ha : Arr w sa (ints a)) (hb : Arr w sb (ints b)) (hd : Arr w sc (ints c)) (ha' : Arr w ta (ints a')) (hb' : Arr w tb (ints b')) (hd' : Arr w tc (ints c')) :
    Pure Tryz.prog 8 #[.agg #[sa, sb, sc], .agg #[ta, tb, tc]] w (.bool (decide (a = a' ∧ b = b' ∧ c = c'))) := by
  refine pure_enter (args := [_, _]) en_s_EqualModuleTrees Tryz.func8 rfl Tryz.ntmps8 rfl ?_
  repeat' (first | apply pwp_seq | apply pwp_region | (apply px_run; (first | (apply opv_move; first | exact hid_bool rfl) | (apply opv_assign; first | exact hid_bool rfl) | (apply opv_pick_t <;> rfl) | (apply opv_pick_f <;> rfl) | (apply opv_field fld_T0; rfl) | (apply opv_field fld_T1; rfl) | (apply opv_field fld_T2; rfl) | (apply opv_load_blk 0; (first | with_reducible exact sc_ints); rfl; rfl; rfl) | (apply opv_load_blk 1; (first | with_reducible exact sc_ints); rfl; rfl; rfl) | (apply opv_call; rfl; rfl; exact Cl.stable _ _ _; exact fun w hw => s_l8Same_c _ _ a a' _ (hw.arr ha) (hw.arr ha')) | (apply opv_call; rfl; rfl; exact Cl.stable _ _ _; exact fun w hw => s_l8Same_c _ _ b b' _ (hw.arr hb) (hw.arr hb')) | (apply opv_call; rfl; rfl; exact Cl.stable _ _ _; exact fun w hw => s_l8Same_c _ _ c c' _ (hw.arr hd) (hw.arr hd'))); rfl; rfl) | apply px_nil | (apply px_skip; rfl; rfl) | apply qseq_normal | apply pwp_ret | (apply px_guard_dec; rfl; rfl; rfl; all_goals (intro hc; try (first | fail))) | (apply px_box; rfl; rfl; rfl; rfl; intro bk))
  all_goals try (refine qbody_ret1 (v := .bool _) rfl rfl ⟨ret_false rfl fun h => hc ?_, fun _ h => h.below⟩; first | exact h.1 | exact h.2.1 | exact h.2.2)
  refine qbody_ret1 (v := .bool (decide _)) rfl rfl ⟨ret_iff ⟨fun h => ⟨by assumption, by assumption, h⟩, fun h => h.2.2⟩, fun _ h => h.below⟩
theorem en_i_EqualModuleTrees : Entry Tryz.prog 23 := ⟨_, Tryz.func23, by kernel_rfl, rfl⟩
theorem i_EqualModuleTrees_c (sa sb sc ta tb tc : Value) (a b c a' b' c' : List Int) (w : World) (ha : Arr w sa (ints a)) (hb : Arr w sb (ints b)) (hd : Arr w sc (ints c)) (ha' : Arr w ta (ints a')) (hb' : Arr w tb (ints b')) (hd' : Arr w tc (ints c')) :
    Pure Tryz.prog 23 #[.agg #[sa, sb, sc], .agg #[ta, tb, tc]] w (.bool (decide (a = a' ∧ b = b' ∧ c = c'))) := by
  refine pure_enter (args := [_, _]) en_i_EqualModuleTrees Tryz.func23 rfl Tryz.ntmps23 rfl ?_
  repeat' (first | apply pwp_seq | apply pwp_region | (apply px_run; (first | (apply opv_move; first | exact hid_bool rfl) | (apply opv_assign; first | exact hid_bool rfl) | (apply opv_pick_t <;> rfl) | (apply opv_pick_f <;> rfl) | (apply opv_field fld_T0; rfl) | (apply opv_field fld_T1; rfl) | (apply opv_field fld_T2; rfl) | (apply opv_load_blk 0; (first | with_reducible exact sc_ints); rfl; rfl; rfl) | (apply opv_load_blk 1; (first | with_reducible exact sc_ints); rfl; rfl; rfl) | (apply opv_call; rfl; rfl; exact Cl.stable _ _ _; exact fun w hw => x_Equal_c _ _ a a' _ (hw.arr ha) (hw.arr ha')) | (apply opv_call; rfl; rfl; exact Cl.stable _ _ _; exact fun w hw => x_Equal_c _ _ b b' _ (hw.arr hb) (hw.arr hb')) | (apply opv_call; rfl; rfl; exact Cl.stable _ _ _; exact fun w hw => x_Equal_c _ _ c c' _ (hw.arr hd) (hw.arr hd'))); rfl; rfl) | apply px_nil | (apply px_skip; rfl; rfl) | apply qseq_normal | apply pwp_ret | (apply px_guard_dec; rfl; rfl; rfl; all_goals (intro hc; try (first | fail))) | (apply px_box; rfl; rfl; rfl; rfl; intro bk))
  all_goals try (refine qbody_ret1 (v := .bool _) rfl rfl ⟨ret_false rfl fun h => hc ?_, fun _ h => h.below⟩; first | exact h.1 | exact h.2.1 | exact h.2.2)
  refine qbody_ret1 (v := .bool (decide _)) rfl rfl ⟨ret_iff ⟨fun h => ⟨by assumption, by assumption, h⟩, fun h => h.2.2⟩, fun _ h => h.below⟩
theorem en_i_isBag : Entry Tryz.prog 41 := ⟨_, Tryz.func41, by kernel_rfl, rfl⟩
theorem i_isBag_c (s : Int) (w : World) : Pure Tryz.prog 41 #[.int .i64 s] w (.bool (decide (0 ≤ s ∧ s ≤ 127))) := by
  refine pure_enter (args := [_]) en_i_isBag Tryz.func41 rfl Tryz.ntmps41 rfl ?_
  repeat' (first | apply pwp_seq | apply pwp_region | (apply px_run; (first | (apply opv_move; first | exact hid_int rfl) | (apply opv_assign; first | exact hid_bool rfl) | (apply opv_call; rfl; rfl; exact Cl.stable _ _ _; exact fun w hw => i_within_c _ _ _ _)); rfl; rfl) | apply px_nil | apply qseq_normal | apply pwp_ret)
  refine qbody_ret1 (v := .bool (decide _)) rfl rfl ⟨ret_iff Iff.rfl, fun _ h => h.below⟩
theorem en_i_ChildrenOf : Entry Tryz.prog 10 := ⟨_, Tryz.func10, by kernel_rfl, rfl⟩
theorem i_ChildrenOf_c (sa sb sc : Value) (c : List Int) (i : Int) (w : World) (hr : Arr w sc (ints c)) (hlen : c.length ≤ 1048576) :
    Gives Tryz.prog 10 #[.agg #[sa, sb, sc], .int .i64 i] w (fun v objs => objs = [.row 3 v (ints (childL c i))]) := by
  refine gives_enter (args := [_, _]) en_i_ChildrenOf Tryz.func10 rfl Tryz.ntmps10 rfl ?_
  repeat' (first | apply pwp_seq | apply pwp_region | (apply px_run; (first | (apply opv_move; first | exact hid_int rfl) | (apply opv_assign; first | rfl) | (apply opv_field fld_T2; rfl) | (apply opv_load_blk 1; (first | with_reducible exact sc_ints); rfl; rfl; rfl) | (apply opv_len_ints el_int; rfl; (first | exact rd_old (by assumption)))); rfl; rfl) | apply px_nil | apply qseq_normal | apply pwp_block | (apply px_box; rfl; rfl; rfl; rfl; intro bk) | (apply px_lit0 ez_int; rfl; rfl; rfl; intro sv))
  refine pwp_loop (τ := Nat × Value) [(5,7), (12,24)] (fun x => [(12, .int .i64 (x.1 : Int)), (5, x.2)]) (fun x => Cl [] w [.row 3 x.2 (ints (childU c i x.1)), .blk bk [sa, sb, sc]]) (fun x => x.1 ≤ c.length) (fun x => c.length - x.1) (0, sv)
    ⟨rfl, rfl, trivial⟩ (Nat.zero_le _) (fun _ h => h) (fun J x hk => ?_)
  obtain ⟨k, so⟩ := x
  have hl := childU_length c i k
  dsimp only at hk
  by_cases hlt : k < c.length
  · have hsucc := childU_succ c i k
    repeat' (first | apply pwp_seq | apply pwp_region | (apply px_run; (first | (apply opv_move; first | exact hid_int rfl | rfl) | (apply opv_assign; first | exact hid_int rfl | rfl) | (apply opv_lss <;> rfl) | (apply opv_eql <;> rfl) | (apply opv_add_in; rfl; rfl; omega) | (apply opv_load_ints sc_int; rfl; (first | exact rd_old (by assumption)); (first | omega)) | (apply opv_index_nat (vs := ints _) el_int; rfl; rfl; (first | exact rd_old (by assumption)); (first | (simp only [ints_length]; omega)))); rfl; rfl) | apply px_nil | apply qseq_normal | apply pwp_block | apply qblock_normal | apply pwp_skip | (apply pwp_cond_dec; rfl; all_goals (intro hc; try (first | (exfalso; omega)))) | (apply px_lit1 ez_int; rfl; (intro w hw; (first | rfl)); rfl; rfl; rfl; intro sv) | (apply px_append 1 ez_int; rfl; rfl; rfl; (first | exact rd_row 0 rfl); (first | (intro _ _ u hu; simp at hu; subst hu; rfl)); (simp [ints]; omega); decide; rfl; rfl; intro sv))
    · refine qround_normal ?_ ⟨(k + 1, _), ⟨rfl, rfl, trivial⟩, by dsimp only; omega, by dsimp only; omega, fun w' h => ?_⟩
      · repeat (first | exact same_refl | refine same_upd rfl ?_ | refine same_junk rfl ?_)
      · rw [if_pos hc] at hsucc
        simp only [hsucc, ← ints_snoc]
        exact Cl.sub (by assumption) (by repeat (first | exact List.Sublist.slnil | exact List.Sublist.refl _ | apply List.Sublist.cons_cons | exact List.sublist_append_left _ _ | exact List.sublist_append_right _ _ | apply List.Sublist.cons))
    · refine qround_normal ?_ ⟨(k + 1, so), ⟨rfl, rfl, trivial⟩, by dsimp only; omega, by dsimp only; omega, fun w' h => ?_⟩
      · repeat (first | exact same_refl | refine same_upd rfl ?_ | refine same_junk rfl ?_)
      · rw [if_neg hc] at hsucc
        simp only [hsucc]
        exact Cl.sub (by assumption) (by repeat (first | exact List.Sublist.slnil | exact List.Sublist.refl _ | apply List.Sublist.cons_cons | exact List.sublist_append_left _ _ | exact List.sublist_append_right _ _ | apply List.Sublist.cons))
  · repeat' (first | apply pwp_seq | apply pwp_region | (apply px_run; (first | (apply opv_move; first | rfl) | (apply opv_assign; first | rfl) | (apply opv_lss <;> rfl)); rfl; rfl) | apply px_nil | apply qseq_normal | apply qseq_exit | (apply qblock_exit_same; rfl) | apply pwp_exit | apply pwp_ret | apply qround_exit | (apply pwp_cond_dec; rfl; all_goals (intro hc; try (first | (exfalso; omega)))))
    obtain rfl : k = c.length := by omega
    refine qbody_ret1 (v := so) rfl rfl ⟨_, rfl, fun w' h => ?_⟩
    exact Cl.sub (by assumption) (by repeat (first | exact List.Sublist.slnil | exact List.Sublist.refl _ | apply List.Sublist.cons_cons | exact List.sublist_append_left _ _ | exact List.sublist_append_right _ _ | apply List.Sublist.cons))
theorem en_s_ChildrenOf : Entry Tryz.prog 18 := ⟨_, Tryz.func18, by kernel_rfl, rfl⟩
theorem s_ChildrenOf_c (sa sb sc : Value) (c : List Int) (i : Int) (w : World) (hr : Arr w sc (ints c)) (hlen : c.length ≤ 1048576) :
    Gives Tryz.prog 18 #[.agg #[sa, sb, sc], .int .i64 i] w (fun v objs => objs = [.row 3 v (ints (childL c i))]) := by
  refine gives_enter (args := [_, _]) en_s_ChildrenOf Tryz.func18 rfl Tryz.ntmps18 rfl ?_
  repeat' (first | apply pwp_seq | apply pwp_region | (apply px_run; (first | (apply opv_assign; first | exact hid_int rfl | rfl)); rfl; rfl) | apply px_nil | apply qseq_normal | apply pwp_block | (apply px_box; rfl; rfl; rfl; rfl; intro bk) | (apply px_lit0 ez_int; rfl; rfl; rfl; intro sv))
  refine pwp_loop (τ := Nat × Value) [(5,6), (8,25)] (fun x => [(6, .int .i64 (x.1 : Int)), (5, x.2)]) (fun x => Cl [] w [.row 3 x.2 (ints (childU c i x.1)), .blk bk [sa, sb, sc]]) (fun x => x.1 ≤ c.length) (fun x => c.length - x.1) (0, sv)
    ⟨rfl, rfl, trivial⟩ (Nat.zero_le _) (fun _ h => h) (fun J x hk => ?_)
  obtain ⟨k, so⟩ := x
  have hl := childU_length c i k
  dsimp only at hk
  by_cases hlt : k < c.length
  · have hsucc := childU_succ c i k
    repeat' (first | apply pwp_seq | apply pwp_region | (apply px_run; (first | (apply opv_move; first | exact hid_int rfl | rfl) | (apply opv_assign; first | exact hid_int rfl | rfl) | (apply opv_lss <;> rfl) | (apply opv_eql <;> rfl) | (apply opv_add_in; rfl; rfl; omega) | (apply opv_field fld_T2; rfl) | (apply opv_load_blk 1; (first | with_reducible exact sc_int | with_reducible exact sc_ints); rfl; rfl; rfl) | (apply opv_load_ints sc_int; rfl; (first | exact rd_old (by assumption)); (first | omega)) | (apply opv_index_nat (vs := ints _) el_int; rfl; rfl; (first | exact rd_old (by assumption)); (first | (simp only [ints_length]; omega))) | (apply opv_len_ints el_int; rfl; (first | exact rd_old (by assumption)))); rfl; rfl) | apply px_nil | apply qseq_normal | apply pwp_block | apply qblock_normal | apply pwp_skip | (apply pwp_cond_dec; rfl; all_goals (intro hc; try (first | (exfalso; omega)))) | (apply px_lit1 ez_int; rfl; (intro w hw; (first | rfl)); rfl; rfl; rfl; intro sv) | (apply px_append 1 ez_int; rfl; rfl; rfl; (first | exact rd_row 0 rfl); (first | (intro _ _ u hu; simp at hu; subst hu; rfl)); (simp [ints]; omega); decide; rfl; rfl; intro sv))
    · refine qround_normal ?_ ⟨(k + 1, _), ⟨rfl, rfl, trivial⟩, by dsimp only; omega, by dsimp only; omega, fun w' h => ?_⟩
      · repeat (first | exact same_refl | refine same_upd rfl ?_ | refine same_junk rfl ?_)
      · rw [if_pos hc] at hsucc
        simp only [hsucc, ← ints_snoc]
        exact Cl.sub (by assumption) (by repeat (first | exact List.Sublist.slnil | exact List.Sublist.refl _ | apply List.Sublist.cons_cons | exact List.sublist_append_left _ _ | exact List.sublist_append_right _ _ | apply List.Sublist.cons))
    · refine qround_normal ?_ ⟨(k + 1, so), ⟨rfl, rfl, trivial⟩, by dsimp only; omega, by dsimp only; omega, fun w' h => ?_⟩
      · repeat (first | exact same_refl | refine same_upd rfl ?_ | refine same_junk rfl ?_)
      · rw [if_neg hc] at hsucc
        simp only [hsucc]
        exact Cl.sub (by assumption) (by repeat (first | exact List.Sublist.slnil | exact List.Sublist.refl _ | apply List.Sublist.cons_cons | exact List.sublist_append_left _ _ | exact List.sublist_append_right _ _ | apply List.Sublist.cons))
  · repeat' (first | apply pwp_seq | apply pwp_region | (apply px_run; (first | (apply opv_move; first | exact hid_int rfl | rfl) | (apply opv_assign; first | rfl) | (apply opv_lss <;> rfl) | (apply opv_field fld_T2; rfl) | (apply opv_load_blk 1; (first | with_reducible exact sc_ints); rfl; rfl; rfl) | (apply opv_len_ints el_int; rfl; (first | exact rd_old (by assumption)))); rfl; rfl) | apply px_nil | apply qseq_normal | apply qseq_exit | (apply qblock_exit_same; rfl) | apply pwp_exit | apply pwp_ret | apply qround_exit | (apply pwp_cond_dec; rfl; all_goals (intro hc; try (first | (exfalso; omega)))))
    obtain rfl : k = c.length := by omega
    refine qbody_ret1 (v := so) rfl rfl ⟨_, rfl, fun w' h => ?_⟩
    exact Cl.sub (by assumption) (by repeat (first | exact List.Sublist.slnil | exact List.Sublist.refl _ | apply List.Sublist.cons_cons | exact List.sublist_append_left _ _ | exact List.sublist_append_right _ _ | apply List.Sublist.cons))
theorem en_s_l16Fine : Entry Tryz.prog 42 := ⟨_, Tryz.func42, by kernel_rfl, rfl⟩
set_option maxHeartbeats 1000000 in
theorem s_l16Fine_c (sa sb sc : Value) (a b c : List Int) (w : World) (ha : Arr w sa (ints a)) (hb : Arr w sb (ints b)) (hd : Arr w sc (ints c)) :
    Pure Tryz.prog 42 #[.agg #[sa, sb, sc]] w (.bool (decide (fineT a b c))) := by
  refine pure_enter (args := [_]) en_s_l16Fine Tryz.func42 rfl Tryz.ntmps42 rfl ?_
  repeat' (first | apply pwp_seq | apply pwp_region | (apply px_run; (first | (apply opv_move; first | exact hid_bool rfl) | (apply opv_assign; first | exact hid_int rfl | exact hid_bool rfl) | (apply opv_neq <;> rfl) | (apply opv_pick_t <;> rfl) | (apply opv_pick_f <;> rfl) | (apply opv_not_dec <;> rfl) | (apply opv_field fld_T0; rfl) | (apply opv_field fld_T1; rfl) | (apply opv_field fld_T2; rfl) | (apply opv_load_blk 0; (first | with_reducible exact sc_int | with_reducible exact sc_ints); rfl; rfl; rfl) | (apply opv_load_ints sc_int; rfl; (first | exact rd_old (by assumption)); (first | omega)) | (apply opv_index_nat (k := 0) (vs := ints _) el_int; rfl; rfl; (first | exact rd_old (by assumption)); (first | (simp only [ints_length]; first | omega))) | (apply opv_len_ints el_int; rfl; (first | exact rd_old (by assumption))) | (apply opv_call; rfl; rfl; exact Cl.stable _ _ _; exact fun w hw => s_l1In_c _ _ _ _)); rfl; rfl) | apply px_nil | (apply px_skip; rfl; rfl) | apply qseq_normal | apply qseq_ret | apply pwp_block | apply pwp_skip | apply pwp_ret | (apply pwp_cond_t; rfl) | (apply px_guard_ndec; rfl; rfl; rfl; all_goals (intro hc; try (first | fail))) | (apply pwp_cond_ndec; rfl; all_goals (intro hc; try (first | fail))) | (apply px_box; rfl; rfl; rfl; rfl; intro bk))
  all_goals try (refine qbody_ret1 (v := .bool _) rfl rfl ⟨ret_false rfl fun h => hc ?_, fun _ h => h.below⟩; first | exact h.1 | exact h.2.1 | exact h.2.2.1 | exact h.2.2.2.1)
  rename_i h1 h2 h3
  have h4 := hc
  clear hc
  refine pwp_loop [(2,3), (34,71)] (fun k : Nat => [(3, .int .i64 (k : Int))]) (fun _ => Cl [] w [.blk bk [sa, sb, sc]]) (fun k => k ≤ a.length ∧ ∀ i, i < k → fineAt a b c i) (fun k => a.length - k) 0
    ⟨rfl, trivial⟩ ⟨Nat.zero_le _, fun i hi => by omega⟩ (fun _ h => h) (fun J k hk => ?_)
  obtain ⟨hk, he⟩ := hk
  by_cases hlt : k < a.length
  · have key : fineT a b c → fineAt a b c k := fun h => h.2.2.2.2 k hlt
    repeat' (first | apply pwp_seq | apply pwp_region | (apply px_run; (first | (apply opv_move; first | exact hid_int rfl | exact hid_bool rfl | rfl) | (apply opv_assign; first | exact hid_int rfl | exact hid_bool rfl) | (apply opv_lss <;> rfl) | (apply opv_gtr <;> rfl) | (apply opv_pick_t <;> rfl) | (apply opv_pick_f <;> rfl) | (apply opv_not_dec <;> rfl) | (apply opv_add_in; rfl; rfl; omega) | (apply opv_sub_in; rfl; rfl; omega) | (apply opv_field fld_T0; rfl) | (apply opv_field fld_T1; rfl) | (apply opv_field fld_T2; rfl) | (apply opv_load_blk 0; (first | with_reducible exact sc_int | with_reducible exact sc_ints); rfl; rfl; rfl) | (apply opv_load_ints sc_int; rfl; (first | exact rd_old (by assumption)); (first | omega)) | (apply opv_index_nat (vs := ints _) el_int; rfl; rfl; (first | exact rd_old (by assumption)); (first | (simp only [ints_length]; omega))) | (apply opv_len_ints el_int; rfl; (first | exact rd_old (by assumption))) | (apply opv_call; rfl; rfl; exact Cl.stable _ _ _; exact fun w hw => s_l1In_c _ _ _ _) | (apply opv_call; rfl; rfl; exact Cl.stable _ _ _; exact fun w hw => s_l3Fine_c _ _)); rfl; rfl) | apply px_nil | (apply px_skip; rfl; rfl) | apply qseq_normal | apply qseq_ret | apply pwp_block | apply qblock_normal | apply qblock_ret | apply pwp_skip | apply pwp_ret | apply qround_ret | (apply pwp_cond_t; rfl) | (apply pwp_cond_f; rfl) | (apply px_guard_ndec; rfl; rfl; rfl; all_goals (intro hc; try (first | fail))) | (apply px_guard_dec; rfl; rfl; rfl; all_goals (intro hc; try (first | fail))) | (apply pwp_cond_ndec; rfl; all_goals (intro hc; try (first | fail))) | (apply pwp_cond_dec; rfl; all_goals (intro hc; try (first | (exfalso; omega)))))
    all_goals try (refine qbody_ret1 (v := .bool _) rfl rfl ⟨ret_false rfl fun h => hc ?_, fun _ h => h.below⟩; first | exact (key h).1 | exact (key h).2.1 | exact (key h).2.2 (by omega))
    all_goals (refine qround_normal ?_ ⟨k + 1, ⟨rfl, trivial⟩, ⟨by omega, fun i hi => ?_⟩, by omega, fun _ h => h⟩)
    all_goals (repeat (first | exact same_refl | refine same_upd rfl ?_ | refine same_junk rfl ?_))
    all_goals
      by_cases hik : i < k
      · exact he i hik
      · obtain rfl : i = k := by omega
        exact ⟨by assumption, by assumption, fun h => by first | assumption | (exfalso; omega)⟩
  · repeat' (first | apply pwp_seq | apply pwp_region | (apply px_run; (first | (apply opv_move; first | exact hid_int rfl) | (apply opv_assign; first | exact hid_bool rfl) | (apply opv_lss <;> rfl) | (apply opv_field fld_T0; rfl) | (apply opv_load_blk 0; (first | with_reducible exact sc_ints); rfl; rfl; rfl) | (apply opv_len_ints el_int; rfl; (first | exact rd_old (by assumption)))); rfl; rfl) | apply px_nil | apply qseq_normal | apply qseq_exit | (apply qblock_exit_same; rfl) | apply pwp_exit | apply pwp_ret | apply qround_exit | (apply pwp_cond_dec; rfl; all_goals (intro hc; try (first | (exfalso; omega)))))
    refine qbody_ret1 (v := .bool _) rfl rfl ⟨ret_true rfl ⟨h1, h2, h3, h4, fun i hi => he i (by omega)⟩, fun _ h => h.below⟩
theorem en_s_DepthOf : Entry Tryz.prog 20 := ⟨_, Tryz.func20, by kernel_rfl, rfl⟩
set_option maxHeartbeats 1000000 in
theorem s_DepthOf_c (sa sb sc : Value) (a b c : List Int) (w : World) (ha : Arr w sa (ints a)) (hb : Arr w sb (ints b)) (hd : Arr w sc (ints c)) :
    Pure Tryz.prog 20 #[.agg #[sa, sb, sc]] w (.int .i64 (depthT a b c)) := by
  refine pure_enter (args := [_]) en_s_DepthOf Tryz.func20 rfl Tryz.ntmps20 rfl ?_
  by_cases hf : fineT a b c
  case neg =>
    repeat' (first | apply pwp_seq | apply pwp_region | (apply px_run; (first | (apply opv_assign; first | exact hid_int rfl) | (apply opv_not_dec <;> rfl) | (apply opv_load_str 0 st_T; rfl; rfl; rfl) | (apply opv_call; rfl; rfl; exact Cl.stable _ _ _; exact fun w hw => s_l16Fine_c _ _ _ a b c _ (by first | exact hw.arr (by assumption)) (by first | exact hw.arr (by assumption)) (by first | exact hw.arr (by assumption)))); rfl; rfl) | apply px_nil | apply qseq_normal | apply qseq_ret | apply pwp_ret | (apply pwp_cond_ndec; rfl; all_goals (intro hc; try (first | contradiction))) | (apply px_box; rfl; rfl; rfl; rfl; intro bk))
    refine qbody_ret1 (v := .int _ _) rfl rfl ⟨by rw [depthT, if_neg hf], fun _ h => h.below⟩
  have hval : depthT a b c = depM c c.length := by rw [depthT, if_pos hf]
  obtain ⟨h1, h2, h3, h4, h5⟩ := id hf
  have hdn : down c c.length := fun i hi h0 => (h5 i (by omega)).2.2 h0
  repeat' (first | apply pwp_seq | apply pwp_region | (apply px_run; (first | (apply opv_assign; first | exact hid_int rfl) | (apply opv_not_dec <;> rfl) | (apply opv_load_str 0 st_T; rfl; rfl; rfl) | (apply opv_call; rfl; rfl; exact Cl.stable _ _ _; exact fun w hw => s_l16Fine_c _ _ _ a b c _ (by first | exact hw.arr (by assumption)) (by first | exact hw.arr (by assumption)) (by first | exact hw.arr (by assumption)))); rfl; rfl) | apply px_nil | apply qseq_normal | apply pwp_block | apply pwp_skip | (apply pwp_cond_ndec; rfl; all_goals (intro hc; try (first | contradiction))) | (apply px_box; rfl; rfl; rfl; rfl; intro bk))
  refine pwp_loop (τ := Nat) [(3,6), (10,33)] (fun k => [(4, .int .i64 (k : Int)), (3, .int .i64 (depM c k))]) (fun _ => Cl [] w [.blk bk [sa, sb, sc]]) (fun k => k ≤ c.length) (fun k => c.length - k) 0
    ⟨rfl, rfl, trivial⟩ (Nat.zero_le _) (fun _ h => h) (fun J k hk => ?_)
  by_cases hlt : k < c.length
  · repeat' (first | apply pwp_seq | apply pwp_region | (apply px_run; (first | (apply opv_move; first | exact hid_int rfl) | (apply opv_assign; first | exact hid_int rfl) | (apply opv_lss <;> rfl) | (apply opv_field fld_T0; rfl) | (apply opv_load_blk 0; (first | with_reducible exact sc_ints); rfl; rfl; rfl) | (apply opv_len_ints el_int; rfl; (first | exact rd_old (by assumption)))); rfl; rfl) | apply px_nil | apply qseq_normal | apply pwp_block | apply pwp_skip | (apply pwp_cond_dec; rfl; all_goals (intro hc; try (first | (exfalso; omega)))))
    refine pwp_loop (τ := Nat × Nat) [(5,6), (18,30)] (fun x => [(6, .int .i64 (x.1 : Int)), (5, .int .i64 (x.2 : Int))]) (fun _ => Cl [] w [.blk bk [sa, sb, sc]]) (fun x => x.1 ≤ k ∧ (x.2 : Int) + dep c x.1 = dep c k) (fun x => x.1) (k, 0)
      ⟨rfl, rfl, trivial⟩ ⟨Nat.le_refl _, by simp⟩ (fun _ h => h) (fun J2 x hx => ?_)
    obtain ⟨hu, hn⟩ := hx
    have hb1 := dep_bound hdn k hlt
    have hb2 := dep_bound hdn x.1 (by omega)
    by_cases hp : 0 < x.1
    · have hup := hdn x.1 (by omega) hp
      have hst := dep_pos hdn x.1 (by omega) hp
      repeat' (first | apply pwp_seq | apply pwp_region | (apply px_run; (first | (apply opv_move; first | exact hid_int rfl) | (apply opv_assign; first | exact hid_int rfl) | (apply opv_geq <;> rfl) | (apply opv_add_in; rfl; rfl; omega) | (apply opv_field fld_T2; rfl) | (apply opv_load_blk 0; (first | with_reducible exact sc_int | with_reducible exact sc_ints); rfl; rfl; rfl) | (apply opv_load_ints sc_int; rfl; (first | exact rd_old (by assumption)); (first | omega)) | (apply opv_index_nat (vs := ints _) el_int; rfl; rfl; (first | exact rd_old (by assumption)); (first | (simp only [ints_length]; omega)))); rfl; rfl) | apply px_nil | apply qseq_normal | apply pwp_block | apply qblock_normal | apply pwp_skip | (apply pwp_cond_dec; rfl; all_goals (intro hc; try (first | (exfalso; omega)))))
      refine qround_normal ?_ ⟨((c.getD x.1 0).toNat, x.2 + 1), ⟨?_, ?_, trivial⟩, ⟨by dsimp only; omega, by dsimp only; omega⟩, by dsimp only; omega, fun _ h => h⟩
      · repeat (first | exact same_refl | refine same_upd rfl ?_ | refine same_junk rfl ?_)
      · show Value.int .i64 (c.getD x.1 0) = .int .i64 ((c.getD x.1 0).toNat : Int); congr 1; omega
      · rfl
    · have hx0 : x.1 = 0 := by omega
      have h4' : c.getD x.1 0 = -1 := by rw [hx0]; exact h4
      repeat' (first | apply pwp_seq | apply pwp_region | (apply px_run; (first | (apply opv_move; first | exact hid_int rfl) | (apply opv_assign; first | exact hid_int rfl) | (apply opv_geq <;> rfl) | (apply opv_add_in; rfl; rfl; omega) | (apply opv_field fld_T2; rfl) | (apply opv_load_blk 0; (first | with_reducible exact sc_int | with_reducible exact sc_ints); rfl; rfl; rfl) | (apply opv_load_ints sc_int; rfl; (first | exact rd_old (by assumption)); (first | omega)) | (apply opv_index_nat (vs := ints _) el_int; rfl; rfl; (first | exact rd_old (by assumption)); (first | (simp only [ints_length]; omega))) | (apply opv_max <;> rfl)); rfl; rfl) | apply px_nil | apply qseq_normal | apply qseq_exit | apply qblock_normal | (apply qblock_exit_same; rfl) | apply pwp_exit | apply qround_exit | (apply pwp_cond_dec; rfl; all_goals (intro hc; try (first | (exfalso; omega)))))
      refine qround_normal ?_ ⟨k + 1, ⟨rfl, ?_, trivial⟩, by omega, by omega, fun _ h => h⟩
      · repeat (first | exact same_refl | refine same_upd rfl ?_ | refine same_junk rfl ?_)
      · show Value.int .i64 (max (depM c k) (x.2 : Int)) = _
        rw [depM_succ]; rw [hx0, dep_zero] at hn; rw [← hn, Int.add_zero]
  · repeat' (first | apply pwp_seq | apply pwp_region | (apply px_run; (first | (apply opv_move; first | exact hid_int rfl) | (apply opv_assign; first | exact hid_int rfl) | (apply opv_lss <;> rfl) | (apply opv_field fld_T0; rfl) | (apply opv_load_blk 0; (first | with_reducible exact sc_ints); rfl; rfl; rfl) | (apply opv_len_ints el_int; rfl; (first | exact rd_old (by assumption)))); rfl; rfl) | apply px_nil | apply qseq_normal | apply qseq_exit | (apply qblock_exit_same; rfl) | apply pwp_exit | apply pwp_ret | apply qround_exit | (apply pwp_cond_dec; rfl; all_goals (intro hc; try (first | (exfalso; omega)))))
    obtain rfl : k = c.length := by omega
    refine qbody_ret1 (v := .int _ _) rfl rfl ⟨by rw [hval], fun _ h => h.below⟩
theorem en_i_DepthOf : Entry Tryz.prog 19 := ⟨_, Tryz.func19, by kernel_rfl, rfl⟩
set_option maxHeartbeats 2000000 in
theorem i_DepthOf_c (sa sb sc : Value) (a b c : List Int) (w : World) (ha : Arr w sa (ints a)) (hb : Arr w sb (ints b)) (hd : Arr w sc (ints c)) :
    Pure Tryz.prog 19 #[.agg #[sa, sb, sc]] w (.int .i64 (depthT a b c)) := by
  refine pure_enter (args := [_]) en_i_DepthOf Tryz.func19 rfl Tryz.ntmps19 rfl ?_
  have neg : ¬ fineT a b c → depthT a b c = -1 := fun h => by rw [depthT, if_neg h]
  repeat' (first | apply pwp_seq | apply pwp_region | (apply px_run; (first | (apply opv_move; first | exact hid_int rfl | exact hid_bool rfl) | (apply opv_assign; first | exact hid_int rfl | rfl) | (apply opv_neq <;> rfl) | (apply opv_pick_t <;> rfl) | (apply opv_pick_f <;> rfl) | (apply opv_not_dec <;> rfl) | (apply opv_field fld_T0; rfl) | (apply opv_field fld_T1; rfl) | (apply opv_field fld_T2; rfl) | (apply opv_load_blk 0; (first | with_reducible exact sc_int | with_reducible exact sc_ints); rfl; rfl; rfl) | (apply opv_load_blk 1; (first | with_reducible exact sc_int | with_reducible exact sc_ints); rfl; rfl; rfl) | (apply opv_load_ints sc_int; rfl; (first | exact rd_old (by assumption)); (first | omega)) | (apply opv_index_nat (k := 0) (vs := ints _) el_int; rfl; rfl; (first | exact rd_old (by assumption)); (first | (simp only [ints_length]; first | omega))) | (apply opv_len_ints el_int; rfl; (first | exact rd_old (by assumption))) | (apply opv_call; rfl; rfl; exact Cl.stable _ _ _; exact fun w hw => i_within_c _ _ _ _)); rfl; rfl) | apply px_nil | (apply px_skip; rfl; rfl) | apply qseq_normal | apply qseq_ret | apply pwp_block | apply pwp_skip | apply pwp_ret | (apply pwp_cond_t; rfl) | (apply px_guard_ndec; rfl; rfl; rfl; all_goals (intro hc; try (first | fail))) | (apply pwp_cond_ndec; rfl; all_goals (intro hc; try (first | fail))) | (apply px_box; rfl; rfl; rfl; rfl; intro bk) | (apply px_lit0 ez_int; rfl; rfl; rfl; intro sv))
  all_goals try (refine qbody_ret1 (v := .int _ _) rfl rfl ⟨by rw [neg fun h => hc (by first | exact h.1 | exact h.2.1 | exact h.2.2.1 | exact h.2.2.2.1)], fun _ h => h.below⟩)
  rename_i h1 h2 h3
  have h4 := hc
  clear hc
  refine pwp_loop (τ := Nat × Value) [(2,2), (4,8), (40,86)] (fun x => [(40, .int .i64 (x.1 : Int)), (4, x.2), (5, .int .i64 (depM c x.1))]) (fun x => Cl [] w [.row 3 x.2 (ints (depL c x.1)), .blk bk [sa, sb, sc]]) (fun x => x.1 ≤ a.length ∧ ∀ i, i < x.1 → fineAt a b c i) (fun x => a.length - x.1) (0, sv)
    ⟨rfl, rfl, rfl, trivial⟩ ⟨Nat.zero_le _, fun i hi => (Nat.not_lt_zero _ hi).elim⟩ (fun _ h => h) (fun J x hk => ?_)
  obtain ⟨k, so⟩ := x
  obtain ⟨hk, he⟩ := hk
  dsimp only at hk he ⊢
  have hll := depL_length c k
  by_cases hlt : k < a.length
  · have key : fineT a b c → fineAt a b c k := fun h => h.2.2.2.2 k hlt
    have hb' := depL_bound (c := c) (k := k) (fun i hi h0 => (he i hi).2.2 h0) (c.getD k 0).toNat
    repeat' (first | apply pwp_seq | apply pwp_region | (apply px_run; (first | (apply opv_move; first | exact hid_int rfl | exact hid_bool rfl | rfl) | (apply opv_assign; first | exact hid_int rfl) | (apply opv_lss <;> rfl) | (apply opv_gtr <;> rfl) | (apply opv_pick_t <;> rfl) | (apply opv_pick_f <;> rfl) | (apply opv_not_dec <;> rfl) | (apply opv_add_in; rfl; rfl; omega) | (apply opv_sub_in; rfl; rfl; omega) | (apply opv_field fld_T0; rfl) | (apply opv_field fld_T1; rfl) | (apply opv_load_blk 1; (first | with_reducible exact sc_int | with_reducible exact sc_ints); rfl; rfl; rfl) | (apply opv_load_ints sc_int; rfl; (first | exact rd_old (by assumption) | exact rd_row 0 rfl); (first | omega)) | (apply opv_index_nat (vs := ints _) el_int; rfl; rfl; (first | exact rd_old (by assumption)); (first | (simp only [ints_length]; omega))) | (apply opv_index (vs := ints _) el_int; rfl; rfl; (first | exact rd_row 0 rfl); omega; (first | (simp only [ints_length]; omega))) | (apply opv_call; rfl; rfl; exact Cl.stable _ _ _; exact fun w hw => i_within_c _ _ _ _) | (apply opv_call; rfl; rfl; exact Cl.stable _ _ _; exact fun w hw => i_isBag_c _ _)); rfl; rfl) | apply px_nil | (apply px_skip; rfl; rfl) | apply qseq_normal | apply qseq_ret | apply pwp_block | apply qblock_ret | apply pwp_skip | apply pwp_ret | apply qround_ret | (apply pwp_cond_t; rfl) | (apply pwp_cond_f; rfl) | (apply px_guard_ndec; rfl; rfl; rfl; all_goals (intro hc; try (first | fail))) | (apply px_guard_dec; rfl; rfl; rfl; all_goals (intro hc; try (first | fail))) | (apply pwp_cond_ndec; rfl; all_goals (intro hc; try (first | fail))) | (apply pwp_cond_dec; rfl; all_goals (intro hc; try (first | contradiction | (exfalso; omega)))))
    · refine qbody_ret1 (v := .int _ _) rfl rfl ⟨by rw [neg fun h => hc (key h).1], fun _ h => h.below⟩
    · refine qbody_ret1 (v := .int _ _) rfl rfl ⟨by rw [neg fun h => hc (key h).2.1], fun _ h => h.below⟩
    · refine qbody_ret1 (v := .int _ _) rfl rfl ⟨by rw [neg fun h => hc ((key h).2.2 (by first | assumption | (apply Int.ofNat_lt.1; assumption)))], fun _ h => h.below⟩
    · rename_i f1 f2 f3 f4
      have hf : fineAt a b c k := ⟨f1, f2, fun _ => f4⟩
      have hk0 : 0 < k := by exact Int.ofNat_lt.1 f3
      have f5 : 0 ≤ c.getD k 0 ∧ c.getD k 0 ≤ (k : Int) - 1 := f4
      have hdn : down c (k + 1) := fun i hi h0 => by
        by_cases hik : i < k
        · exact (he i hik).2.2 h0
        · obtain rfl : i = k := by omega
          exact f4
      have hb := dep_bound hdn (c.getD k 0).toNat (by omega)
      have hst := dep_pos hdn k (by omega) hk0
      have hget := depL_get c k (c.getD k 0).toNat (by omega)
      clear f1 f2 f3 f4
      repeat' (first | apply pwp_region | (apply px_run; (first | (apply opv_move; first | exact hid_int rfl) | (apply opv_assign; first | exact hid_int rfl | rfl) | (apply opv_add_in; rfl; rfl; omega) | (apply opv_max <;> rfl)); rfl; rfl) | apply px_nil | apply qseq_normal | apply qblock_normal | (apply px_lit1 ez_int; rfl; (intro w hw; (first | rfl)); rfl; rfl; rfl; intro sv) | (apply px_append 1 ez_int; rfl; rfl; rfl; (first | exact rd_row 0 rfl); (first | (intro _ _ u hu; simp at hu; subst hu; rfl)); (simp [ints]; omega); decide; rfl; rfl; intro sv))
      refine qround_normal ?_ ⟨(k + 1, _), ⟨rfl, rfl, ?_, trivial⟩, ⟨by dsimp only; omega, fun i hi => ?_⟩, by dsimp only; omega, fun w' h => ?_⟩
      · repeat (first | exact same_refl | refine same_upd rfl ?_ | refine same_junk rfl ?_)
      · refine Eq.trans (b := .int .i64 (max (depM c k) ((depL c k).getD (c.getD k 0).toNat 0 + 1))) rfl ?_
        show _ = Value.int .i64 (depM c (k + 1))
        rw [depM_succ, hst, hget]
      · dsimp only at hi
        by_cases hik : i < k
        · exact he i hik
        · obtain rfl : i = k := by omega
          exact hf
      · have e : ints (depL c (k + 1)) = ints (depL c k) ++ [.int .i64 ((depL c k).getD (c.getD k 0).toNat 0 + 1)] := by rw [depL_succ, hst, hget, ints_snoc]
        dsimp only
        rw [e]
        exact Cl.sub (by assumption) (by repeat (first | exact List.Sublist.slnil | exact List.Sublist.refl _ | apply List.Sublist.cons_cons | exact List.sublist_append_left _ _ | exact List.sublist_append_right _ _ | apply List.Sublist.cons))
    · rename_i f1 f2 f3
      have hf : fineAt a b c k := ⟨f1, f2, fun h => absurd (Int.ofNat_lt.2 h) f3⟩
      have hk0 : k = 0 := by have : ¬ (0 : Int) < (k : Int) := f3
                             omega
      clear f1 f2 f3
      repeat' (first | apply pwp_region | (apply px_run; (first | (apply opv_move; first | exact hid_int rfl) | (apply opv_assign; first | exact hid_int rfl | rfl) | (apply opv_add_in; rfl; rfl; omega) | (apply opv_max <;> rfl)); rfl; rfl) | apply px_nil | apply qseq_normal | apply qblock_normal | (apply px_lit1 ez_int; rfl; (intro w hw; (first | rfl)); rfl; rfl; rfl; intro sv) | (apply px_append 1 ez_int; rfl; rfl; rfl; (first | exact rd_row 0 rfl); (first | (intro _ _ u hu; simp at hu; subst hu; rfl)); (simp [ints]; omega); decide; rfl; rfl; intro sv))
      refine qround_normal ?_ ⟨(k + 1, _), ⟨rfl, rfl, ?_, trivial⟩, ⟨by dsimp only; omega, fun i hi => ?_⟩, by dsimp only; omega, fun w' h => ?_⟩
      · repeat (first | exact same_refl | refine same_upd rfl ?_ | refine same_junk rfl ?_)
      · subst hk0; rfl
      · dsimp only at hi
        by_cases hik : i < k
        · exact he i hik
        · obtain rfl : i = k := by omega
          exact hf
      · have hz : dep c k = 0 := by rw [hk0]; exact dep_zero c
        have e : ints (depL c (k + 1)) = ints (depL c k) ++ [.int .i64 0] := by rw [depL_succ, hz, ints_snoc]
        dsimp only
        rw [e]
        exact Cl.sub (by assumption) (by repeat (first | exact List.Sublist.slnil | exact List.Sublist.refl _ | apply List.Sublist.cons_cons | exact List.sublist_append_left _ _ | exact List.sublist_append_right _ _ | apply List.Sublist.cons))
  · repeat' (first | apply pwp_seq | apply pwp_region | (apply px_run; (first | (apply opv_move; first | exact hid_int rfl) | (apply opv_assign; first | exact hid_int rfl) | (apply opv_lss <;> rfl)); rfl; rfl) | apply px_nil | apply qseq_normal | apply qseq_exit | (apply qblock_exit_same; rfl) | apply pwp_exit | apply pwp_ret | apply qround_exit | (apply pwp_cond_dec; rfl; all_goals (intro hc; try (first | (exfalso; omega)))))
    obtain rfl : k = a.length := by omega
    have hf : fineT a b c := ⟨h1, h2, h3, h4, he⟩
    refine qbody_ret1 (v := .int _ _) rfl rfl ⟨by rw [depthT, if_pos hf, show c.length = a.length by omega], fun _ h => h.below⟩
end Go.Proofs.YtoejpckfeflkaaaGreatDoor
