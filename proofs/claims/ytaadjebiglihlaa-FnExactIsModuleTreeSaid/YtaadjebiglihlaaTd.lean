/- Module trees: equality, children, depth. -/
import Derived.Test.YtaadjebiglihlaaTr
import Derived.Test.YtaadjebiglihlaaGs
import Derived.Test.YtaadjebiglihlaaPwPlt
namespace Go.Proofs.Ytaadjebiglihlaa
open Go Go.RowKit Go.Pw

theorem en_s_l8Same : Entry Try.prog 93 := ⟨_, Try.func93, by kernel_rfl, rfl⟩
theorem s_l8Same_c (sa sb : Value) (a b : List Int) (w : World) (ha : Arr w sa (ints a)) (hb : Arr w sb (ints b)) :
    Pure Try.prog 93 #[sa, sb] w (.bool (decide (a = b))) := by
  refine pure_enter (args := [_, _]) en_s_l8Same Try.func93 rfl Try.ntmps93 rfl ?_
  have h1 := ha.len
  have h2 := hb.len
  repeat' (first | apply pwp_seq | apply pwp_region | (apply px_run; (first | (apply opv_move; first | rfl) | (apply opv_assign; first | exact hid_int rfl | exact hid_bool rfl) | (apply opv_neq <;> rfl) | (apply opv_len_ints el_int; rfl; (first | exact rd_old (by assumption)))); rfl; rfl) | apply px_nil | apply qseq_normal | apply qseq_ret | apply pwp_block | apply pwp_skip | apply pwp_ret | (apply pwp_cond_ndec; rfl; all_goals (intro hc; try (first | fail))))
  · refine qbody_ret1 (v := .bool _) rfl rfl ⟨ret_false rfl fun h => hc (by rw [h]), fun _ h => h.below⟩
  have hl : a.length = b.length := by omega
  refine pwp_loop [(4,5), (11,25)] (fun k : Nat => [(5, .int .i64 (k : Int))]) (fun k => Cl [] w []) (fun k => k ≤ a.length ∧ ∀ i, i < k → a.getD i 0 = b.getD i 0) (fun k => a.length - k) 0
    ⟨rfl, trivial⟩ ⟨Nat.zero_le _, fun i hi => by omega⟩ (fun _ h => h) (fun J k hk => ?_)
  obtain ⟨hk, he⟩ := hk
  by_cases hlt : k < a.length
  · repeat' (first | apply pwp_seq | apply pwp_region | (apply px_run; (first | (apply opv_move; first | exact hid_int rfl | rfl) | (apply opv_assign; first | exact hid_int rfl | exact hid_bool rfl) | (apply opv_lss <;> rfl) | (apply opv_neq <;> rfl) | (apply opv_add_in; rfl; rfl; omega) | (apply opv_load_ints sc_int; rfl; (first | exact rd_old (by assumption)); (first | omega)) | (apply opv_index_nat (vs := ints _) el_int; rfl; rfl; (first | exact rd_old (by assumption)); (first | (simp only [ints_length]; omega))) | (apply opv_len_ints el_int; rfl; (first | exact rd_old (by assumption)))); rfl; rfl) | apply px_nil | apply qseq_normal | apply qseq_ret | apply pwp_block | apply qblock_normal | apply qblock_ret | apply pwp_skip | apply pwp_ret | apply qround_ret | (apply pwp_region_mix; kernel_rfl; decide +kernel; exact Cl.stable _ _ _) | (apply pwp_cond_ndec; rfl; all_goals (intro hc; try (first | fail))) | (apply pwp_cond_dec; rfl; all_goals (intro hc; try (first | (exfalso; omega)))))
    · refine qbody_ret1 (v := .bool _) rfl rfl ⟨ret_false rfl fun h => hc (by rw [h]), fun _ h => h.below⟩
    · refine qround_normal ?_ ⟨k + 1, ⟨rfl, trivial⟩, ⟨by omega, fun i hi => ?_⟩, by omega, fun _ h => h⟩
      · repeat (first | exact same_refl | refine same_upd rfl ?_ | refine same_junk rfl ?_)
      · by_cases hik : i < k
        · exact he i hik
        · obtain rfl : i = k := by omega
          exact hc
  · repeat' (first | apply pwp_seq | apply pwp_region | (apply px_run; (first | (apply opv_move; first | exact hid_int rfl | rfl) | (apply opv_assign; first | exact hid_bool rfl) | (apply opv_lss <;> rfl) | (apply opv_len_ints el_int; rfl; (first | exact rd_old (by assumption)))); rfl; rfl) | apply px_nil | apply qseq_normal | apply qseq_exit | (apply qblock_exit_same; rfl) | apply pwp_exit | apply pwp_ret | apply qround_exit | (apply pwp_cond_dec; rfl; all_goals (intro hc; try (first | (exfalso; omega)))))
    refine qbody_ret1 (v := .bool _) rfl rfl ⟨ret_true rfl (eq_of_getD hl fun i hi => he i (by omega)), fun _ h => h.below⟩
theorem en_x_slices_Equal_int_int : Entry Try.prog 94 := ⟨_, Try.func94, by kernel_rfl, rfl⟩
theorem x_Equal_c (sa sb : Value) (a b : List Int) (w : World) (ha : Arr w sa (ints a)) (hb : Arr w sb (ints b)) :
    Pure Try.prog 94 #[sa, sb] w (.bool (decide (a = b))) := by
  refine pure_enter (args := [_, _]) en_x_slices_Equal_int_int Try.func94 rfl Try.ntmps94 rfl ?_
  have h1 := ha.len
  have h2 := hb.len
  repeat' (first | apply pwp_seq | apply pwp_region | (apply px_run; (first | (apply opv_move; first | exact hid_int rfl | rfl) | (apply opv_assign; first | exact hid_bool rfl) | (apply opv_neq <;> rfl) | (apply opv_len_ints el_int; rfl; (first | exact rd_old (by assumption)))); rfl; rfl) | apply px_nil | apply qseq_normal | apply qseq_ret | apply pwp_block | apply pwp_skip | apply pwp_ret | (apply pwp_cond_ndec; rfl; all_goals (intro hc; try (first | fail))))
  · refine qbody_ret1 (v := .bool _) rfl rfl ⟨ret_false rfl fun h => hc (by rw [h]), fun _ h => h.below⟩
  have hl : a.length = b.length := by omega
  refine pwp_loop [(4,5), (13,25)] (fun k : Nat => [(13, .int .i64 (k : Int))]) (fun k => Cl [] w []) (fun k => k ≤ a.length ∧ ∀ i, i < k → a.getD i 0 = b.getD i 0) (fun k => a.length - k) 0
    ⟨rfl, trivial⟩ ⟨Nat.zero_le _, fun i hi => by omega⟩ (fun _ h => h) (fun J k hk => ?_)
  obtain ⟨hk, he⟩ := hk
  by_cases hlt : k < a.length
  · repeat' (first | apply pwp_seq | apply pwp_region | (apply px_run; (first | (apply opv_move; first | exact hid_int rfl | rfl) | (apply opv_assign; first | exact hid_int rfl | exact hid_bool rfl) | (apply opv_lss <;> rfl) | (apply opv_neq <;> rfl) | (apply opv_add_in; rfl; rfl; omega) | (apply opv_load_ints sc_int; rfl; (first | exact rd_old (by assumption)); (first | omega)) | (apply opv_index_nat (vs := ints _) el_int; rfl; rfl; (first | exact rd_old (by assumption)); (first | (simp only [ints_length]; omega)))); rfl; rfl) | apply px_nil | apply qseq_normal | apply qseq_ret | apply pwp_block | apply qblock_normal | apply qblock_ret | apply pwp_skip | apply pwp_ret | apply qround_ret | (apply pwp_region_mix; kernel_rfl; decide +kernel; exact Cl.stable _ _ _) | (apply pwp_cond_ndec; rfl; all_goals (intro hc; try (first | fail))) | (apply pwp_cond_dec; rfl; all_goals (intro hc; try (first | (exfalso; omega)))))
    · refine qbody_ret1 (v := .bool _) rfl rfl ⟨ret_false rfl fun h => hc (by rw [h]), fun _ h => h.below⟩
    · refine qround_normal ?_ ⟨k + 1, ⟨rfl, trivial⟩, ⟨by omega, fun i hi => ?_⟩, by omega, fun _ h => h⟩
      · repeat (first | exact same_refl | refine same_upd rfl ?_ | refine same_junk rfl ?_)
      · by_cases hik : i < k
        · exact he i hik
        · obtain rfl : i = k := by omega
          exact hc
  · repeat' (first | apply pwp_seq | apply pwp_region | (apply px_run; (first | (apply opv_assign; first | exact hid_bool rfl) | (apply opv_lss <;> rfl)); rfl; rfl) | apply px_nil | apply qseq_normal | apply qseq_exit | (apply qblock_exit_same; rfl) | apply pwp_exit | apply pwp_ret | apply qround_exit | (apply pwp_cond_dec; rfl; all_goals (intro hc; try (first | (exfalso; omega)))))
    refine qbody_ret1 (v := .bool _) rfl rfl ⟨ret_true rfl (eq_of_getD hl fun i hi => he i (by omega)), fun _ h => h.below⟩
theorem en_s_EqualModuleTrees : Entry Try.prog 65 := ⟨_, Try.func65, by kernel_rfl, rfl⟩
theorem s_EqualModuleTrees_c (sa sb sc ta tb tc : Value) (a b c a' b' c' : List Int) (w : World) (ha : Arr w sa (ints a)) (hb : Arr w sb (ints b)) (hd : Arr w sc (ints c)) (ha' : Arr w ta (ints a')) (hb' : Arr w tb (ints b')) (hd' : Arr w tc (ints c')) :
    Pure Try.prog 65 #[.agg #[sa, sb, sc], .agg #[ta, tb, tc]] w (.bool (decide (a = a' ∧ b = b' ∧ c = c'))) := by
  refine pure_enter (args := [_, _]) en_s_EqualModuleTrees Try.func65 rfl Try.ntmps65 rfl ?_
  repeat' (first | apply pwp_seq | apply pwp_region | (apply px_run; (first | (apply opv_move; first | exact hid_bool rfl) | (apply opv_assign; first | exact hid_bool rfl) | (apply opv_pick_t <;> rfl) | (apply opv_pick_f <;> rfl) | (apply opv_field fld_T0; rfl) | (apply opv_field fld_T1; rfl) | (apply opv_field fld_T2; rfl) | (apply opv_load_blk 0; (first | with_reducible exact sc_ints); rfl; rfl; rfl) | (apply opv_load_blk 1; (first | with_reducible exact sc_ints); rfl; rfl; rfl) | (apply opv_call; rfl; rfl; exact Cl.stable _ _ _; exact fun w hw => s_l8Same_c _ _ a a' _ (hw.arr ha) (hw.arr ha')) | (apply opv_call; rfl; rfl; exact Cl.stable _ _ _; exact fun w hw => s_l8Same_c _ _ b b' _ (hw.arr hb) (hw.arr hb')) | (apply opv_call; rfl; rfl; exact Cl.stable _ _ _; exact fun w hw => s_l8Same_c _ _ c c' _ (hw.arr hd) (hw.arr hd'))); rfl; rfl) | apply px_nil | (apply px_skip; rfl; rfl) | apply qseq_normal | apply pwp_ret | (apply px_guard_dec; rfl; rfl; rfl; all_goals (intro hc; try (first | fail))) | (apply px_box; rfl; rfl; rfl; rfl; intro bk))
  all_goals try (refine qbody_ret1 (v := .bool _) rfl rfl ⟨ret_false rfl fun h => hc ?_, fun _ h => h.below⟩; first | exact h.1 | exact h.2.1 | exact h.2.2)
  refine qbody_ret1 (v := .bool (decide _)) rfl rfl ⟨ret_iff ⟨fun h => ⟨by assumption, by assumption, h⟩, fun h => h.2.2⟩, fun _ h => h.below⟩
theorem en_i_EqualModuleTrees : Entry Try.prog 66 := ⟨_, Try.func66, by kernel_rfl, rfl⟩
theorem i_EqualModuleTrees_c (sa sb sc ta tb tc : Value) (a b c a' b' c' : List Int) (w : World) (ha : Arr w sa (ints a)) (hb : Arr w sb (ints b)) (hd : Arr w sc (ints c)) (ha' : Arr w ta (ints a')) (hb' : Arr w tb (ints b')) (hd' : Arr w tc (ints c')) :
    Pure Try.prog 66 #[.agg #[sa, sb, sc], .agg #[ta, tb, tc]] w (.bool (decide (a = a' ∧ b = b' ∧ c = c'))) := by
  refine pure_enter (args := [_, _]) en_i_EqualModuleTrees Try.func66 rfl Try.ntmps66 rfl ?_
  repeat' (first | apply pwp_seq | apply pwp_region | (apply px_run; (first | (apply opv_move; first | exact hid_bool rfl) | (apply opv_assign; first | exact hid_bool rfl) | (apply opv_pick_t <;> rfl) | (apply opv_pick_f <;> rfl) | (apply opv_field fld_T0; rfl) | (apply opv_field fld_T1; rfl) | (apply opv_field fld_T2; rfl) | (apply opv_load_blk 0; (first | with_reducible exact sc_ints); rfl; rfl; rfl) | (apply opv_load_blk 1; (first | with_reducible exact sc_ints); rfl; rfl; rfl) | (apply opv_call; rfl; rfl; exact Cl.stable _ _ _; exact fun w hw => x_Equal_c _ _ a a' _ (hw.arr ha) (hw.arr ha')) | (apply opv_call; rfl; rfl; exact Cl.stable _ _ _; exact fun w hw => x_Equal_c _ _ b b' _ (hw.arr hb) (hw.arr hb')) | (apply opv_call; rfl; rfl; exact Cl.stable _ _ _; exact fun w hw => x_Equal_c _ _ c c' _ (hw.arr hd) (hw.arr hd'))); rfl; rfl) | apply px_nil | (apply px_skip; rfl; rfl) | apply qseq_normal | apply pwp_ret | (apply px_guard_dec; rfl; rfl; rfl; all_goals (intro hc; try (first | fail))) | (apply px_box; rfl; rfl; rfl; rfl; intro bk))
  all_goals try (refine qbody_ret1 (v := .bool _) rfl rfl ⟨ret_false rfl fun h => hc ?_, fun _ h => h.below⟩; first | exact h.1 | exact h.2.1 | exact h.2.2)
  refine qbody_ret1 (v := .bool (decide _)) rfl rfl ⟨ret_iff ⟨fun h => ⟨by assumption, by assumption, h⟩, fun h => h.2.2⟩, fun _ h => h.below⟩
end Go.Proofs.Ytaadjebiglihlaa
