/- The laws' helpers for orientations. -/
import Derived.Test.YtpmeehkabaobkaaMk
import Derived.Test.YtpmeehkabaobkaaOr
namespace Go.Proofs.Ytpmeehkabaobkaa
open Go Go.RowKit Go.Pw
theorem en_l_eqOrientation : Entry Try.prog 34 := ⟨_, Try.func34, by kernel_rfl, rfl⟩
theorem eqOrientation_c (sa sb : Value) (a b : List Int) (w : World) (ha : Arr w sa (ints a)) (hb : Arr w sb (ints b)) :
    Pure Try.prog 34 #[.agg #[sa], .agg #[sb]] w (.bool (decide (a = b))) := by
  refine pure_enter (args := [_, _]) en_l_eqOrientation Try.func34 rfl Try.ntmps34 rfl ?_
  repeat' (first | apply pwp_seq | apply pwp_region | (apply px_run; (first | (apply opv_assign; first | exact hid_bool rfl) | (apply opv_not_dec <;> rfl) | (apply opv_field fld_O0; rfl) | (apply opv_load_blk 0; (first | with_reducible exact sc_ints); rfl; rfl; rfl) | (apply opv_load_blk 1; (first | with_reducible exact sc_ints); rfl; rfl; rfl) | (apply opv_call; rfl; rfl; exact Cl.stable _ _ _; exact fun w hw => eqIntS_c _ _ a b _ (by first | exact hw.arr (by assumption)) (by first | exact hw.arr (by assumption)))); rfl; rfl) | apply px_nil | apply qseq_normal | apply qseq_ret | apply pwp_skip | apply pwp_ret | (apply pwp_cond_ndec; rfl; all_goals (intro hc; try (first | fail))) | (apply px_box; rfl; rfl; rfl; rfl; intro bk))
  · refine qbody_ret1 (v := .bool _) rfl rfl ⟨ret_false rfl hc, fun _ h => h.below⟩
  · refine qbody_ret1 (v := .bool _) rfl rfl ⟨ret_true rfl hc, fun _ h => h.below⟩
theorem en_l_markOrientation : Entry Try.prog 35 := ⟨_, Try.func35, by kernel_rfl, rfl⟩
theorem markOrientation_c (sv : Value) (l : List Int) (k : Int) (w : World) (ho : Own w [.row 3 sv (ints l)]) (hk : 0 ≤ k ∧ k + l.length ≤ 9223372036854775807) :
    Turns Try.prog 35 #[.agg #[sv], .int .i64 k] w [.row 3 sv (ints l)] [.row 3 sv (ints (upfrom k l.length))] (.int .i64 (k + l.length)) := by
  refine turns_enter (args := [_, _]) ho en_l_markOrientation Try.func35 rfl Try.ntmps35 rfl fun X => ?_
  repeat' (first | apply pwp_seq | apply pwp_region | (apply px_run; (first | (apply opv_move; first | exact hid_int rfl) | (apply opv_assign; first | exact hid_int rfl) | (apply opv_field fld_O0; rfl) | (apply opv_load_blk 0; (first | with_reducible exact sc_ints); rfl; rfl; rfl)); rfl; rfl) | apply px_nil | apply qseq_normal | apply pwp_ret | (apply px_box; rfl; rfl; rfl; rfl; intro bk) | (apply px_turns [1]; rfl; rfl; rfl; rfl; rfl; exact fun w ho => markIntS_c _ _ _ _ ho hk))
  refine qbody_ret1 (v := .int _ _) rfl rfl ⟨rfl, fun w' h => ?_⟩
  exact Cl.sub (by assumption) (by repeat (first | exact List.Sublist.slnil | exact List.Sublist.refl _ | apply List.Sublist.cons_cons | exact List.sublist_append_left _ _ | exact List.sublist_append_right _ _ | apply List.Sublist.cons))
theorem en_l_heldOrientation : Entry Try.prog 36 := ⟨_, Try.func36, by kernel_rfl, rfl⟩
theorem heldOrientation_c (sv : Value) (n : Nat) (k : Int) (w : World) (hr : Arr w sv (ints (upfrom k n))) (hk : 0 ≤ k ∧ k + n ≤ 9223372036854775807) :
    Pure Try.prog 36 #[.agg #[sv], .int .i64 k] w (.int .i64 (k + n)) := by
  refine pure_enter (args := [_, _]) en_l_heldOrientation Try.func36 rfl Try.ntmps36 rfl ?_
  repeat' (first | apply pwp_seq | apply pwp_region | (apply px_run; (first | (apply opv_move; first | exact hid_int rfl) | (apply opv_assign; first | exact hid_int rfl) | (apply opv_lss <;> rfl) | (apply opv_field fld_O0; rfl) | (apply opv_load_blk 0; (first | with_reducible exact sc_ints); rfl; rfl; rfl) | (apply opv_call; rfl; rfl; exact Cl.stable _ _ _; exact fun w hw => heldIntS_c _ n _ _ (by first | exact hw.arr (by assumption)) hk)); rfl; rfl) | apply px_nil | apply qseq_normal | apply pwp_skip | apply pwp_ret | (apply pwp_cond_dec; rfl; all_goals (intro hc; try (first | (exfalso; omega)))) | (apply px_box; rfl; rfl; rfl; rfl; intro bk))
  refine qbody_ret1 (v := .int _ _) rfl rfl ⟨rfl, fun _ h => h.below⟩
end Go.Proofs.Ytpmeehkabaobkaa
