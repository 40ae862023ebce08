/- Slices copied and turned round. -/
import Derived.Test.YtmmflnigejfplaaGreatFacts
import Derived.Test.YtmmflnigejfplaaGreatPwBool
namespace Go.Proofs.YtmmflnigejfplaaGreat
open Go Go.RowKit Go.Pw

theorem en_x_slices_Clone_int_int : Entry Tryz.prog 37 := ⟨_, Tryz.func37, by kernel_rfl, rfl⟩
theorem x_Clone_c (sv : Value) (l : List Int) (w : World) (hr : Arr w sv (ints l)) (hlen : l.length ≤ 1048576) :
    Gives Tryz.prog 37 #[sv] w (fun v objs => objs = [.row 3 v (ints l)]) := by
  refine gives_enter (args := [_]) en_x_slices_Clone_int_int Tryz.func37 rfl Tryz.ntmps37 rfl ?_
  repeat' (first | apply pwp_seq | apply pwp_region | (apply px_run; (first | (apply opv_move; first | rfl) | (apply opv_assign; first | rfl) | (apply opv_eql_nil el_int; rfl; rfl; (first | exact rd_old (by assumption)))); rfl; rfl) | apply px_nil | apply qseq_normal | apply qseq_ret | apply pwp_skip | apply pwp_ret | (apply pwp_cond; rfl; all_goals (intro hc; try (first | fail))) | (apply px_lit0 ez_int; rfl; rfl; rfl; intro sv) | (apply px_append 0 ez_int; rfl; rfl; rfl; (first | exact rd_old (by assumption)); (first | exact fun _ _ => stor_ints); (simp [ints]; omega); decide; rfl; rfl; intro sv))
  · refine qbody_ret1 rfl rfl ⟨_, rfl, fun w' h => ?_⟩
    have := nil_arr hr hc
    rw [this]; exact h.nilRow _
  · refine qbody_ret1 rfl rfl ⟨_, rfl, fun w' h => ?_⟩
    exact Cl.sub (by assumption) (by repeat (first | exact List.Sublist.slnil | exact List.Sublist.refl _ | apply List.Sublist.cons_cons | exact List.sublist_append_left _ _ | exact List.sublist_append_right _ _ | apply List.Sublist.cons))
end Go.Proofs.YtmmflnigejfplaaGreat
