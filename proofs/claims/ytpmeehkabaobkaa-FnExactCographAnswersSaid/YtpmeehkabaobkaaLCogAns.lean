/- FnExactCographAnswers holds: for every argument the program's CographAnswers answers as the reference's does, and the arguments read as they did. No condition. -/
import Derived.Test.YtpmeehkabaobkaaLk
import Derived.Test.YtpmeehkabaobkaaCan
import Derived.Test.YtpmeehkabaobkaaMk
namespace Go.Proofs.Ytpmeehkabaobkaa
open Go Go.RowKit Go.Pw Go.ChangeShapes Go.WideShapes Go.ChangeAt
theorem en_l_FnExactCographAnswers : Entry Try.prog 11 := ⟨_, Try.func11, by kernel_rfl, rfl⟩
set_option maxRecDepth 100000 in
set_option maxHeartbeats 4000000 in
theorem FnExactCographAnswers_c (n0 : Int) (sv0 : Value) (r0 : List Int) (w : World) (hr0 : Arr w sv0 (ints r0)) :
    Pure Try.prog 11 #[.agg #[.int .i64 n0, sv0]] w (.bool true) := by
  refine pure_enter (args := [_]) en_l_FnExactCographAnswers Try.func11 rfl Try.ntmps11 rfl ?_
  by_cases hlen0 : r0.length ≤ 1048576
  case neg =>
    have z0 : szI r0.length (1048576) < 0 := szI_neg (by omega)
    repeat' (first | apply pwp_seq | apply pwp_region | (apply px_run; (first | (apply opv_move; first | exact hid_int rfl) | (apply opv_assign; first | exact hid_int rfl | exact hid_bool rfl) | (apply opv_lss <;> rfl) | (apply opv_load_str 0 st_g; rfl; rfl; rfl) | (apply opv_call; rfl; rfl; exact Cl.stable _ _ _; exact fun w hw => szGraph_c _ _ r0 _ _ (by first | exact hw.arr (by assumption)) (by omega))); rfl; rfl) | apply px_nil | apply qseq_normal | apply qseq_ret | apply pwp_ret | (apply pwp_cond_dec; rfl; all_goals (intro hc; try (first | contradiction))) | (apply px_box; rfl; rfl; rfl; rfl; intro bk))
    refine qbody_ret1 (v := .bool _) rfl rfl ⟨rfl, fun _ h => h.below⟩
  have q0 : szI r0.length (1048576) = 1048576 - ((r0.length : Nat) : Int) := by have := szI_val (n := r0.length) (left := 1048576) (by omega); omega
  have hL := cogL_length n0 r0
  repeat' (first | apply pwp_seq | apply pwp_region | (apply px_run; (first | (apply opv_move; first | exact hid_int rfl | exact hid_bool rfl | rfl) | (apply opv_assign; first | exact hid_int rfl | exact hid_bool rfl | rfl) | (apply opv_lss <;> rfl) | (apply opv_neq <;> rfl) | (apply opv_pick_f <;> rfl) | (apply opv_not_dec <;> rfl) | (apply opv_load_str 0 st_G; rfl; rfl; rfl) | (apply opv_load_str 1 st_G; rfl; rfl; rfl) | (apply opv_load_str 2 st_G; rfl; rfl; rfl) | (apply opv_load_str 0 st_g; rfl; rfl; rfl) | (apply opv_load_str 2 st_g; rfl; rfl; rfl) | (apply opv_load_str 5 st_g; rfl; rfl; rfl) | (apply opv_load_str 6 st_g; rfl; rfl; rfl) | (apply opv_extract; rfl; rfl) | (apply opv_call; rfl; rfl; exact Cl.stable _ _ _; exact fun w hw => szGraph_c _ _ r0 _ _ (by first | exact hw.arr (by assumption)) (by omega)) | (apply opv_call; rfl; rfl; exact Cl.stable _ _ _; exact fun w hw => eqGraph_c _ _ _ _ r0 r0 _ (by first | exact hw.rowArr (k := 3) rfl) (by first | exact hw.rowArr (k := 0) rfl)) | (apply opv_call; rfl; rfl; exact Cl.stable _ _ _; exact fun w hw => eqIntS_c _ _ (cogL n0 r0) (cogL n0 r0) _ (by first | exact hw.rowArr (k := 0) rfl | exact hw.rowArr (k := 2) rfl) (by first | exact hw.rowArr (k := 3) rfl | exact hw.rowArr (k := 4) rfl | exact hw.rowArr (k := 6) rfl)) | (apply opv_call; rfl; rfl; exact Cl.stable _ _ _; exact fun w hw => heldIntS_c _ (cogL n0 r0).length _ _ (by first | exact hw.rowArr (k := 0) rfl | exact hw.rowArr (k := 2) rfl) (by omega)) | (apply opv_neq_bool ty_bool <;> rfl)); rfl; rfl) | apply px_nil | apply qseq_normal | apply pwp_skip | apply pwp_ret | (apply pwp_cond_f; rfl) | (apply pwp_region_mix; kernel_rfl; decide +kernel; exact Cl.stable _ _ _) | (apply px_guard_ndec; rfl; rfl; rfl; all_goals (intro hc; try (first | contradiction))) | (apply pwp_cond_ndec; rfl; all_goals (intro hc; try (first | contradiction | (exfalso; simp at hc; done)))) | (apply pwp_cond_dec; rfl; all_goals (intro hc; try (first | (exfalso; omega)))) | (apply pwp_cond_not; rfl; all_goals (intro hc; try (first | (exfalso; simp at hc; done)))) | (apply px_box; rfl; rfl; rfl; rfl; intro bk) | (apply px_alloc st_G; rfl; rfl; rfl; intro bk) | (apply px_store_str 0 st_G; rfl; rfl; rfl; rfl; rfl; (intro w hw; (first | refine all2 rfl ?_ ?_) <;> (first | rfl | exact stor_row 1 hw rfl)); rfl) | (apply px_turns [3]; rfl; rfl; rfl; rfl; rfl; exact fun w ho => markGraph_c _ _ _ _ _ ho (by omega)) | (apply px_turns [2]; rfl; rfl; rfl; rfl; rfl; exact fun w ho => markIntS_c _ _ _ _ ho (by omega)) | (apply px_gives; rfl; rfl; rfl; rfl; rfl; exact fun w hw => s_CographAnswers_c _ _ r0 _ (by first | exact hw.rowArr (k := 0) rfl); rintro _ _ ⟨sw1, rfl, rfl⟩) | (apply px_gives; rfl; rfl; rfl; rfl; rfl; exact fun w hw => i_CographAnswers_c _ _ r0 _ (by first | exact hw.rowArr (k := 0) rfl | exact hw.rowArr (k := 1) rfl); rintro _ _ ⟨sg1, rfl, rfl⟩) | (apply px_gives; rfl; rfl; rfl; rfl; rfl; exact fun w hw => toGraph_c _ _ r0 _ (by first | exact hw.arr (by assumption)) (by omega); rintro _ _ ⟨sy0, rfl, rfl⟩))
  all_goals (refine qbody_ret1 (v := .bool _) rfl rfl ⟨rfl, fun _ h => h.below⟩)
set_option maxRecDepth 100000 in
theorem FnExactCographAnswers_lifted (os : Os) (started : os.Started) (H : Type) (enc : TypeId × Value → H) :
    ReturnsInHanded {} Try.checked os 11 .any (Rows.fnExactCographAnswersSpec.pre6 enc Try.prog Try.f11 Rows.fnExactCographAnswersRow.domain false) (Rows.fnExactCographAnswersSpec.post enc Try.prog Try.f11 false true false false) := by
  refine returnsInHanded_of_change (C := Try.checked) own started (by kernel_rfl) Try.func11
    (ChangeSpec.witness6 (enc := enc) (C := Try.checked) false ⟨#[], #[.agg #[.int .i64 0, .slice none 0 0]], []⟩ 8 (by kernel_rfl) (by kernel_rfl) (by kernel_rfl) (by kernel_rfl)) ?_
  intro W base args ds gs before hval0 hW hcnd _
  have hval : ∀ (j : Nat) t v, Try.f11.params[j]? = some t → args[j]? = some v → Value.okWide Try.prog W .any base t v := hval0
  have hW' := hW
  obtain ⟨p, q, hA0, hV, rfl, hfz, hnd⟩ := hW
  have hA : DataW.TrodAll enc Try.prog W 0 (fun _ => true) true Try.f11.params.toList args.toList ds p := hA0
  rw [Try.params11] at hA hval
  obtain ⟨v0, d0, rfl, rfl, h0⟩ := trodAll_one hA
  obtain ⟨rfl, rfl⟩ := trodVars_none hV
  obtain ⟨n0, sv0, r0, rfl, hr0, hn0, hl0⟩ := read_graph (t := 24) Try.underlying24 (by kernel_rfl) (by kernel_rfl) rfl rfl Try.underlying3 Try.underlying22 Try.underlying3 (by kernel_rfl) (hval 0 _ _ rfl rfl) h0
  exact law_calls (tb := 4) laidOut rfl hW' (by rw [Try.params11]; decide +kernel) (by kernel_rfl) (by kernel_rfl) rfl (FnExactCographAnswers_c n0 sv0 r0 W hr0)
theorem FnExactCographAnswers_holds : Rows.FnExactCographAnswersSaid :=
  OpenClaim.holds_of_wide 11 Try.f11 rfl rfl rfl rfl rfl rfl rfl ⟨rfl, rfl, rfl, rfl, rfl⟩ rfl rfl rfl rfl rfl (by kernel_rfl) Try.func11 (by kernel_rfl)
    (of_decide_eq_true (by kernel_rfl)) (by unfold Func.isWrapper; first | (rw [if_pos (by decide +kernel)]; kernel_rfl) | (rw [if_neg (by decide +kernel)]; exact ⟨rfl, rfl⟩))
    (fun os started H enc _ => FnExactCographAnswers_lifted os started H enc)
end Go.Proofs.Ytpmeehkabaobkaa
