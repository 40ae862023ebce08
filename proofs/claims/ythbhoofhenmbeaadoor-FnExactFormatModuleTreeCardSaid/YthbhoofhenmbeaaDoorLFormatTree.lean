/- FnExactFormatModuleTree holds: for every argument the program's FormatModuleTree answers as the reference's does, and the argument reads as it did. No condition; the row lists three package-level tables, tied to the program's text. -/
import Derived.Test.YthbhoofhenmbeaaDoorLk
import Derived.Test.YthbhoofhenmbeaaDoorMf
import Derived.Test.YthbhoofhenmbeaaDoorTr
import Derived.Test.YthbhoofhenmbeaaDoorTie
import Derived.Test.YthbhoofhenmbeaaDoorCards
import Derived.LaidMore
import Derived.Stop.Joined
namespace Go.Proofs.YthbhoofhenmbeaaDoor
open Go Go.RowKit Go.Pw Go.ChangeShapes Go.WideShapes Go.ChangeAt
theorem en_l_FnExactFormatModuleTree : Entry Tryd.prog 3 := ⟨_, Tryd.func3, by kernel_rfl, rfl⟩
set_option maxRecDepth 100000 in
set_option maxHeartbeats 4000000 in
theorem FnExactFormatModuleTree_c (sa0 sb0 sc0 : Value) (a0 b0 c0 : List Int) (w : World) (ha0 : Arr w sa0 (ints a0)) (hb0 : Arr w sb0 (ints b0)) (hd0 : Arr w sc0 (ints c0)) :
    Pure Tryd.prog 3 #[.agg #[sa0, sb0, sc0]] w (.bool true) := by
  refine pure_enter (args := [_]) en_l_FnExactFormatModuleTree Tryd.func3 rfl Tryd.ntmps3 rfl ?_
  by_cases hlen0 : (a0.length + b0.length + c0.length) ≤ 1048576
  case neg =>
    have z0 : szI (a0.length + b0.length + c0.length) (1048576) < 0 := szI_neg (by omega)
    repeat' (first | apply pwp_seq | apply pwp_region | (apply px_run; (first | (apply opv_move; first | exact hid_int rfl) | (apply opv_assign; first | exact hid_int rfl | exact hid_bool rfl) | (apply opv_lss <;> rfl) | (apply opv_load_str 0 st_t; rfl; rfl; rfl) | (apply opv_call; rfl; rfl; exact Cl.stable _ _ _; exact fun w hw => szModuleTree_c _ _ _ a0 b0 c0 _ _ (by first | exact hw.arr (by assumption)) (by first | exact hw.arr (by assumption)) (by first | exact hw.arr (by assumption)) (by omega))); rfl; rfl) | apply px_nil | apply qseq_normal | apply qseq_ret | apply pwp_ret | (apply pwp_cond_dec; rfl; all_goals (intro hc; try (first | contradiction))) | (apply px_box; rfl; rfl; rfl; rfl; intro bk))
    refine qbody_ret1 (v := .bool _) rfl rfl ⟨rfl, fun _ h => h.below⟩
  have q0 : szI (a0.length + b0.length + c0.length) (1048576) = 1048576 - (((a0.length + b0.length + c0.length) : Nat) : Int) := by have := szI_val (n := (a0.length + b0.length + c0.length)) (left := 1048576) (by omega); omega
  repeat' (first | apply pwp_seq | apply pwp_region | (apply px_run; (first | (apply opv_neq_s_r; rfl; rfl; exact beq_self_eq_true _) | (apply opv_move; first | exact hid_int rfl | rfl) | (apply opv_assign; first | exact hid_int rfl | exact hid_bool rfl | rfl) | (apply opv_lss <;> rfl) | (apply opv_not_dec <;> rfl) | (apply opv_load_str 0 st_T; rfl; rfl; rfl) | (apply opv_load_str 0 st_t; rfl; rfl; rfl) | (apply opv_load_str 3 st_t; rfl; rfl; rfl) | (apply opv_load_str 7 st_t; rfl; rfl; rfl) | (apply opv_call; rfl; rfl; exact Cl.stable _ _ _; exact fun w hw => szModuleTree_c _ _ _ a0 b0 c0 _ _ (by first | exact hw.arr (by assumption)) (by first | exact hw.arr (by assumption)) (by first | exact hw.arr (by assumption)) (by omega)) | (apply opv_call; rfl; rfl; exact Cl.stable _ _ _; exact fun w hw => s_FormatModuleTree_c _ _ _ a0 b0 c0 _ (by first | exact hw.rowArr (k := 0) rfl) (by first | exact hw.rowArr (k := 1) rfl) (by first | exact hw.rowArr (k := 2) rfl)) | (apply opv_call; rfl; rfl; exact Cl.stable _ _ _; exact fun w hw => i_FormatModuleTree_c _ _ _ a0 b0 c0 _ (by first | exact hw.rowArr (k := 1) rfl) (by first | exact hw.rowArr (k := 2) rfl) (by first | exact hw.rowArr (k := 3) rfl)) | (apply opv_call; rfl; rfl; exact Cl.stable _ _ _; exact fun w hw => eqModuleTree_c _ _ _ _ _ _ a0 b0 c0 a0 b0 c0 _ (by first | exact hw.rowArr (k := 4) rfl) (by first | exact hw.rowArr (k := 5) rfl) (by first | exact hw.rowArr (k := 6) rfl) (by first | exact hw.rowArr (k := 0) rfl) (by first | exact hw.rowArr (k := 1) rfl) (by first | exact hw.rowArr (k := 2) rfl))); rfl; rfl) | apply px_nil | apply qseq_normal | apply pwp_skip | apply pwp_ret | (apply pwp_cond_f; rfl) | (apply pwp_region_mix; kernel_rfl; decide +kernel; exact Cl.stable _ _ _) | (apply pwp_cond_ndec; rfl; all_goals (intro hc; try (first | (exfalso; simp at hc; done)))) | (apply pwp_cond_dec; rfl; all_goals (intro hc; try (first | (exfalso; omega)))) | (apply px_box; rfl; rfl; rfl; rfl; intro bk) | (apply px_alloc st_T; rfl; rfl; rfl; intro bk) | (apply px_store_str 0 st_T; rfl; rfl; rfl; rfl; rfl; (intro w hw; (first | refine all3 rfl ?_ ?_ ?_) <;> (first | exact stor_row 1 hw rfl | exact stor_row 2 hw rfl | exact stor_row 3 hw rfl)); rfl) | (apply px_gives; rfl; rfl; rfl; rfl; rfl; exact fun w hw => toModuleTree_c _ _ _ a0 b0 c0 _ (by first | exact hw.arr (by assumption)) (by first | exact hw.arr (by assumption)) (by first | exact hw.arr (by assumption)) (by omega); rintro _ _ ⟨ta0, tb0, tc0, rfl, rfl⟩))
  all_goals (refine qbody_ret1 (v := .bool _) rfl rfl ⟨rfl, fun _ h => h.below⟩)
theorem FnExactFormatModuleTree_met (os : Os) (args : Array Value) : laidMetH Tryd.prog Rows.fnExactFormatModuleTreeRow.laid ((World.doorLaid Tryd.prog 400 os).forCall (fun _ _ => 0) ⟨#[], args, []⟩).memory :=
  laidMetH_of_parts3 (fuel := 8) (laidMet_of_run' 8 (by kernel_rfl) (by kernel_rfl)) (by kernel_rfl) (by kernel_rfl)
set_option maxRecDepth 100000 in
theorem FnExactFormatModuleTree_lifted (os : Os) (started : os.Started) (H : Type) (enc : TypeId × Value → H) :
    ReturnsInHanded {} Tryd.checked os 3 .any (fun w args => (Rows.fnExactFormatModuleTreeSpec.pre enc Tryd.prog Tryd.f3 [] false w args ∧ laidMetH Tryd.prog Rows.fnExactFormatModuleTreeRow.laid w) ∧ sizedMet enc Tryd.prog Tryd.f3 (OpenSpec.ofChange Rows.fnExactFormatModuleTreeSpec) false w args)
      (Rows.fnExactFormatModuleTreeSpec.post enc Tryd.prog Tryd.f3 false true false false) := by
  refine returnsInHanded_of_change_and (C := Tryd.checked) (X := fun w _ => laidMetH Tryd.prog Rows.fnExactFormatModuleTreeRow.laid w) (fun _ _ _ hh h => h.of_heap hh) own started (by kernel_rfl) Tryd.func3
    (ChangeSpec.witness_shaped (enc := enc) (C := Tryd.checked) (os := os) (X := fun w _ => laidMetH Tryd.prog Rows.fnExactFormatModuleTreeRow.laid w) false (World.doorLaid Tryd.prog 400 os) #[.agg #[.slice none 0 0, .slice none 0 0, .slice none 0 0]] 8 rfl (World.shaped_of_RefB (by kernel_rfl) (by kernel_rfl)) (by kernel_rfl) (by kernel_rfl) (by kernel_rfl) (FnExactFormatModuleTree_met os _)) ?_
  intro W base args ds gs before hval0 hW _ _ hL _
  have hval : ∀ (j : Nat) t v, Tryd.f3.params[j]? = some t → args[j]? = some v → Value.okWide Tryd.prog W .any base t v := hval0
  have hW' := hW
  obtain ⟨p, q, hA0, hV, rfl, hfz, hnd⟩ := hW
  have hA : DataW.TrodAll enc Tryd.prog W 0 (fun _ => true) true Tryd.f3.params.toList args.toList ds p := hA0
  rw [Tryd.params3] at hA hval
  obtain ⟨v0, d0, rfl, rfl, h0⟩ := trodAll_one hA
  obtain ⟨rfl, rfl⟩ := trodVars_none hV
  obtain ⟨sa0, sb0, sc0, a0, b0, c0, rfl, ha0, hb0, hc0, la0, lb0, lc0⟩ := read_three (t := 24) Tryd.underlying24 (by kernel_rfl) (by kernel_rfl) rfl rfl rfl Tryd.underlying22 Tryd.underlying3 (by kernel_rfl) (hval 0 _ _ rfl rfl) h0
  exact law_calls (tb := 4) laidOut rfl hW' (by rw [Tryd.params3]; decide +kernel) (by kernel_rfl) (by kernel_rfl) rfl (FnExactFormatModuleTree_c sa0 sb0 sc0 a0 b0 c0 W ha0 hb0 hc0)
theorem FnExactFormatModuleTree_row : Rows.FnExactFormatModuleTreeSaid :=
  OpenClaim.holds_of_wide 3 Tryd.f3 rfl rfl rfl rfl rfl rfl rfl ⟨rfl, rfl, rfl, rfl, rfl⟩ rfl rfl rfl rfl rfl (by kernel_rfl) Tryd.func3 (by kernel_rfl)
    (of_decide_eq_true (by kernel_rfl)) (by unfold Func.isWrapper; first | (rw [if_pos (by decide +kernel)]; kernel_rfl) | (rw [if_neg (by decide +kernel)]; exact ⟨rfl, rfl⟩))
    (fun os started H enc _ => FnExactFormatModuleTree_lifted os started H enc)
theorem FnExactFormatModuleTreeCard_holds : Rows.FnExactFormatModuleTreeCardSaid :=
  Claim7.holds_tied_plain_at .later [] [.data, .data, .data] true (true, "458133ab283c2875ac33dcf8e3a0c2388f741393c4d6fafea26dc712cda19871") false
    FnExactFormatModuleTree_row (fun _ h => by cases h) (by kernel_rfl) (fun _ h => by cases h) fnExactFormatModuleTree_row_tie rfl ⟨rfl, rfl⟩ (by kernel_rfl) rfl
    (fun g gn hf hfn => by
      obtain rfl : g = 3 := Option.some.inj ((show Tryd.prog.funcNamed "loop.example/g02081/laws.FnExactFormatModuleTree" = some 3 by kernel_rfl).symm.trans hf) |>.symm
      obtain rfl : gn = Tryd.f3 := (Option.some.inj (Tryd.func3.symm.trans hfn)).symm
      exact ⟨by kernel_rfl, fun j t ht => by
        have hall : (Tryd.f3.params.toList.all fun u => !Tryd.prog.wantsStandIn u) = true := by kernel_rfl
        have hm : t ∈ Tryd.f3.params.toList := by simpa using Array.mem_of_getElem? ht
        exact (show Tryd.prog.wantsStandIn t = false by simpa using List.all_eq_true.1 hall t hm)⟩)
    (by kernel_rfl)
end Go.Proofs.YthbhoofhenmbeaaDoor
