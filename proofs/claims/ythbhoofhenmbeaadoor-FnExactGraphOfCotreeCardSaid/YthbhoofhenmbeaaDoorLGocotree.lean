/- FnExactGraphOfCotree holds: for every text the program's GraphOfCotree answers as the reference's does, the text reads as it did, and what it hands back is its own. No condition; the row lists three package-level tables, tied to the program's text. -/
import Derived.Test.YthbhoofhenmbeaaDoorLk
import Derived.Test.YthbhoofhenmbeaaDoorRg
import Derived.Test.YthbhoofhenmbeaaDoorMk
import Derived.Test.YthbhoofhenmbeaaDoorTie
import Derived.Test.YthbhoofhenmbeaaDoorCards
import Derived.Test.YthbhoofhenmbeaaDoorPwStrA
import Derived.LaidMore
import Derived.Stop.Joined
namespace Go.Proofs.YthbhoofhenmbeaaDoor
open Go Go.RowKit Go.Pw Go.ChangeShapes Go.WideShapes Go.ChangeAt
theorem en_l_FnExactGraphOfCotree : Entry Tryd.prog 5 := ⟨_, Tryd.func5, by kernel_rfl, rfl⟩
set_option maxRecDepth 100000 in
set_option maxHeartbeats 4000000 in
theorem FnExactGraphOfCotree_c (s0 : ByteArray) (w : World)  :
    Pure Tryd.prog 5 #[.string s0] w (.bool true) := by
  refine pure_enter (args := [_]) en_l_FnExactGraphOfCotree Tryd.func5 rfl Tryd.ntmps5 rfl ?_
  by_cases hlen0 : s0.size ≤ 1048576
  case neg =>
    repeat' (first | apply pwp_seq | apply pwp_region | (apply px_run; (first | (apply opv_len_str ty_str; rfl) | (apply opv_move; first | rfl) | (apply opv_assign; first | exact hid_bool rfl) | (apply opv_gtr <;> rfl)); rfl; rfl) | apply px_nil | apply qseq_normal | apply qseq_ret | apply pwp_ret | (apply pwp_cond_dec; rfl; all_goals (intro hc; try (first | (exfalso; omega)))))
    refine qbody_ret1 (v := .bool _) rfl rfl ⟨rfl, fun _ h => h.below⟩
  have hL := gocL_length s0
  repeat' (first | apply pwp_seq | apply pwp_region | (apply px_run; (first | (apply opv_len_str ty_str; rfl) | (apply opv_move; first | exact hid_int rfl | exact hid_bool rfl | rfl) | (apply opv_assign; first | exact hid_int rfl | exact hid_bool rfl) | (apply opv_lss <;> rfl) | (apply opv_gtr <;> rfl) | (apply opv_neq <;> rfl) | (apply opv_pick_f <;> rfl) | (apply opv_not_dec <;> rfl) | (apply opv_load_str 0 st_G; rfl; rfl; rfl) | (apply opv_load_str 1 st_G; rfl; rfl; rfl) | (apply opv_load_str 2 st_G; rfl; rfl; rfl) | (apply opv_load_str 3 st_G; rfl; rfl; rfl) | (apply opv_load_str 4 st_G; rfl; rfl; rfl) | (apply opv_extract; rfl; rfl) | (apply opv_call; rfl; rfl; exact Cl.stable _ _ _; exact fun w hw => eqGraph_c _ _ _ _ (gocL s0) (gocL s0) _ (by first | exact hw.rowArr (k := 1) rfl) (by first | exact hw.rowArr (k := 3) rfl | exact hw.rowArr (k := 5) rfl)) | (apply opv_call; rfl; rfl; exact Cl.stable _ _ _; exact fun w hw => heldGraph_c _ _ (gocL s0).length _ _ (by first | exact hw.rowArr (k := 0) rfl | exact hw.rowArr (k := 2) rfl) (by omega)) | (apply opv_neq_bool ty_bool <;> rfl)); rfl; rfl) | apply px_nil | apply qseq_normal | apply pwp_skip | apply pwp_ret | (apply pwp_cond_f; rfl) | (apply px_guard_ndec; rfl; rfl; rfl; all_goals (intro hc; try (first | contradiction | (exfalso; simp at hc; done)))) | (apply pwp_cond_ndec; rfl; all_goals (intro hc; try (first | contradiction))) | (apply pwp_cond_dec; rfl; all_goals (intro hc; try (first | (exfalso; omega)))) | (apply pwp_cond_not; rfl; all_goals (intro hc; try (first | (exfalso; simp at hc; done)))) | (apply px_alloc st_G; rfl; rfl; rfl; intro bk) | (apply px_store_str 0 st_G; rfl; rfl; rfl; rfl; rfl; (intro w hw; (first | refine all2 rfl ?_ ?_) <;> (first | rfl | exact stor_row 1 hw rfl)); rfl) | (apply px_turns [1]; rfl; rfl; rfl; rfl; rfl; exact fun w ho => markGraph_c _ _ _ _ _ ho (by omega)) | (apply px_gives; rfl; rfl; rfl; rfl; rfl; exact fun w hw => s_GraphOfCotree2_c s0 _ hlen0; rintro _ _ ⟨sw, rfl, rfl⟩) | (apply px_gives; rfl; rfl; rfl; rfl; rfl; exact fun w hw => i_GraphOfCotree_c s0 _; rintro _ _ ⟨sg, rfl, rfl⟩))
  all_goals (refine qbody_ret1 (v := .bool _) rfl rfl ⟨rfl, fun _ h => h.below⟩)
theorem FnExactGraphOfCotree_met (os : Os) (args : Array Value) : laidMetH Tryd.prog Rows.fnExactGraphOfCotreeRow.laid ((World.doorLaid Tryd.prog 400 os).forCall (fun _ _ => 0) ⟨#[], args, []⟩).memory :=
  laidMetH_of_parts3 (fuel := 8) (laidMet_of_run' 8 (by kernel_rfl) (by kernel_rfl)) (by kernel_rfl) (by kernel_rfl)
set_option maxRecDepth 100000 in
theorem FnExactGraphOfCotree_lifted (os : Os) (started : os.Started) (H : Type) (enc : TypeId × Value → H) :
    ReturnsInHanded {} Tryd.checked os 5 .any (fun w args => (Rows.fnExactGraphOfCotreeSpec.pre enc Tryd.prog Tryd.f5 [] false w args ∧ laidMetH Tryd.prog Rows.fnExactGraphOfCotreeRow.laid w) ∧ sizedMet enc Tryd.prog Tryd.f5 (OpenSpec.ofChange Rows.fnExactGraphOfCotreeSpec) false w args)
      (Rows.fnExactGraphOfCotreeSpec.post enc Tryd.prog Tryd.f5 false true false false) := by
  refine returnsInHanded_of_change_and (C := Tryd.checked) (X := fun w _ => laidMetH Tryd.prog Rows.fnExactGraphOfCotreeRow.laid w) (fun _ _ _ hh h => h.of_heap hh) own started (by kernel_rfl) Tryd.func5
    (ChangeSpec.witness_shaped (enc := enc) (C := Tryd.checked) (os := os) (X := fun w _ => laidMetH Tryd.prog Rows.fnExactGraphOfCotreeRow.laid w) false (World.doorLaid Tryd.prog 400 os) #[.string ByteArray.empty] 8 rfl (World.shaped_of_RefB (by kernel_rfl) (by kernel_rfl)) (by kernel_rfl) (by kernel_rfl) (by kernel_rfl) (FnExactGraphOfCotree_met os _)) ?_
  intro W base args ds gs before hval0 hW _ _ hL _
  have hval : ∀ (j : Nat) t v, Tryd.f5.params[j]? = some t → args[j]? = some v → Value.okWide Tryd.prog W .any base t v := hval0
  have hW' := hW
  obtain ⟨p, q, hA0, hV, rfl, hfz, hnd⟩ := hW
  have hA : DataW.TrodAll enc Tryd.prog W 0 (fun _ => true) true Tryd.f5.params.toList args.toList ds p := hA0
  rw [Tryd.params5] at hA hval
  obtain ⟨v0, d0, rfl, rfl, h0⟩ := trodAll_one hA
  obtain ⟨rfl, rfl⟩ := trodVars_none hV
  obtain ⟨s0, rfl⟩ := read_str Tryd.underlying9 (hval 0 _ _ rfl rfl) h0
  exact law_calls (tb := 4) laidOut rfl hW' (by rw [Tryd.params5]; decide +kernel) (by kernel_rfl) (by kernel_rfl) rfl (FnExactGraphOfCotree_c s0 W )
theorem FnExactGraphOfCotree_row : Rows.FnExactGraphOfCotreeSaid :=
  OpenClaim.holds_of_wide 5 Tryd.f5 rfl rfl rfl rfl rfl rfl rfl ⟨rfl, rfl, rfl, rfl, rfl⟩ rfl rfl rfl rfl rfl (by kernel_rfl) Tryd.func5 (by kernel_rfl)
    (of_decide_eq_true (by kernel_rfl)) (by unfold Func.isWrapper; first | (rw [if_pos (by decide +kernel)]; kernel_rfl) | (rw [if_neg (by decide +kernel)]; exact ⟨rfl, rfl⟩))
    (fun os started H enc _ => FnExactGraphOfCotree_lifted os started H enc)
theorem FnExactGraphOfCotreeCard_holds : Rows.FnExactGraphOfCotreeCardSaid :=
  Claim7.holds_tied_plain_at .later [] [.data, .data, .data] true (true, "458133ab283c2875ac33dcf8e3a0c2388f741393c4d6fafea26dc712cda19871") false
    FnExactGraphOfCotree_row (fun _ h => by cases h) (by kernel_rfl) (fun _ h => by cases h) fnExactGraphOfCotree_row_tie rfl ⟨rfl, rfl⟩ (by kernel_rfl) rfl
    (fun g gn hf hfn => by
      obtain rfl : g = 5 := Option.some.inj ((show Tryd.prog.funcNamed "loop.example/g02081/laws.FnExactGraphOfCotree" = some 5 by kernel_rfl).symm.trans hf) |>.symm
      obtain rfl : gn = Tryd.f5 := (Option.some.inj (Tryd.func5.symm.trans hfn)).symm
      exact ⟨by kernel_rfl, fun j t ht => by
        have hall : (Tryd.f5.params.toList.all fun u => !Tryd.prog.wantsStandIn u) = true := by kernel_rfl
        have hm : t ∈ Tryd.f5.params.toList := by simpa using Array.mem_of_getElem? ht
        exact (show Tryd.prog.wantsStandIn t = false by simpa using List.all_eq_true.1 hall t hm)⟩)
    (by kernel_rfl)
end Go.Proofs.YthbhoofhenmbeaaDoor
