/- Cliques, splits, edges, counts. -/
import Derived.Test.YtoejpckfeflkaaaGreatDoorGs
import Derived.Test.YtoejpckfeflkaaaGreatDoorPwPlc
import Derived.Test.YtoejpckfeflkaaaGreatDoorPwFun
namespace Go.Proofs.YtoejpckfeflkaaaGreatDoor
open Go Go.RowKit Go.Pw

theorem en_i_CountSet : Entry Tryz.prog 32 := ⟨_, Tryz.func32, by kernel_rfl, rfl⟩
theorem i_CountSet_c (s : Int) (w : World) : Pure Tryz.prog 32 #[.int .i64 s] w (.int .i64 (cntS s)) := by
  refine pure_enter (args := [_]) en_i_CountSet Tryz.func32 rfl Tryz.ntmps32 rfl ?_
  repeat' (first | apply pwp_seq | apply pwp_region | (apply px_run; (first | (apply opv_move; first | exact hid_int rfl) | (apply opv_assign; first | exact hid_int rfl) | (apply opv_len_ints el_int; rfl; (first | exact rd_row 0 rfl))); rfl; rfl) | apply px_nil | apply qseq_normal | apply pwp_ret | (apply px_gives; rfl; rfl; rfl; rfl; rfl; exact fun w hw => i_ListOf_c _ _; rintro sl _ rfl))
  refine qbody_ret1 (v := .int _ _) rfl rfl ⟨rfl, fun _ h => h.below⟩
theorem en_s_CountSet : Entry Tryz.prog 35 := ⟨_, Tryz.func35, by kernel_rfl, rfl⟩
theorem s_CountSet_c (s : Int) (w : World) : Pure Tryz.prog 35 #[.int .i64 s] w (.int .i64 (cntS s)) := by
  refine pure_enter (args := [_]) en_s_CountSet Tryz.func35 rfl Tryz.ntmps35 rfl ?_
  repeat' (first | apply pwp_seq | apply pwp_region | (apply px_run; (first | (apply opv_move; first | exact hid_int rfl) | (apply opv_assign; first | exact hid_int rfl) | (apply opv_len_ints el_int; rfl; (first | exact rd_row 0 rfl))); rfl; rfl) | apply px_nil | apply qseq_normal | apply pwp_ret | (apply px_gives; rfl; rfl; rfl; rfl; rfl; exact fun w hw => s_ListOf_c _ _; rintro sl _ rfl))
  refine qbody_ret1 (v := .int _ _) rfl rfl ⟨rfl, fun _ h => h.below⟩
end Go.Proofs.YtoejpckfeflkaaaGreatDoor
