/- Cliques, splits, edges, counts. -/
import Derived.Test.YthbhoofhenmbeaaDoorGs
import Derived.Test.YthbhoofhenmbeaaDoorPwPlc
import Derived.Test.YthbhoofhenmbeaaDoorPwFun
namespace Go.Proofs.YthbhoofhenmbeaaDoor
open Go Go.RowKit Go.Pw

theorem en_i_CountSet : Entry Tryd.prog 37 := ⟨_, Tryd.func37, by kernel_rfl, rfl⟩
theorem i_CountSet_c (s : Int) (w : World) : Pure Tryd.prog 37 #[.int .i64 s] w (.int .i64 (cntS s)) := by
  refine pure_enter (args := [_]) en_i_CountSet Tryd.func37 rfl Tryd.ntmps37 rfl ?_
  repeat' (first | apply pwp_seq | apply pwp_region | (apply px_run; (first | (apply opv_move; first | exact hid_int rfl) | (apply opv_assign; first | exact hid_int rfl) | (apply opv_len_ints el_int; rfl; (first | exact rd_row 0 rfl))); rfl; rfl) | apply px_nil | apply qseq_normal | apply pwp_ret | (apply px_gives; rfl; rfl; rfl; rfl; rfl; exact fun w hw => i_ListOf_c _ _; rintro sl _ rfl))
  refine qbody_ret1 (v := .int _ _) rfl rfl ⟨rfl, fun _ h => h.below⟩
theorem en_s_CountSet : Entry Tryd.prog 54 := ⟨_, Tryd.func54, by kernel_rfl, rfl⟩
theorem s_CountSet_c (s : Int) (w : World) : Pure Tryd.prog 54 #[.int .i64 s] w (.int .i64 (cntS s)) := by
  refine pure_enter (args := [_]) en_s_CountSet Tryd.func54 rfl Tryd.ntmps54 rfl ?_
  repeat' (first | apply pwp_seq | apply pwp_region | (apply px_run; (first | (apply opv_move; first | exact hid_int rfl) | (apply opv_assign; first | exact hid_int rfl) | (apply opv_len_ints el_int; rfl; (first | exact rd_row 0 rfl))); rfl; rfl) | apply px_nil | apply qseq_normal | apply pwp_ret | (apply px_gives; rfl; rfl; rfl; rfl; rfl; exact fun w hw => s_ListOf_c _ _; rintro sl _ rfl))
  refine qbody_ret1 (v := .int _ _) rfl rfl ⟨rfl, fun _ h => h.below⟩
end Go.Proofs.YthbhoofhenmbeaaDoor
