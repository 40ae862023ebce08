/- Cliques, splits, edges, counts. -/
import Derived.Test.YtaadjebiglihlaaGs
import Derived.Test.YtaadjebiglihlaaPwPlc
import Derived.Test.YtaadjebiglihlaaPwFun
namespace Go.Proofs.Ytaadjebiglihlaa
open Go Go.RowKit Go.Pw

theorem en_i_CountSet : Entry Try.prog 56 := ⟨_, Try.func56, by kernel_rfl, rfl⟩
theorem i_CountSet_c (s : Int) (w : World) : Pure Try.prog 56 #[.int .i64 s] w (.int .i64 (cntS s)) := by
  refine pure_enter (args := [_]) en_i_CountSet Try.func56 rfl Try.ntmps56 rfl ?_
  repeat' (first | apply pwp_seq | apply pwp_region | (apply px_run; (first | (apply opv_move; first | exact hid_int rfl) | (apply opv_assign; first | exact hid_int rfl) | (apply opv_len_ints el_int; rfl; (first | exact rd_row 0 rfl))); rfl; rfl) | apply px_nil | apply qseq_normal | apply pwp_ret | (apply px_gives; rfl; rfl; rfl; rfl; rfl; exact fun w hw => i_ListOf_c _ _; rintro sl _ rfl))
  refine qbody_ret1 (v := .int _ _) rfl rfl ⟨rfl, fun _ h => h.below⟩
theorem en_s_CountSet : Entry Try.prog 52 := ⟨_, Try.func52, by kernel_rfl, rfl⟩
theorem s_CountSet_c (s : Int) (w : World) : Pure Try.prog 52 #[.int .i64 s] w (.int .i64 (cntS s)) := by
  refine pure_enter (args := [_]) en_s_CountSet Try.func52 rfl Try.ntmps52 rfl ?_
  repeat' (first | apply pwp_seq | apply pwp_region | (apply px_run; (first | (apply opv_move; first | exact hid_int rfl) | (apply opv_assign; first | exact hid_int rfl) | (apply opv_len_ints el_int; rfl; (first | exact rd_row 0 rfl))); rfl; rfl) | apply px_nil | apply qseq_normal | apply pwp_ret | (apply px_gives; rfl; rfl; rfl; rfl; rfl; exact fun w hw => s_ListOf_c _ _; rintro sl _ rfl))
  refine qbody_ret1 (v := .int _ _) rfl rfl ⟨rfl, fun _ h => h.below⟩
end Go.Proofs.Ytaadjebiglihlaa
