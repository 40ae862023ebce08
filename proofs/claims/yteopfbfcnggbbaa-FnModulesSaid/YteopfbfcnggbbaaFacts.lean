/- The types' facts of this seat. -/
import Derived.Test.YteopfbfcnggbbaaProg
import Derived.Test.YteopfbfcnggbbaaPwStr
import Derived.Test.YteopfbfcnggbbaaPwBool
import Derived.KernelRfl
namespace Go.Proofs.Yteopfbfcnggbbaa
open Go Go.RowKit Go.Pw
theorem ty_bool : Try.prog.underlying 4 = some .bool := Try.underlying4
theorem ty_int : Try.prog.underlying 3 = some (.int .i64) := Try.underlying3
theorem ty_ints : Try.prog.underlying 24 = some (.slice 3) := Try.underlying24
theorem sc_int : Scalar Try.prog 3 := scalar_int Try.underlying3
theorem sc_ints : Scalar Try.prog 24 := scalar_slice Try.underlying24
theorem info_int : (Try.prog.info? 3).map (fun i => (i.zero, i.size, i.bytes)) = some (some (.int .i64 0), 1, 8) := by kernel_rfl
theorem info_ints : (Try.prog.info? 24).map (fun i => (i.zero, i.size, i.bytes)) = some (some (.slice none 0 0), 1, 24) := by kernel_rfl
theorem el_int : Elem1 Try.prog 24 3 := ⟨Try.underlying24, by obtain ⟨i, h1, _, h2, _⟩ := info_parts info_int; exact ⟨i, h1, h2⟩⟩
theorem ez_int : ElemZ Try.prog 24 3 (.int .i64 0) 8 := ⟨Try.underlying24, info_int, rfl⟩
theorem co_int : Try.prog.cellsOf 3 = 1 := by kernel_rfl
theorem co_ints : Try.prog.cellsOf 24 = 1 := by kernel_rfl
theorem fld_G0 : Fld Try.prog 26 0 0 := ⟨by obtain ⟨i, h1, _, h2, _⟩ := info_parts info_int; exact ⟨_, _, i, Try.underlying26, rfl, rfl, h1, by omega⟩⟩
theorem fld_G1 : Fld Try.prog 26 1 1 := ⟨by obtain ⟨i, h1, _, h2, _⟩ := info_parts info_ints; exact ⟨_, _, i, Try.underlying26, rfl, rfl, h1, by omega⟩⟩
theorem st_G : StrT Try.prog 26 [.int .i64 0, .slice none 0 0] := ⟨⟨_, Try.underlying26⟩, by kernel_rfl⟩
theorem bl_G : BuildG Try.prog 26 := ⟨fun n ao l c => by kernel_rfl, fun n => by kernel_rfl, by kernel_rfl⟩
end Go.Proofs.Yteopfbfcnggbbaa
