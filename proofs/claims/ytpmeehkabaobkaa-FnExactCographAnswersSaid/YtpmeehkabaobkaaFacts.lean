/- The types' facts of this seat. -/
import Derived.Test.YtpmeehkabaobkaaProg
import Derived.Test.YtpmeehkabaobkaaPwStr
import Derived.Test.YtpmeehkabaobkaaPwBool
import Derived.KernelRfl
namespace Go.Proofs.Ytpmeehkabaobkaa
open Go Go.RowKit Go.Pw
theorem ty_bool : Try.prog.underlying 4 = some .bool := Try.underlying4
theorem ty_int : Try.prog.underlying 3 = some (.int .i64) := Try.underlying3
theorem ty_ints : Try.prog.underlying 22 = some (.slice 3) := Try.underlying22
theorem sc_int : Scalar Try.prog 3 := scalar_int Try.underlying3
theorem sc_ints : Scalar Try.prog 22 := scalar_slice Try.underlying22
theorem info_int : (Try.prog.info? 3).map (fun i => (i.zero, i.size, i.bytes)) = some (some (.int .i64 0), 1, 8) := by kernel_rfl
theorem info_ints : (Try.prog.info? 22).map (fun i => (i.zero, i.size, i.bytes)) = some (some (.slice none 0 0), 1, 24) := by kernel_rfl
theorem el_int : Elem1 Try.prog 22 3 := ⟨Try.underlying22, by obtain ⟨i, h1, _, h2, _⟩ := info_parts info_int; exact ⟨i, h1, h2⟩⟩
theorem ez_int : ElemZ Try.prog 22 3 (.int .i64 0) 8 := ⟨Try.underlying22, info_int, rfl⟩
theorem co_int : Try.prog.cellsOf 3 = 1 := by kernel_rfl
theorem co_ints : Try.prog.cellsOf 22 = 1 := by kernel_rfl
theorem el_intss : Elem1 Try.prog 35 22 := ⟨Try.underlying35, by obtain ⟨i, h1, _, h2, _⟩ := info_parts info_ints; exact ⟨i, h1, h2⟩⟩
theorem ez_intss : ElemZ Try.prog 35 22 (.slice none 0 0) 24 := ⟨Try.underlying35, info_ints, rfl⟩
theorem sc_intss : Scalar Try.prog 35 := scalar_slice Try.underlying35
theorem sc_fnB : Scalar Try.prog 49 := scalar_func Try.underlying49
theorem co_fnB : Try.prog.cellsOf 49 = 1 := by kernel_rfl
theorem sc_fnS : Scalar Try.prog 50 := scalar_func Try.underlying50
theorem co_fnS : Try.prog.cellsOf 50 = 1 := by kernel_rfl
theorem zi_fnS : (Try.prog.info? 50).map (fun i => (i.zero, i.size)) = some (some .nilFunc, 1) := by kernel_rfl
theorem fld_G0 : Fld Try.prog 28 0 0 := ⟨by obtain ⟨i, h1, _, h2, _⟩ := info_parts info_int; exact ⟨_, _, i, Try.underlying28, rfl, rfl, h1, by omega⟩⟩
theorem fld_G1 : Fld Try.prog 28 1 1 := ⟨by obtain ⟨i, h1, _, h2, _⟩ := info_parts info_ints; exact ⟨_, _, i, Try.underlying28, rfl, rfl, h1, by omega⟩⟩
theorem st_G : StrT Try.prog 28 [.int .i64 0, .slice none 0 0] := ⟨⟨_, Try.underlying28⟩, by kernel_rfl⟩
theorem bl_G : BuildG Try.prog 28 := ⟨fun n ao l c => by kernel_rfl, fun n => by kernel_rfl, by kernel_rfl⟩
theorem fld_g0 : Fld Try.prog 24 0 0 := ⟨by obtain ⟨i, h1, _, h2, _⟩ := info_parts info_int; exact ⟨_, _, i, Try.underlying24, rfl, rfl, h1, by omega⟩⟩
theorem fld_g1 : Fld Try.prog 24 1 1 := ⟨by obtain ⟨i, h1, _, h2, _⟩ := info_parts info_ints; exact ⟨_, _, i, Try.underlying24, rfl, rfl, h1, by omega⟩⟩
theorem st_g : StrT Try.prog 24 [.int .i64 0, .slice none 0 0] := ⟨⟨_, Try.underlying24⟩, by kernel_rfl⟩
end Go.Proofs.Ytpmeehkabaobkaa
