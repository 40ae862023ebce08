/- The types' facts of this seat. -/
import Derived.Test.YthmpcidkjkeicaaProg
import Derived.Test.YthmpcidkjkeicaaPwStr
import Derived.Test.YthmpcidkjkeicaaPwBool
import Derived.KernelRfl
namespace Go.Proofs.Ythmpcidkjkeicaa
open Go Go.RowKit Go.Pw
theorem ty_bool : Try.prog.underlying 4 = some .bool := Try.underlying4
theorem ty_int : Try.prog.underlying 3 = some (.int .i64) := Try.underlying3
theorem ty_ints : Try.prog.underlying 22 = some (.slice 3) := Try.underlying22
theorem sc_int : Scalar Try.prog 3 := scalar_int Try.underlying3
theorem sc_ints : Scalar Try.prog 22 := scalar_slice Try.underlying22
theorem info_int : (Try.prog.info? 3).map (fun i => (i.zero, i.size, i.bytes)) = some (some (.int .i64 0), 1, 8) := by kernel_rfl
theorem info_ints : (Try.prog.info? 22).map (fun i => (i.zero, i.size, i.bytes)) = some (some (.slice none 0 0), 1, 24) := by kernel_rfl
theorem el_int : Elem1 Try.prog 22 3 := ⟨Try.underlying22, by obtain ⟨i, h1, _, h2, _⟩ := info_parts info_int; exact ⟨i, h1, h2⟩⟩
theorem ez_int : ElemZ Try.prog 22 3 (.int .i64 0) 8 := ⟨Try.underlying22, info_int, rfl⟩
theorem co_int : Try.prog.cellsOf 3 = 1 := by kernel_rfl
theorem co_ints : Try.prog.cellsOf 22 = 1 := by kernel_rfl
theorem el_intss : Elem1 Try.prog 40 22 := ⟨Try.underlying40, by obtain ⟨i, h1, _, h2, _⟩ := info_parts info_ints; exact ⟨i, h1, h2⟩⟩
theorem ez_intss : ElemZ Try.prog 40 22 (.slice none 0 0) 24 := ⟨Try.underlying40, info_ints, rfl⟩
theorem sc_intss : Scalar Try.prog 40 := scalar_slice Try.underlying40
theorem ty_bools : Try.prog.underlying 44 = some (.slice 4) := Try.underlying44
theorem sc_bool : Scalar Try.prog 4 := scalar_bool Try.underlying4
theorem sc_bools : Scalar Try.prog 44 := scalar_slice Try.underlying44
theorem info_bool : (Try.prog.info? 4).map (fun i => (i.zero, i.size, i.bytes)) = some (some (.bool false), 1, 1) := by kernel_rfl
theorem el_bool : Elem1 Try.prog 44 4 := ⟨Try.underlying44, by obtain ⟨i, h1, _, h2, _⟩ := info_parts info_bool; exact ⟨i, h1, h2⟩⟩
theorem ez_bool : ElemZ Try.prog 44 4 (.bool false) 1 := ⟨Try.underlying44, info_bool, rfl⟩
theorem co_bool : Try.prog.cellsOf 4 = 1 := by kernel_rfl
theorem sc_fnB : Scalar Try.prog 84 := scalar_func Try.underlying84
theorem co_fnB : Try.prog.cellsOf 84 = 1 := by kernel_rfl
theorem sc_fnS : Scalar Try.prog 35 := scalar_func Try.underlying35
theorem co_fnS : Try.prog.cellsOf 35 = 1 := by kernel_rfl
theorem zi_fnS : (Try.prog.info? 35).map (fun i => (i.zero, i.size)) = some (some .nilFunc, 1) := by kernel_rfl
theorem fld_G0 : Fld Try.prog 27 0 0 := ⟨by obtain ⟨i, h1, _, h2, _⟩ := info_parts info_int; exact ⟨_, _, i, Try.underlying27, rfl, rfl, h1, by omega⟩⟩
theorem fld_G1 : Fld Try.prog 27 1 1 := ⟨by obtain ⟨i, h1, _, h2, _⟩ := info_parts info_ints; exact ⟨_, _, i, Try.underlying27, rfl, rfl, h1, by omega⟩⟩
theorem st_G : StrT Try.prog 27 [.int .i64 0, .slice none 0 0] := ⟨⟨_, Try.underlying27⟩, by kernel_rfl⟩
theorem bl_G : BuildG Try.prog 27 := ⟨fun n ao l c => by kernel_rfl, fun n => by kernel_rfl, by kernel_rfl⟩
theorem fld_g0 : Fld Try.prog 24 0 0 := ⟨by obtain ⟨i, h1, _, h2, _⟩ := info_parts info_int; exact ⟨_, _, i, Try.underlying24, rfl, rfl, h1, by omega⟩⟩
theorem fld_g1 : Fld Try.prog 24 1 1 := ⟨by obtain ⟨i, h1, _, h2, _⟩ := info_parts info_ints; exact ⟨_, _, i, Try.underlying24, rfl, rfl, h1, by omega⟩⟩
theorem st_g : StrT Try.prog 24 [.int .i64 0, .slice none 0 0] := ⟨⟨_, Try.underlying24⟩, by kernel_rfl⟩
end Go.Proofs.Ythmpcidkjkeicaa
