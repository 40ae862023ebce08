/- The types' facts of this seat. -/
import Derived.Test.YtaadjebiglihlaaProg
import Derived.Test.YtaadjebiglihlaaPwStr
import Derived.Test.YtaadjebiglihlaaPwBool
import Derived.KernelRfl
namespace Go.Proofs.Ytaadjebiglihlaa
open Go Go.RowKit Go.Pw
theorem ty_bool : Try.prog.underlying 4 = some .bool := Try.underlying4
theorem ty_int : Try.prog.underlying 3 = some (.int .i64) := Try.underlying3
theorem ty_ints : Try.prog.underlying 22 = some (.slice 3) := Try.underlying22
theorem sc_int : Scalar Try.prog 3 := scalar_int Try.underlying3
theorem sc_ints : Scalar Try.prog 22 := scalar_slice Try.underlying22
theorem info_int : (Try.prog.info? 3).map (fun i => (i.zero, i.size, i.bytes)) = some (some (.int .i64 0), 1, 8) := by kernel_rfl
theorem info_ints : (Try.prog.info? 22).map (fun i => (i.zero, i.size, i.bytes)) = some (some (.slice none 0 0), 1, 24) := by kernel_rfl
theorem el_int : Elem1 Try.prog 22 3 := ⟨Try.underlying22, by obtain ⟨i, h1, _, h2, _⟩ := info_parts info_int; exact ⟨i, h1, h2⟩⟩
theorem ez_int : ElemZ Try.prog 22 3 (.int .i64 0) 8 := ⟨Try.underlying22, info_int, rfl⟩
theorem co_int : Try.prog.cellsOf 3 = 1 := by kernel_rfl
theorem co_ints : Try.prog.cellsOf 22 = 1 := by kernel_rfl
theorem el_intss : Elem1 Try.prog 69 22 := ⟨Try.underlying69, by obtain ⟨i, h1, _, h2, _⟩ := info_parts info_ints; exact ⟨i, h1, h2⟩⟩
theorem ez_intss : ElemZ Try.prog 69 22 (.slice none 0 0) 24 := ⟨Try.underlying69, info_ints, rfl⟩
theorem sc_intss : Scalar Try.prog 69 := scalar_slice Try.underlying69
theorem ty_bools : Try.prog.underlying 33 = some (.slice 4) := Try.underlying33
theorem sc_bool : Scalar Try.prog 4 := scalar_bool Try.underlying4
theorem sc_bools : Scalar Try.prog 33 := scalar_slice Try.underlying33
theorem info_bool : (Try.prog.info? 4).map (fun i => (i.zero, i.size, i.bytes)) = some (some (.bool false), 1, 1) := by kernel_rfl
theorem el_bool : Elem1 Try.prog 33 4 := ⟨Try.underlying33, by obtain ⟨i, h1, _, h2, _⟩ := info_parts info_bool; exact ⟨i, h1, h2⟩⟩
theorem ez_bool : ElemZ Try.prog 33 4 (.bool false) 1 := ⟨Try.underlying33, info_bool, rfl⟩
theorem co_bool : Try.prog.cellsOf 4 = 1 := by kernel_rfl
theorem sc_fnB : Scalar Try.prog 26 := scalar_func Try.underlying26
theorem co_fnB : Try.prog.cellsOf 26 = 1 := by kernel_rfl
theorem sc_fnS : Scalar Try.prog 23 := scalar_func Try.underlying23
theorem co_fnS : Try.prog.cellsOf 23 = 1 := by kernel_rfl
theorem zi_fnS : (Try.prog.info? 23).map (fun i => (i.zero, i.size)) = some (some .nilFunc, 1) := by kernel_rfl
theorem fld_G0 : Fld Try.prog 28 0 0 := ⟨by obtain ⟨i, h1, _, h2, _⟩ := info_parts info_int; exact ⟨_, _, i, Try.underlying28, rfl, rfl, h1, by omega⟩⟩
theorem fld_G1 : Fld Try.prog 28 1 1 := ⟨by obtain ⟨i, h1, _, h2, _⟩ := info_parts info_ints; exact ⟨_, _, i, Try.underlying28, rfl, rfl, h1, by omega⟩⟩
theorem st_G : StrT Try.prog 28 [.int .i64 0, .slice none 0 0] := ⟨⟨_, Try.underlying28⟩, by kernel_rfl⟩
theorem bl_G : BuildG Try.prog 28 := ⟨fun n ao l c => by kernel_rfl, fun n => by kernel_rfl, by kernel_rfl⟩
theorem fld_g0 : Fld Try.prog 39 0 0 := ⟨by obtain ⟨i, h1, _, h2, _⟩ := info_parts info_int; exact ⟨_, _, i, Try.underlying39, rfl, rfl, h1, by omega⟩⟩
theorem fld_g1 : Fld Try.prog 39 1 1 := ⟨by obtain ⟨i, h1, _, h2, _⟩ := info_parts info_ints; exact ⟨_, _, i, Try.underlying39, rfl, rfl, h1, by omega⟩⟩
theorem st_g : StrT Try.prog 39 [.int .i64 0, .slice none 0 0] := ⟨⟨_, Try.underlying39⟩, by kernel_rfl⟩
theorem fld_T0 : Fld Try.prog 45 0 0 := ⟨by obtain ⟨i, h1, _, h2, _⟩ := info_parts info_ints; exact ⟨_, _, i, Try.underlying45, rfl, rfl, h1, by omega⟩⟩
theorem fld_T1 : Fld Try.prog 45 1 1 := ⟨by obtain ⟨i, h1, _, h2, _⟩ := info_parts info_ints; exact ⟨_, _, i, Try.underlying45, rfl, rfl, h1, by omega⟩⟩
theorem fld_T2 : Fld Try.prog 45 2 2 := ⟨by obtain ⟨i, h1, _, h2, _⟩ := info_parts info_ints; exact ⟨_, _, i, Try.underlying45, rfl, rfl, h1, by omega⟩⟩
theorem st_T : StrT Try.prog 45 [.slice none 0 0, .slice none 0 0, .slice none 0 0] := ⟨⟨_, Try.underlying45⟩, by kernel_rfl⟩
theorem fld_t0 : Fld Try.prog 51 0 0 := ⟨by obtain ⟨i, h1, _, h2, _⟩ := info_parts info_ints; exact ⟨_, _, i, Try.underlying51, rfl, rfl, h1, by omega⟩⟩
theorem fld_t1 : Fld Try.prog 51 1 1 := ⟨by obtain ⟨i, h1, _, h2, _⟩ := info_parts info_ints; exact ⟨_, _, i, Try.underlying51, rfl, rfl, h1, by omega⟩⟩
theorem fld_t2 : Fld Try.prog 51 2 2 := ⟨by obtain ⟨i, h1, _, h2, _⟩ := info_parts info_ints; exact ⟨_, _, i, Try.underlying51, rfl, rfl, h1, by omega⟩⟩
theorem st_t : StrT Try.prog 51 [.slice none 0 0, .slice none 0 0, .slice none 0 0] := ⟨⟨_, Try.underlying51⟩, by kernel_rfl⟩
end Go.Proofs.Ytaadjebiglihlaa
