/- The types' facts of this seat. -/
import Derived.Test.YtoejpckfeflkaaaGreatDoorProg
import Derived.Test.YtoejpckfeflkaaaGreatDoorPwStr
import Derived.Test.YtoejpckfeflkaaaGreatDoorPwBool
import Derived.KernelRfl
namespace Go.Proofs.YtoejpckfeflkaaaGreatDoor
open Go Go.RowKit Go.Pw
theorem ty_bool : Tryz.prog.underlying 4 = some .bool := Tryz.underlying4
theorem ty_int : Tryz.prog.underlying 3 = some (.int .i64) := Tryz.underlying3
theorem ty_ints : Tryz.prog.underlying 24 = some (.slice 3) := Tryz.underlying24
theorem sc_int : Scalar Tryz.prog 3 := scalar_int Tryz.underlying3
theorem sc_ints : Scalar Tryz.prog 24 := scalar_slice Tryz.underlying24
theorem info_int : (Tryz.prog.info? 3).map (fun i => (i.zero, i.size, i.bytes)) = some (some (.int .i64 0), 1, 8) := by kernel_rfl
theorem info_ints : (Tryz.prog.info? 24).map (fun i => (i.zero, i.size, i.bytes)) = some (some (.slice none 0 0), 1, 24) := by kernel_rfl
theorem el_int : Elem1 Tryz.prog 24 3 := ⟨Tryz.underlying24, by obtain ⟨i, h1, _, h2, _⟩ := info_parts info_int; exact ⟨i, h1, h2⟩⟩
theorem ez_int : ElemZ Tryz.prog 24 3 (.int .i64 0) 8 := ⟨Tryz.underlying24, info_int, rfl⟩
theorem co_int : Tryz.prog.cellsOf 3 = 1 := by kernel_rfl
theorem co_ints : Tryz.prog.cellsOf 24 = 1 := by kernel_rfl
theorem fld_G0 : Fld Tryz.prog 26 0 0 := ⟨by obtain ⟨i, h1, _, h2, _⟩ := info_parts info_int; exact ⟨_, _, i, Tryz.underlying26, rfl, rfl, h1, by omega⟩⟩
theorem fld_G1 : Fld Tryz.prog 26 1 1 := ⟨by obtain ⟨i, h1, _, h2, _⟩ := info_parts info_ints; exact ⟨_, _, i, Tryz.underlying26, rfl, rfl, h1, by omega⟩⟩
theorem st_G : StrT Tryz.prog 26 [.int .i64 0, .slice none 0 0] := ⟨⟨_, Tryz.underlying26⟩, by kernel_rfl⟩
theorem bl_G : BuildG Tryz.prog 26 := ⟨fun n ao l c => by kernel_rfl, fun n => by kernel_rfl, by kernel_rfl⟩
theorem fld_T0 : Fld Tryz.prog 29 0 0 := ⟨by obtain ⟨i, h1, _, h2, _⟩ := info_parts info_ints; exact ⟨_, _, i, Tryz.underlying29, rfl, rfl, h1, by omega⟩⟩
theorem fld_T1 : Fld Tryz.prog 29 1 1 := ⟨by obtain ⟨i, h1, _, h2, _⟩ := info_parts info_ints; exact ⟨_, _, i, Tryz.underlying29, rfl, rfl, h1, by omega⟩⟩
theorem fld_T2 : Fld Tryz.prog 29 2 2 := ⟨by obtain ⟨i, h1, _, h2, _⟩ := info_parts info_ints; exact ⟨_, _, i, Tryz.underlying29, rfl, rfl, h1, by omega⟩⟩
theorem st_T : StrT Tryz.prog 29 [.slice none 0 0, .slice none 0 0, .slice none 0 0] := ⟨⟨_, Tryz.underlying29⟩, by kernel_rfl⟩
end Go.Proofs.YtoejpckfeflkaaaGreatDoor
