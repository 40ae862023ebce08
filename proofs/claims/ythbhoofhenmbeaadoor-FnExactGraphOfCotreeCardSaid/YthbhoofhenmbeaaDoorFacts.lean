/- The types' facts of this seat. -/
import Derived.Test.YthbhoofhenmbeaaDoorProg
import Derived.Test.YthbhoofhenmbeaaDoorPwStr
import Derived.Test.YthbhoofhenmbeaaDoorPwBool
import Derived.KernelRfl
namespace Go.Proofs.YthbhoofhenmbeaaDoor
open Go Go.RowKit Go.Pw
theorem ty_bool : Tryd.prog.underlying 4 = some .bool := Tryd.underlying4
theorem ty_int : Tryd.prog.underlying 3 = some (.int .i64) := Tryd.underlying3
theorem ty_ints : Tryd.prog.underlying 22 = some (.slice 3) := Tryd.underlying22
theorem sc_int : Scalar Tryd.prog 3 := scalar_int Tryd.underlying3
theorem sc_ints : Scalar Tryd.prog 22 := scalar_slice Tryd.underlying22
theorem info_int : (Tryd.prog.info? 3).map (fun i => (i.zero, i.size, i.bytes)) = some (some (.int .i64 0), 1, 8) := by kernel_rfl
theorem info_ints : (Tryd.prog.info? 22).map (fun i => (i.zero, i.size, i.bytes)) = some (some (.slice none 0 0), 1, 24) := by kernel_rfl
theorem el_int : Elem1 Tryd.prog 22 3 := ⟨Tryd.underlying22, by obtain ⟨i, h1, _, h2, _⟩ := info_parts info_int; exact ⟨i, h1, h2⟩⟩
theorem ez_int : ElemZ Tryd.prog 22 3 (.int .i64 0) 8 := ⟨Tryd.underlying22, info_int, rfl⟩
theorem co_int : Tryd.prog.cellsOf 3 = 1 := by kernel_rfl
theorem co_ints : Tryd.prog.cellsOf 22 = 1 := by kernel_rfl
theorem sc_fnB : Scalar Tryd.prog 97 := scalar_func Tryd.underlying97
theorem co_fnB : Tryd.prog.cellsOf 97 = 1 := by kernel_rfl
theorem sc_fnS : Scalar Tryd.prog 48 := scalar_func Tryd.underlying48
theorem co_fnS : Tryd.prog.cellsOf 48 = 1 := by kernel_rfl
theorem zi_fnS : (Tryd.prog.info? 48).map (fun i => (i.zero, i.size)) = some (some .nilFunc, 1) := by kernel_rfl
theorem fld_G0 : Fld Tryd.prog 36 0 0 := ⟨by obtain ⟨i, h1, _, h2, _⟩ := info_parts info_int; exact ⟨_, _, i, Tryd.underlying36, rfl, rfl, h1, by omega⟩⟩
theorem fld_G1 : Fld Tryd.prog 36 1 1 := ⟨by obtain ⟨i, h1, _, h2, _⟩ := info_parts info_ints; exact ⟨_, _, i, Tryd.underlying36, rfl, rfl, h1, by omega⟩⟩
theorem st_G : StrT Tryd.prog 36 [.int .i64 0, .slice none 0 0] := ⟨⟨_, Tryd.underlying36⟩, by kernel_rfl⟩
theorem bl_G : BuildG Tryd.prog 36 := ⟨fun n ao l c => by kernel_rfl, fun n => by kernel_rfl, by kernel_rfl⟩
theorem fld_g0 : Fld Tryd.prog 32 0 0 := ⟨by obtain ⟨i, h1, _, h2, _⟩ := info_parts info_int; exact ⟨_, _, i, Tryd.underlying32, rfl, rfl, h1, by omega⟩⟩
theorem fld_g1 : Fld Tryd.prog 32 1 1 := ⟨by obtain ⟨i, h1, _, h2, _⟩ := info_parts info_ints; exact ⟨_, _, i, Tryd.underlying32, rfl, rfl, h1, by omega⟩⟩
theorem st_g : StrT Tryd.prog 32 [.int .i64 0, .slice none 0 0] := ⟨⟨_, Tryd.underlying32⟩, by kernel_rfl⟩
theorem fld_T0 : Fld Tryd.prog 27 0 0 := ⟨by obtain ⟨i, h1, _, h2, _⟩ := info_parts info_ints; exact ⟨_, _, i, Tryd.underlying27, rfl, rfl, h1, by omega⟩⟩
theorem fld_T1 : Fld Tryd.prog 27 1 1 := ⟨by obtain ⟨i, h1, _, h2, _⟩ := info_parts info_ints; exact ⟨_, _, i, Tryd.underlying27, rfl, rfl, h1, by omega⟩⟩
theorem fld_T2 : Fld Tryd.prog 27 2 2 := ⟨by obtain ⟨i, h1, _, h2, _⟩ := info_parts info_ints; exact ⟨_, _, i, Tryd.underlying27, rfl, rfl, h1, by omega⟩⟩
theorem st_T : StrT Tryd.prog 27 [.slice none 0 0, .slice none 0 0, .slice none 0 0] := ⟨⟨_, Tryd.underlying27⟩, by kernel_rfl⟩
theorem fld_t0 : Fld Tryd.prog 24 0 0 := ⟨by obtain ⟨i, h1, _, h2, _⟩ := info_parts info_ints; exact ⟨_, _, i, Tryd.underlying24, rfl, rfl, h1, by omega⟩⟩
theorem fld_t1 : Fld Tryd.prog 24 1 1 := ⟨by obtain ⟨i, h1, _, h2, _⟩ := info_parts info_ints; exact ⟨_, _, i, Tryd.underlying24, rfl, rfl, h1, by omega⟩⟩
theorem fld_t2 : Fld Tryd.prog 24 2 2 := ⟨by obtain ⟨i, h1, _, h2, _⟩ := info_parts info_ints; exact ⟨_, _, i, Tryd.underlying24, rfl, rfl, h1, by omega⟩⟩
theorem st_t : StrT Tryd.prog 24 [.slice none 0 0, .slice none 0 0, .slice none 0 0] := ⟨⟨_, Tryd.underlying24⟩, by kernel_rfl⟩
end Go.Proofs.YthbhoofhenmbeaaDoor
