/- Draws: the cursor over the code. -/
import Derived.Test.YtoejpckfeflkaaaGreatDoorGs
import Derived.Test.YtoejpckfeflkaaaGreatDoorPwCur
namespace Go.Proofs.YtoejpckfeflkaaaGreatDoor
open Go Go.RowKit Go.Pw
theorem ty_byteD : Tryz.prog.underlying 5 = some (.int .u8) := Tryz.underlying5
theorem info_byteD : (Tryz.prog.info? 5).map (fun i => (i.zero, i.size, i.bytes)) = some (some (.int .u8 0), 1, 1) := by kernel_rfl
theorem el_byteD : Elem1 Tryz.prog 22 5 := ⟨Tryz.underlying22, by obtain ⟨i, h1, _, h2, _⟩ := info_parts info_byteD; exact ⟨i, h1, h2⟩⟩
theorem sc_byteD : Scalar Tryz.prog 5 := scalar_int Tryz.underlying5
theorem sc_bytesD : Scalar Tryz.prog 22 := scalar_slice Tryz.underlying22
theorem info_bytesD : (Tryz.prog.info? 22).map (fun i => (i.zero, i.size, i.bytes)) = some (some (.slice none 0 0), 1, 24) := by kernel_rfl
theorem fld_C0 : Fld Tryz.prog 72 0 0 := ⟨by obtain ⟨i, h1, _, h2, _⟩ := info_parts info_bytesD; exact ⟨_, _, i, Tryz.underlying72, rfl, rfl, h1, by omega⟩⟩
theorem fld_C1 : Fld Tryz.prog 72 1 1 := ⟨by obtain ⟨i, h1, _, h2, _⟩ := info_parts info_int; exact ⟨_, _, i, Tryz.underlying72, rfl, rfl, h1, by omega⟩⟩
theorem fld_C2 : Fld Tryz.prog 72 2 2 := ⟨by obtain ⟨i, h1, _, h2, _⟩ := info_parts info_int; exact ⟨_, _, i, Tryz.underlying72, rfl, rfl, h1, by omega⟩⟩
/-- The code that came in. -/
structure CodeP (w : World) (cv : Value) (l : List Int) : Prop where
  arr : Arr w cv (byts l)
  byte : ∀ x ∈ l, 0 ≤ x ∧ x ≤ 255
  len : l.length ≤ 1048576
theorem CodeP.at {X : List Nat} {w0 w : World} {objs : List Ob} {cv : Value} {l : List Int} (h : CodeP w0 cv l) (hx : ∀ b off n c, cv = .slice (some ⟨b, off, none⟩) n c → b ∈ X → byts l = []) (hw : Cl X w0 objs w) : CodeP w cv l :=
  ⟨hw.arrX h.arr hx, h.byte, h.len⟩
theorem code_apart {w : World} {cv : Value} {l : List Int} {cb : Nat} {i h : Int} (ha : CodeP w cv l) (ho : Own w [.blk cb (cells3 cv i h)]) : ∀ b off n c, cv = .slice (some ⟨b, off, none⟩) n c → b ∈ [cb] → byts l = [] := fun b off n c e hb => by
  rw [arr_apart ha.arr ho b off n c e (by simpa using hb)]; rfl
theorem built_C (ao : Option Addr) (ln cp : Nat) (h : Int) : Tryz.prog.built 72 [(0, .slice ao ln cp), (2, .int .i64 h)] = some (cells3 (.slice ao ln cp) 0 h).toArray := by kernel_rfl
theorem en_s_l1Byte : Entry Tryz.prog 84 := ⟨_, Tryz.func84, by kernel_rfl, rfl⟩
set_option maxHeartbeats 1600000 in
theorem s_l1Byte_c (cv : Value) (l : List Int) (cb : Nat) (i h : Int) (w : World) (hcp : CodeP w cv l) (hi : 0 ≤ i ∧ i ≤ (l.length : Int)) (ho : Own w [.blk cb (cells3 cv i h)]) :
    GivesU Tryz.prog 84 #[.pointer (some ⟨cb, 0, none⟩)] w [.blk cb (cells3 cv i h)] (fun v new => ∃ x, (0 ≤ x ∧ x ≤ 255) ∧ v = .int .i64 x ∧ CurP cv l cb new) := by
  have hap := code_apart hcp ho
  have hst := stor_arr hcp.arr
  refine givesU_enterX (X := [cb]) (args := [_]) rfl ho en_s_l1Byte Tryz.func84 rfl Tryz.ntmps84 rfl ?_
  have hlen := hcp.len
  have rd : ∀ objs, Rd (Cl [cb] w objs) cv (byts l) := fun objs => ⟨fun w' hw => (hcp.at hap hw).arr⟩
  by_cases hlt : i < l.length
  · obtain ⟨k, rfl⟩ : ∃ k : Nat, i = (k : Int) := ⟨i.toNat, by omega⟩
    have hk : k < l.length := by omega
    have hbl : (byts l).length = l.length := byts_length l
    have hb := hcp.byte (l.getD k 0) (by simp [List.getD, hk])
    have hget := byts_get l k hk
    have hcell : ∀ h', (cells3 cv (k : Int) h')[0]? = some cv := fun _ => rfl
    repeat' (first | apply pwp_seq | apply pwp_region | (apply px_run; (first | (apply opv_nilcheck; rfl) | (apply opv_field fld_C0; rfl) | (apply opv_field fld_C1; rfl) | (apply opv_field fld_C2; rfl) | (apply opv_load_blk 0 sc_int; rfl; rfl; rfl) | (apply opv_load_blk 0 sc_bytesD; rfl; rfl; rfl) | (apply opv_shr_k; rfl; rfl; decide) | (apply opv_len el_byteD; rfl; exact rd _) | (apply opv_index_nat el_byteD; rfl; rfl; exact rd _; omega) | (apply opv_load_arr sc_byteD; rfl; exact rd _; exact hget) | (apply opv_conv_i64 Tryz.underlying5 Tryz.underlying3; rfl; omega) | (apply opv_move; first | exact hid_int rfl | exact hid_ptr rfl) | (apply opv_assign; first | exact hid_int rfl) | (apply opv_lss <;> rfl) | (apply opv_and <;> rfl) | (apply opv_xor <;> rfl) | (apply opv_add_in; rfl; rfl; omega) | (apply opv_add <;> rfl) | (apply opv_mul <;> rfl)); rfl; rfl) | apply px_nil | apply qseq_normal | apply pwp_ret | (apply pwp_region_mix; kernel_rfl; decide +kernel; exact Cl.stable _ _ _) | (apply pwp_cond_dec; rfl; all_goals (intro hc; try (first | (exfalso; omega)))) | (apply px_store_blk 0 co_int; rfl; rfl; rfl; (intro w hw; rfl); rfl; rfl))
    refine qbody_ret1 (v := .int _ _) rfl rfl ⟨_, ⟨_, iand255 _, rfl, ⟨(k : Int) + 1, w64 (w64 (h * 6364136223846793005) + 1442695040888963407), ⟨by omega, by omega⟩, rfl⟩⟩, fun w' h => ?_⟩
    exact h
  · have hbl : (byts l).length = l.length := byts_length l
    repeat' (first | apply pwp_seq | apply pwp_region | (apply px_run; (first | (apply opv_nilcheck; rfl) | (apply opv_field fld_C0; rfl) | (apply opv_field fld_C1; rfl) | (apply opv_field fld_C2; rfl) | (apply opv_load_blk 0 sc_int; rfl; rfl; rfl) | (apply opv_load_blk 0 sc_bytesD; rfl; rfl; rfl) | (apply opv_shr_k; rfl; rfl; decide) | (apply opv_len el_byteD; rfl; exact rd _) | (apply opv_move; first | exact hid_int rfl | exact hid_ptr rfl) | (apply opv_assign; first | exact hid_int rfl) | (apply opv_lss <;> rfl) | (apply opv_and <;> rfl) | (apply opv_xor <;> rfl) | (apply opv_add <;> rfl) | (apply opv_mul <;> rfl)); rfl; rfl) | apply px_nil | apply qseq_normal | apply pwp_skip | apply pwp_ret | (apply pwp_region_mix; kernel_rfl; decide +kernel; exact Cl.stable _ _ _) | (apply pwp_cond_dec; rfl; all_goals (intro hc; try (first | (exfalso; omega)))) | (apply px_store_blk 0 co_int; rfl; rfl; rfl; (intro w hw; rfl); rfl; rfl))
    refine qbody_ret1 (v := .int _ _) rfl rfl ⟨_, ⟨_, iand255 _, rfl, ⟨i, w64 (w64 (h * 6364136223846793005) + 1442695040888963407), hi, rfl⟩⟩, fun w' h => ?_⟩
    exact h
theorem en_s_l1Below : Entry Tryz.prog 54 := ⟨_, Tryz.func54, by kernel_rfl, rfl⟩
set_option maxHeartbeats 1600000 in
theorem s_l1Below_c (cv : Value) (l : List Int) (cb : Nat) (i h n : Int) (w : World) (hcp : CodeP w cv l) (hi : 0 ≤ i ∧ i ≤ (l.length : Int)) (ho : Own w [.blk cb (cells3 cv i h)]) :
    GivesU Tryz.prog 54 #[.pointer (some ⟨cb, 0, none⟩), .int .i64 n] w [.blk cb (cells3 cv i h)] (fun v new => ∃ x, ((n ≤ 0 → x = 0) ∧ (0 < n → 0 ≤ x ∧ x < n)) ∧ v = .int .i64 x ∧ CurP cv l cb new) := by
  have hap := code_apart hcp ho
  refine givesU_enterX (X := [cb]) (args := [_, _]) rfl ho en_s_l1Below Tryz.func54 rfl Tryz.ntmps54 rfl ?_
  by_cases h0 : n ≤ 0
  · repeat' (first | apply pwp_seq | apply pwp_region | (apply px_run; (first | (apply opv_move; first | exact hid_int rfl) | (apply opv_assign; first | exact hid_int rfl) | (apply opv_leq <;> rfl)); rfl; rfl) | apply px_nil | apply qseq_normal | apply qseq_ret | apply pwp_ret | (apply pwp_cond_dec; rfl; all_goals (intro hc; try (first | contradiction))))
    refine qbody_ret1 (v := .int _ _) rfl rfl ⟨_, ⟨_, ⟨fun _ => rfl, fun h => by omega⟩, rfl, ⟨_, _, hi, rfl⟩⟩, fun w' h => h⟩
  by_cases h256 : n ≤ 256
  · repeat' (first | apply pwp_seq | apply pwp_region | (apply px_run; (first | (apply opv_rem; rfl; rfl; omega) | (apply opv_move; first | exact hid_int rfl | exact hid_ptr rfl) | (apply opv_assign; first | exact hid_int rfl) | (apply opv_leq <;> rfl)); rfl; rfl) | apply px_nil | apply qseq_normal | apply qseq_ret | apply pwp_skip | apply pwp_ret | (apply pwp_cond_dec; rfl; all_goals (intro hc; try (first | contradiction))) | (apply px_givesV [0]; rfl; rfl; rfl; rfl; rfl; (exact fun w' hw ho' => s_l1Byte_c cv l cb _ _ w' (hcp.at hap hw) (by assumption) ho'); rintro _ _ ⟨x, hx, rfl, ⟨_, _, hi, rfl⟩⟩))
    refine qbody_ret1 (v := .int _ _) rfl rfl ⟨_, ⟨_, ⟨fun h => by omega, fun h => tmod_in hx.1 h⟩, rfl, ⟨_, _, by assumption, rfl⟩⟩, fun w' h => h⟩
  · repeat' (first | apply pwp_seq | apply pwp_region | (apply px_run; (first | (apply opv_rem; rfl; rfl; omega) | (apply opv_move; first | exact hid_int rfl | exact hid_ptr rfl) | (apply opv_assign; first | exact hid_int rfl) | (apply opv_leq <;> rfl) | (apply opv_add_in; rfl; rfl; omega) | (apply opv_mul_in; rfl; rfl; omega)); rfl; rfl) | apply px_nil | apply qseq_normal | apply pwp_skip | apply pwp_ret | (apply pwp_cond_dec; rfl; all_goals (intro hc; try (first | contradiction))) | (apply px_givesV [0]; rfl; rfl; rfl; rfl; rfl; (exact fun w' hw ho' => s_l1Byte_c cv l cb _ _ w' (hcp.at hap hw) (by assumption) ho'); rintro _ _ ⟨x, hx, rfl, ⟨_, _, hi, rfl⟩⟩))
    refine qbody_ret1 (v := .int _ _) rfl rfl ⟨_, ⟨_, ⟨fun h => by omega, fun h => tmod_in (by omega) h⟩, rfl, ⟨_, _, by assumption, rfl⟩⟩, fun w' h => h⟩
theorem en_s_l1Once : Entry Tryz.prog 38 := ⟨_, Tryz.func38, by kernel_rfl, rfl⟩
theorem s_l1Once_c (cv : Value) (l : List Int) (cb : Nat) (i h n : Int) (w : World) (hcp : CodeP w cv l) (hi : 0 ≤ i ∧ i ≤ (l.length : Int)) (ho : Own w [.blk cb (cells3 cv i h)]) :
    GivesU Tryz.prog 38 #[.pointer (some ⟨cb, 0, none⟩), .int .i64 n] w [.blk cb (cells3 cv i h)] (fun v new => ∃ b, v = .bool b ∧ CurP cv l cb new) := by
  have hap := code_apart hcp ho
  refine givesU_enterX (X := [cb]) (args := [_, _]) rfl ho en_s_l1Once Tryz.func38 rfl Tryz.ntmps38 rfl ?_
  repeat' (first | apply pwp_seq | apply pwp_region | (apply px_run; (first | (apply opv_move; first | exact hid_int rfl | exact hid_ptr rfl) | (apply opv_assign; first | exact hid_bool rfl) | (apply opv_eql <;> rfl)); rfl; rfl) | apply px_nil | apply qseq_normal | apply pwp_ret | (apply px_givesV [0]; rfl; rfl; rfl; rfl; rfl; (exact fun w' hw ho' => s_l1Below_c cv l cb _ _ _ w' (hcp.at hap hw) (by assumption) ho'); rintro _ _ ⟨x, hx, rfl, ⟨_, _, hi, rfl⟩⟩))
  refine qbody_ret1 (v := .bool _) rfl rfl ⟨_, ⟨_, rfl, ⟨_, _, by assumption, rfl⟩⟩, fun w' h => h⟩
theorem rd_ne {w : World} {lv : Value} {vs : List Value} {cb : Nat} (hlv : Arr w lv vs) (hne : ∀ b off n c, lv = .slice (some ⟨b, off, none⟩) n c → b ≠ cb) (objs : List Ob) : Rd (Cl [cb] w objs) lv vs :=
  ⟨fun w' hw => hw.arrX hlv (fun b off n c e hb => absurd (show b = cb by simpa using hb) (hne b off n c e))⟩
theorem en_s_l1PickInt : Entry Tryz.prog 55 := ⟨_, Tryz.func55, by kernel_rfl, rfl⟩
theorem s_l1PickInt_c (cv lv : Value) (l L : List Int) (cb : Nat) (i h : Int) (w : World) (hcp : CodeP w cv l) (hi : 0 ≤ i ∧ i ≤ (l.length : Int)) (ho : Own w [.blk cb (cells3 cv i h)]) (hlv : Arr w lv (ints L)) (hne : ∀ b off n c, lv = .slice (some ⟨b, off, none⟩) n c → b ≠ cb) (h0 : 0 < L.length) :
    GivesU Tryz.prog 55 #[.pointer (some ⟨cb, 0, none⟩), lv] w [.blk cb (cells3 cv i h)] (fun v new => ∃ x, x ∈ L ∧ v = .int .i64 x ∧ CurP cv l cb new) := by
  have hap := code_apart hcp ho
  have rdL := rd_ne hlv hne
  refine givesU_enterX (X := [cb]) (args := [_, _]) rfl ho en_s_l1PickInt Tryz.func55 rfl Tryz.ntmps55 rfl ?_
  repeat' (first | apply pwp_seq | apply pwp_region | (apply px_run; (first | (apply opv_len_ints el_int; rfl; exact rdL _) | (apply opv_index el_int; rfl; rfl; exact rdL _; omega; (rw [ints_length]; omega)) | (apply opv_load_ints sc_int; rfl; exact rdL _; omega) | (apply opv_move; first | exact hid_ptr rfl | rfl) | (apply opv_assign; first | exact hid_int rfl)); rfl; rfl) | apply px_nil | apply qseq_normal | apply pwp_ret | (apply px_givesV [0]; rfl; rfl; rfl; rfl; rfl; (exact fun w' hw ho' => s_l1Below_c cv l cb _ _ _ w' (hcp.at hap hw) (by assumption) ho'); rintro _ _ ⟨x, hx, rfl, ⟨_, _, hi, rfl⟩⟩))
  refine qbody_ret1 (v := .int _ _) rfl rfl ⟨_, ⟨_, ?_, rfl, ⟨_, _, by assumption, rfl⟩⟩, fun w' h => h⟩
  have hlt : x.toNat < L.length := by omega
  simp [List.getD, hlt]
def strsD (l : List ByteArray) : List Value := l.map Value.string
theorem info_strD : (Tryz.prog.info? 9).map (fun i => (i.zero, i.size, i.bytes)) = some (some (.string ByteArray.empty), 1, 16) := by kernel_rfl
theorem ez_strD : ElemZ Tryz.prog 61 9 (.string ByteArray.empty) 16 := ⟨Tryz.underlying61, info_strD, rfl⟩
theorem el_strD : Elem1 Tryz.prog 61 9 := ⟨Tryz.underlying61, by obtain ⟨i, h1, _, h2, _⟩ := info_parts info_strD; exact ⟨i, h1, h2⟩⟩
theorem sc_strD : Scalar Tryz.prog 9 := scalar_string Tryz.underlying9
theorem en_s_l1Pick : Entry Tryz.prog 81 := ⟨_, Tryz.func81, by kernel_rfl, rfl⟩
theorem s_l1Pick_c (cv lv : Value) (l : List Int) (L : List ByteArray) (cb : Nat) (i h : Int) (w : World) (hcp : CodeP w cv l) (hi : 0 ≤ i ∧ i ≤ (l.length : Int)) (ho : Own w [.blk cb (cells3 cv i h)]) (hlv : Arr w lv (strsD L)) (hne : ∀ b off n c, lv = .slice (some ⟨b, off, none⟩) n c → b ≠ cb) (h0 : 0 < L.length) :
    GivesU Tryz.prog 81 #[.pointer (some ⟨cb, 0, none⟩), lv] w [.blk cb (cells3 cv i h)] (fun v new => ∃ x, x ∈ L ∧ v = .string x ∧ CurP cv l cb new) := by
  have hap := code_apart hcp ho
  have rdL := rd_ne hlv hne
  have hll : (strsD L).length = L.length := List.length_map ..
  refine givesU_enterX (X := [cb]) (args := [_, _]) rfl ho en_s_l1Pick Tryz.func81 rfl Tryz.ntmps81 rfl ?_
  have hget : ∀ x : Int, 0 ≤ x → x < (L.length : Int) → (strsD L)[x.toNat]? = some (.string (L.getD x.toNat ByteArray.empty)) := fun x h1 h2 => by
    have : x.toNat < L.length := by omega
    simp [strsD, this]
  repeat' (first | apply pwp_seq | apply pwp_region | (apply px_run; (first | (apply opv_len el_strD; rfl; exact rdL _) | (apply opv_index el_strD; rfl; rfl; exact rdL _; omega; omega) | (apply opv_load_arr sc_strD; rfl; exact rdL _; exact hget _ (by omega) (by omega)) | (apply opv_move; first | exact hid_ptr rfl | rfl) | (apply opv_assign; first | rfl)); rfl; rfl) | apply px_nil | apply qseq_normal | apply pwp_ret | (apply px_givesV [0]; rfl; rfl; rfl; rfl; rfl; (exact fun w' hw ho' => s_l1Below_c cv l cb _ _ _ w' (hcp.at hap hw) (by assumption) ho'); rintro _ _ ⟨x, hx, rfl, ⟨_, _, hi, rfl⟩⟩))
  refine qbody_ret1 (v := .string _) rfl rfl ⟨_, ⟨_, ?_, rfl, ⟨_, _, by assumption, rfl⟩⟩, fun w' h => h⟩
  have hlt : x.toNat < L.length := by omega
  simp [List.getD, hlt]
theorem en_s_l1New : Entry Tryz.prog 27 := ⟨_, Tryz.func27, by kernel_rfl, rfl⟩
set_option maxRecDepth 100000 in
set_option maxHeartbeats 800000 in
theorem s_l1New_c (cv : Value) (l : List Int) (w : World) (hcp : CodeP w cv l) :
    Gives Tryz.prog 27 #[cv] w (fun v objs => ∃ cb h, v = .pointer (some ⟨cb, 0, none⟩) ∧ objs = [.blk cb (cells3 cv 0 h)]) := by
  refine gives_enter (args := [_]) en_s_l1New Tryz.func27 rfl Tryz.ntmps27 rfl ?_
  obtain ⟨ao, ln, cp, rfl⟩ := arr_slice hcp.arr
  have hbl : (byts l).length = l.length := byts_length l
  have hlen := hcp.len
  have rd : ∀ objs, Rd (Cl [] w objs) (.slice ao ln cp) (byts l) := fun objs => ⟨fun w' hw => hw.arr hcp.arr⟩
  repeat' (first | apply pwp_seq | apply pwp_region | (apply px_run; (first | (apply opv_len el_byteD; rfl; exact rd _) | (apply opv_move; first | rfl) | (apply opv_assign; first | exact hid_int rfl | exact hid_ptr rfl) | (apply opv_add_in; rfl; rfl; omega)); rfl; rfl) | apply px_nil | apply qseq_normal | apply pwp_block)
  refine pwp_loop (τ := Nat × Int) [(3,4), (8,27)] (fun x => [(4, .int .i64 (x.1 : Int)), (3, .int .i64 x.2)]) (fun x => Cl [] w []) (fun x => x.1 ≤ l.length) (fun x => l.length - x.1) (0, _)
    ⟨rfl, rfl, trivial⟩ (Nat.zero_le _) (fun w' h => by exact Cl.sub (by assumption) (by repeat (first | exact List.Sublist.slnil | exact List.Sublist.refl _ | apply List.Sublist.cons_cons | exact List.sublist_append_left _ _ | exact List.sublist_append_right _ _ | apply List.Sublist.cons))) (fun J x hx => ?_)
  obtain ⟨k, h⟩ := x
  dsimp only at hx ⊢
  by_cases hk : k < l.length
  · have hb := hcp.byte (l.getD k 0) (by simp [List.getD, hk])
    have hget := byts_get l k hk
    by_cases h4 : k < 4000
    · repeat' (first | apply pwp_seq | apply pwp_region | (apply px_run; (first | (apply opv_len el_byteD; rfl; exact rd _) | (apply opv_index_nat el_byteD; rfl; rfl; exact rd _; omega) | (apply opv_load_arr sc_byteD; rfl; exact rd _; exact hget) | (apply opv_conv_i64 Tryz.underlying5 Tryz.underlying3; rfl; omega) | (apply opv_move; first | exact hid_int rfl | exact hid_bool rfl | rfl) | (apply opv_assign; first | exact hid_int rfl) | (apply opv_lss <;> rfl) | (apply opv_and <;> rfl) | (apply opv_pick_t <;> rfl) | (apply opv_add_in; rfl; rfl; omega) | (apply opv_add <;> rfl) | (apply opv_mul <;> rfl)); rfl; rfl) | apply px_nil | apply qseq_normal | apply pwp_block | apply qblock_normal | apply pwp_skip | (apply px_guard_dec; rfl; rfl; rfl; all_goals (intro hc; try (first | (exfalso; omega)))) | (apply pwp_cond_dec; rfl; all_goals (intro hc; try (first | (exfalso; omega)))))
      refine qround_normal ?_ ⟨(k + 1, _), ⟨rfl, rfl, trivial⟩, by dsimp only; omega, by dsimp only; omega, fun w' h => ?_⟩
      · repeat (first | exact same_refl | refine same_upd rfl ?_ | refine same_junk rfl ?_)
      · exact Cl.sub (by assumption) (by repeat (first | exact List.Sublist.slnil | exact List.Sublist.refl _ | apply List.Sublist.cons_cons | exact List.sublist_append_left _ _ | exact List.sublist_append_right _ _ | apply List.Sublist.cons))
    · repeat' (first | apply pwp_seq | apply pwp_region | (apply px_run; (first | (apply opv_len el_byteD; rfl; exact rd _) | (apply opv_build_arr (cells := (cells3 (.slice ao ln cp) 0 h).toArray) rfl; simp only [List.map_toArray, List.map_cons, List.map_nil, List.toList_toArray]; exact built_C _ _ _ _) | (apply opv_move; first | exact hid_int rfl | exact hid_bool rfl | rfl) | (apply opv_assign; first | exact hid_ptr rfl) | (apply opv_lss <;> rfl) | (apply opv_pick_t <;> rfl)); rfl; rfl) | apply px_nil | apply qseq_normal | apply qseq_exit | (apply qblock_exit_same; rfl) | apply pwp_exit | apply pwp_ret | apply qround_exit | (apply px_guard_dec; rfl; rfl; rfl; all_goals (intro hc; try (first | (exfalso; omega)))) | (apply pwp_cond_dec; rfl; all_goals (intro hc; try (first | (exfalso; omega)))) | (apply px_box; rfl; rfl; rfl; rfl; intro bk))
      refine qbody_ret1 (v := .pointer _) rfl rfl ⟨_, ⟨_, h, rfl, rfl⟩, fun w' h => h⟩
  · repeat' (first | apply pwp_seq | apply pwp_region | (apply px_run; (first | (apply opv_len el_byteD; rfl; exact rd _) | (apply opv_build_arr (cells := (cells3 (.slice ao ln cp) 0 h).toArray) rfl; simp only [List.map_toArray, List.map_cons, List.map_nil, List.toList_toArray]; exact built_C _ _ _ _) | (apply opv_move; first | exact hid_int rfl | exact hid_bool rfl | rfl) | (apply opv_assign; first | exact hid_ptr rfl) | (apply opv_lss <;> rfl) | (apply opv_pick_f <;> rfl)); rfl; rfl) | apply px_nil | (apply px_skip; rfl; rfl) | apply qseq_normal | apply qseq_exit | (apply qblock_exit_same; rfl) | apply pwp_exit | apply pwp_ret | apply qround_exit | (apply pwp_cond_f; rfl) | (apply px_guard_dec; rfl; rfl; rfl; all_goals (intro hc; try (first | (exfalso; omega)))) | (apply px_box; rfl; rfl; rfl; rfl; intro bk))
    refine qbody_ret1 (v := .pointer _) rfl rfl ⟨_, ⟨_, h, rfl, rfl⟩, fun w' h => h⟩
end Go.Proofs.YtoejpckfeflkaaaGreatDoor
