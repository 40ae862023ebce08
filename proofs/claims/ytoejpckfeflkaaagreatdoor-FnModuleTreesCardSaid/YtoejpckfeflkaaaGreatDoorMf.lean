import Derived.Test.YtoejpckfeflkaaaGreatDoorGs
import Derived.Test.YtoejpckfeflkaaaGreatDoorPwCat
import Derived.Test.YtoejpckfeflkaaaGreatDoorPwStx
import Derived.Test.YtoejpckfeflkaaaGreatDoorPwPct
import Derived.Test.YtoejpckfeflkaaaGreatDoorPwPlt
import Derived.Lib.Join
import Derived.Shelf.Strings.OnBuilder
import Derived.Test.YtoejpckfeflkaaaGreatDoorProg
import Derived.Test.YtoejpckfeflkaaaGreatDoorTd
import Derived.Test.YtoejpckfeflkaaaGreatDoorPwTail
/- Numbers and sets as text. -/
namespace Go.Proofs.YtoejpckfeflkaaaGreatDoor
open Go Go.RowKit Go.Pw
theorem ty_str : Tryz.prog.underlying 9 = some .string := Tryz.underlying9
theorem ty_byte : Tryz.prog.underlying 5 = some (.int .u8) := Tryz.underlying5
theorem ty_bytes : Tryz.prog.underlying 22 = some (.slice 5) := Tryz.underlying22
theorem info_byte : (Tryz.prog.info? 5).map (fun i => (i.zero, i.size, i.bytes)) = some (some (.int .u8 0), 1, 1) := by kernel_rfl
theorem ez_byte : ElemZ Tryz.prog 22 5 (.int .u8 0) 1 := ⟨Tryz.underlying22, info_byte, rfl⟩
theorem en_x_internal_strconv_small : Entry Tryz.prog 103 := ⟨_, Tryz.func103, by kernel_rfl, rfl⟩
theorem x_small_c (n : Nat) (w : World) (hn : n ≤ 6) : Pure Tryz.prog 103 #[.int .i64 n] w (.string (digI n)) := by
  refine pure_enter (args := [_]) en_x_internal_strconv_small Tryz.func103 rfl Tryz.ntmps103 rfl ?_
  have hs : (ByteArray.mk #[48, 49, 50, 51, 52, 53, 54, 55, 56, 57, 97, 98, 99, 100, 101, 102, 103, 104, 105, 106, 107, 108, 109, 110, 111, 112, 113, 114, 115, 116, 117, 118, 119, 120, 121, 122]).size = 36 := rfl
  repeat' (first | apply pwp_seq | apply pwp_region | (apply px_run; (first | (apply opv_slice_str ty_str; rfl; rfl; rfl; (rw [hs]; omega)) | (apply opv_move; first | exact hid_int rfl) | (apply opv_assign; first | rfl) | (apply opv_lss <;> rfl) | (apply opv_add_in; rfl; rfl; omega)); rfl; rfl) | apply px_nil | apply qseq_normal | apply qseq_ret | apply pwp_ret | (apply pwp_cond_dec; rfl; all_goals (intro hc; try (first | (exfalso; omega)))))
  refine qbody_ret1 (v := .string _) rfl rfl ⟨?_, fun _ h => h.below⟩
  have : n = 0 ∨ n = 1 ∨ n = 2 ∨ n = 3 ∨ n = 4 ∨ n = 5 ∨ n = 6 := by omega
  rcases this with rfl | rfl | rfl | rfl | rfl | rfl | rfl <;> rfl
theorem en_x_internal_strconv_FormatInt : Entry Tryz.prog 102 := ⟨_, Tryz.func102, by kernel_rfl, rfl⟩
theorem x_FormatInt_c (n : Nat) (w : World) (hn : n ≤ 6) : Pure Tryz.prog 102 #[.int .i64 n, .int .i64 10] w (.string (digI n)) := by
  refine pure_enter (args := [_, _]) en_x_internal_strconv_FormatInt Tryz.func102 rfl Tryz.ntmps102 rfl ?_
  repeat' (first | apply pwp_seq | apply pwp_region | (apply px_run; (first | (apply opv_move; first | exact hid_int rfl | exact hid_bool rfl) | (apply opv_assign; first | rfl) | (apply opv_lss <;> rfl) | (apply opv_leq <;> rfl) | (apply opv_eql <;> rfl) | (apply opv_pick_t <;> rfl) | (apply opv_call; rfl; rfl; exact Cl.stable _ _ _; exact fun w hw => x_small_c n _ hn)); rfl; rfl) | apply px_nil | apply qseq_normal | apply qseq_ret | apply pwp_ret | (apply pwp_cond_t; rfl) | (apply pwp_cond_dec; rfl; all_goals (intro hc; try (first | (exfalso; omega)))))
  refine qbody_ret1 (v := .string _) rfl rfl ⟨rfl, fun _ h => h.below⟩
theorem en_x_internal_strconv_Itoa : Entry Tryz.prog 101 := ⟨_, Tryz.func101, by kernel_rfl, rfl⟩
theorem x_Itoa_c (n : Nat) (w : World) (hn : n ≤ 6) : Pure Tryz.prog 101 #[.int .i64 n] w (.string (digI n)) := by
  refine pure_enter (args := [_]) en_x_internal_strconv_Itoa Tryz.func101 rfl Tryz.ntmps101 rfl ?_
  repeat' (first | apply pwp_seq | apply pwp_region | (apply px_run; (first | (apply opv_move; first | exact hid_int rfl) | (apply opv_assign; first | rfl) | (apply opv_call; rfl; rfl; exact Cl.stable _ _ _; exact fun w hw => x_FormatInt_c n _ hn)); rfl; rfl) | apply px_nil | apply qseq_normal | apply pwp_ret)
  refine qbody_ret1 (v := .string _) rfl rfl ⟨rfl, fun _ h => h.below⟩
theorem en_x_strconv_Itoa : Entry Tryz.prog 97 := ⟨_, Tryz.func97, by kernel_rfl, rfl⟩
theorem x_itoa_c (n : Nat) (w : World) (hn : n ≤ 6) : Pure Tryz.prog 97 #[.int .i64 n] w (.string (digI n)) := by
  refine pure_enter (args := [_]) en_x_strconv_Itoa Tryz.func97 rfl Tryz.ntmps97 rfl ?_
  repeat' (first | apply pwp_seq | apply pwp_region | (apply px_run; (first | (apply opv_move; first | exact hid_int rfl) | (apply opv_assign; first | rfl) | (apply opv_call; rfl; rfl; exact Cl.stable _ _ _; exact fun w hw => x_Itoa_c n _ hn)); rfl; rfl) | apply px_nil | apply qseq_normal | apply pwp_ret)
  refine qbody_ret1 (v := .string _) rfl rfl ⟨rfl, fun _ h => h.below⟩
theorem en_i_FormatInt : Entry Tryz.prog 88 := ⟨_, Tryz.func88, by kernel_rfl, rfl⟩
theorem i_FormatInt_c (n : Nat) (w : World) (hn : n ≤ 6) : Pure Tryz.prog 88 #[.int .i64 n] w (.string (digI n)) := by
  refine pure_enter (args := [_]) en_i_FormatInt Tryz.func88 rfl Tryz.ntmps88 rfl ?_
  repeat' (first | apply pwp_seq | apply pwp_region | (apply px_run; (first | (apply opv_move; first | exact hid_int rfl) | (apply opv_assign; first | rfl) | (apply opv_call; rfl; rfl; exact Cl.stable _ _ _; exact fun w hw => x_itoa_c n _ hn)); rfl; rfl) | apply px_nil | apply qseq_normal | apply pwp_ret)
  refine qbody_ret1 (v := .string _) rfl rfl ⟨rfl, fun _ h => h.below⟩
theorem en_s_FormatInt : Entry Tryz.prog 72 := ⟨_, Tryz.func72, by kernel_rfl, rfl⟩
theorem s_FormatInt_c (n : Nat) (w : World) (hn : n ≤ 6) : Pure Tryz.prog 72 #[.int .i64 n] w (.string (digI n)) := by
  refine pure_enter (args := [_]) en_s_FormatInt Tryz.func72 rfl Tryz.ntmps72 rfl ?_
  by_cases h0 : n = 0
  · subst h0
    repeat' (first | apply pwp_seq | apply pwp_region | (apply px_run; (first | (apply opv_move; first | exact hid_int rfl) | (apply opv_assign; first | rfl) | (apply opv_eql <;> rfl)); rfl; rfl) | apply px_nil | apply qseq_normal | apply qseq_ret | apply pwp_ret | (apply pwp_cond_t; rfl))
    refine qbody_ret1 (v := .string _) rfl rfl ⟨rfl, fun _ h => h.below⟩
  have e1 : Int.tmod (n : Int) 10 = n := by rw [Int.tmod_eq_emod_of_nonneg (by omega)]; omega
  have e2 : w64 (Int.tdiv (n : Int) 10) = 0 := by rw [show Int.tdiv (n : Int) 10 = 0 by rw [Int.tdiv_eq_ediv_of_nonneg (by omega)]; omega]; rfl
  have e3 : (ByteArray.mk #[UInt8.ofNat (IntKind.u8.wrap (48 + (n : Int))).toNat]) = digI n := by
    have : n = 0 ∨ n = 1 ∨ n = 2 ∨ n = 3 ∨ n = 4 ∨ n = 5 ∨ n = 6 := by omega
    rcases this with rfl | rfl | rfl | rfl | rfl | rfl | rfl <;> rfl
  repeat' (first | apply pwp_seq | apply pwp_region | (apply px_run; (first | (apply opv_move; first | exact hid_int rfl) | (apply opv_assign; first | exact hid_bool rfl | rfl) | (apply opv_lss <;> rfl) | (apply opv_eql <;> rfl)); rfl; rfl) | apply px_nil | apply qseq_normal | apply pwp_block | apply pwp_skip | (apply pwp_cond_dec; rfl; all_goals (intro hc; try (first | (exfalso; omega)))))
  refine pwp_loop (τ := Bool) [(0,0), (3,3), (5,5), (10,26)] (fun x => [(3, .string (if x then digI n else ByteArray.empty)), (0, .int .i64 (if x then 0 else n : Int))]) (fun x => Cl [] w []) (fun x => True) (fun x => if x then 0 else 1) false
    ⟨rfl, rfl, trivial⟩ trivial (fun w' h => by exact Cl.sub (by assumption) (by repeat (first | exact List.Sublist.slnil | exact List.Sublist.refl _ | apply List.Sublist.cons_cons | exact List.sublist_append_left _ _ | exact List.sublist_append_right _ _ | apply List.Sublist.cons))) (fun J x hx => ?_)
  cases x with
  | true =>
    simp only [if_true]
    repeat' (first | apply pwp_seq | apply pwp_region | (apply px_run; (first | (apply opv_move; first | exact hid_int rfl | exact hid_bool rfl | rfl) | (apply opv_assign; first | rfl) | (apply opv_neq <;> rfl)); rfl; rfl) | apply px_nil | apply qseq_normal | apply qseq_exit | (apply qblock_exit_same; rfl) | apply pwp_skip | apply pwp_exit | apply pwp_ret | apply qround_exit | (apply pwp_cond_f; rfl))
    refine qbody_ret1 (v := .string _) rfl rfl ⟨rfl, fun _ h => h.below⟩
  | false =>
    simp only [Bool.false_eq_true, if_false]
    repeat' (first | apply pwp_seq | apply pwp_region | (apply px_run; (first | (apply opv_rem_n; rfl; rfl; omega) | (apply opv_quo_n; rfl; rfl; omega) | (apply opv_byte_str ty_bytes ty_byte ty_str; rfl; exact rd_row 0 rfl) | (apply opv_cat; rfl; rfl; (show (1 : Nat) + 0 ≤ 4611686018427387904); omega) | (apply opv_move; first | exact hid_int rfl | rfl) | (apply opv_assign; first | exact hid_int rfl | rfl) | (apply opv_lss <;> rfl) | (apply opv_neq <;> rfl) | (apply opv_add_in; rfl; rfl; omega) | (apply opv_conv Tryz.underlying3 Tryz.underlying5; rfl)); rfl; rfl) | apply px_nil | apply qseq_normal | apply pwp_block | apply qblock_normal | apply pwp_skip | (apply pwp_cond_f; rfl) | (apply pwp_cond_ndec; rfl; all_goals (intro hc; try (first | contradiction))) | (apply px_lit1 ez_byte; rfl; (intro w hw; rfl); rfl; rfl; rfl; intro sv))
    have e5 : digI (n : Int) = (ByteArray.mk #[UInt8.ofNat (IntKind.u8.wrap (48 + (n : Int))).toNat]) ++ ByteArray.empty := by rw [e3, ByteArray.append_empty]
    refine qround_normal ?_ ⟨true, ⟨by (show _ = Value.string (digI (n : Int))); rw [e5]; rfl, rfl, trivial⟩, trivial, by decide, fun w' h => ?_⟩
    · repeat (first | exact same_refl | refine same_upd rfl ?_ | refine same_junk rfl ?_)
    · exact Cl.sub (by assumption) (by repeat (first | exact List.Sublist.slnil | exact List.Sublist.refl _ | apply List.Sublist.cons_cons | exact List.sublist_append_left _ _ | exact List.sublist_append_right _ _ | apply List.Sublist.cons))
theorem en_i_digits : Entry Tryz.prog 68 := ⟨_, Tryz.func68, by kernel_rfl, rfl⟩
theorem i_digits_c (v : Value) (l : List Int) (w : World) (hr : Arr w v (ints l)) (hl : l.length ≤ 7) (hb : ∀ x ∈ l, 0 ≤ x ∧ x ≤ 6) : Pure Tryz.prog 68 #[v] w (.string (digsB l)) := by
  refine pure_enter (args := [_]) en_i_digits Tryz.func68 rfl Tryz.ntmps68 rfl ?_
  repeat' (first | apply pwp_seq | apply pwp_region | (apply px_run; (first | (apply opv_move; first | exact hid_int rfl | rfl) | (apply opv_assign; first | rfl) | (apply opv_len_ints el_int; rfl; (first | exact rd_old (by assumption)))); rfl; rfl) | apply px_nil | apply qseq_normal | apply pwp_block)
  refine pwp_loop (τ := Nat) [(3,3), (5,5), (8,16)] (fun i => [(8, .int .i64 (i : Int)), (3, .string (digsB (l.take i)))]) (fun i => Cl [] w []) (fun i => i ≤ l.length) (fun i => l.length - i) 0
    ⟨rfl, rfl, trivial⟩ (Nat.zero_le _) (fun w' h => by exact Cl.sub (by assumption) (by repeat (first | exact List.Sublist.slnil | exact List.Sublist.refl _ | apply List.Sublist.cons_cons | exact List.sublist_append_left _ _ | exact List.sublist_append_right _ _ | apply List.Sublist.cons))) (fun J i hi => ?_)
  by_cases hlt : i < l.length
  · have hpm : l.getD i 0 ∈ l := by simp [List.getD, hlt]
    obtain ⟨hp0, hp6⟩ := hb _ hpm
    obtain ⟨k, hk⟩ : ∃ k : Nat, l.getD i 0 = (k : Int) := ⟨(l.getD i 0).toNat, by omega⟩
    have hs1 := digsB_size (l.take i)
    have hs2 : (l.take i).length ≤ 7 := by rw [List.length_take]; omega
    have hs3 := digI_size (l.getD i 0)
    have kF : ∀ w', Pure Tryz.prog 88 #[.int .i64 (l.getD i 0)] w' (.string (digI (l.getD i 0))) := fun w' => by
      rw [hk]; exact i_FormatInt_c k w' (by omega)
    have htk : digsB (l.take (i + 1)) = digsB (l.take i) ++ digI (l.getD i 0) := digsB_take hlt
    repeat' (first | apply pwp_seq | apply pwp_region | (apply px_run; (first | (apply opv_cat; rfl; rfl; omega) | (apply opv_move; first | exact hid_int rfl | rfl) | (apply opv_assign; first | exact hid_int rfl | rfl) | (apply opv_lss <;> rfl) | (apply opv_add_in; rfl; rfl; omega) | (apply opv_load_ints sc_int; rfl; (first | exact rd_old (by assumption)); (first | omega)) | (apply opv_index_nat (vs := ints _) el_int; rfl; rfl; (first | exact rd_old (by assumption)); (first | (simp only [ints_length]; omega))) | (apply opv_call; rfl; rfl; exact Cl.stable _ _ _; exact fun w hw => kF _)); rfl; rfl) | apply px_nil | apply qseq_normal | apply pwp_block | apply qblock_normal | apply pwp_skip | (apply pwp_cond_dec; rfl; all_goals (intro hc; try (first | (exfalso; omega)))))
    refine qround_normal ?_ ⟨i + 1, ⟨rfl, by rw [htk]; rfl, trivial⟩, by (try dsimp only); omega, by (try dsimp only); omega, fun w' h => ?_⟩
    · repeat (first | exact same_refl | refine same_upd rfl ?_ | refine same_junk rfl ?_)
    · exact Cl.sub (by assumption) (by repeat (first | exact List.Sublist.slnil | exact List.Sublist.refl _ | apply List.Sublist.cons_cons | exact List.sublist_append_left _ _ | exact List.sublist_append_right _ _ | apply List.Sublist.cons))
  · obtain rfl : i = l.length := by omega
    rw [List.take_length]
    repeat' (first | apply pwp_seq | apply pwp_region | (apply px_run; (first | (apply opv_move; first | rfl) | (apply opv_assign; first | rfl) | (apply opv_lss <;> rfl)); rfl; rfl) | apply px_nil | apply qseq_normal | apply qseq_exit | (apply qblock_exit_same; rfl) | apply pwp_exit | apply pwp_ret | apply qround_exit | (apply pwp_cond_dec; rfl; all_goals (intro hc; try (first | (exfalso; omega)))))
    refine qbody_ret1 (v := .string _) rfl rfl ⟨rfl, fun _ h => h.below⟩
theorem en_i_FormatSet : Entry Tryz.prog 43 := ⟨_, Tryz.func43, by kernel_rfl, rfl⟩
theorem i_FormatSet_c (set : Int) (w : World) : Pure Tryz.prog 43 #[.int .i64 set] w (.string (fmtS set)) := by
  refine pure_enter (args := [_]) en_i_FormatSet Tryz.func43 rfl Tryz.ntmps43 rfl ?_
  have kD : ∀ v w', Arr w' v (ints (listS set)) → Pure Tryz.prog 68 #[v] w' (.string (digsB (listS set))) := fun v w' h => i_digits_c v _ w' h (listS_length set) (listS_b6 set)
  by_cases h0 : set = 0
  · have hf : fmtS set = ⟨#[45]⟩ := if_pos h0
    rw [hf]
    repeat' (first | apply pwp_seq | apply pwp_region | (apply px_run; (first | (apply opv_move; first | exact hid_int rfl) | (apply opv_assign; first | rfl) | (apply opv_eql <;> rfl)); rfl; rfl) | apply px_nil | apply qseq_normal | apply qseq_ret | apply pwp_ret | (apply pwp_cond_dec; rfl; all_goals (intro hc; try (first | contradiction))))
    refine qbody_ret1 (v := .string _) rfl rfl ⟨rfl, fun _ h => h.below⟩
  · have hf : fmtS set = digsB (listS set) := if_neg h0
    rw [hf]
    repeat' (first | apply pwp_seq | apply pwp_region | (apply px_run; (first | (apply opv_move; first | exact hid_int rfl) | (apply opv_assign; first | rfl) | (apply opv_eql <;> rfl) | (apply opv_call; rfl; rfl; exact Cl.stable _ _ _; exact fun w hw => kD _ _ (by first | exact hw.rowArr (k := 0) rfl))); rfl; rfl) | apply px_nil | apply qseq_normal | apply pwp_skip | apply pwp_ret | (apply pwp_cond_dec; rfl; all_goals (intro hc; try (first | contradiction))) | (apply px_gives; rfl; rfl; rfl; rfl; rfl; exact fun w hw => i_ListOf_c set _; rintro sl _ rfl))
    refine qbody_ret1 (v := .string _) rfl rfl ⟨rfl, fun _ h => h.below⟩
theorem en_s_FormatSet : Entry Tryz.prog 45 := ⟨_, Tryz.func45, by kernel_rfl, rfl⟩
theorem s_FormatSet_c (set : Int) (w : World) : Pure Tryz.prog 45 #[.int .i64 set] w (.string (fmtS set)) := by
  refine pure_enter (args := [_]) en_s_FormatSet Tryz.func45 rfl Tryz.ntmps45 rfl ?_
  have hl := listS_length set
  have hb := listS_b6 set
  have hz : listS set = [] ↔ set = 0 ∨ ¬ (0 ≤ set ∧ set ≤ 127) := listS_nil set
  repeat' (first | apply pwp_seq | apply pwp_region | (apply px_run; (first | (apply opv_move; first | exact hid_int rfl) | (apply opv_assign; first | exact hid_int rfl | rfl)); rfl; rfl) | apply px_nil | apply qseq_normal | apply pwp_block | (apply px_gives; rfl; rfl; rfl; rfl; rfl; exact fun w hw => s_ListOf_c set _; rintro sl _ rfl))
  generalize hL : listS set = l at *
  refine pwp_loop (τ := Nat) [(4,5), (8,20)] (fun i => [(5, .int .i64 (i : Int)), (4, .string (digsB (l.take i)))]) (fun i => Cl [] w [.row 3 sl (ints l)]) (fun i => i ≤ l.length) (fun i => l.length - i) 0
    ⟨rfl, rfl, trivial⟩ (Nat.zero_le _) (fun w' h => by exact Cl.sub (by assumption) (by repeat (first | exact List.Sublist.slnil | exact List.Sublist.refl _ | apply List.Sublist.cons_cons | exact List.sublist_append_left _ _ | exact List.sublist_append_right _ _ | apply List.Sublist.cons))) (fun J i hi => ?_)
  by_cases hlt : i < l.length
  · have hpm : l.getD i 0 ∈ l := by simp [List.getD, hlt]
    obtain ⟨hp0, hp6⟩ := hb _ hpm
    obtain ⟨k, hk⟩ : ∃ k : Nat, l.getD i 0 = (k : Int) := ⟨(l.getD i 0).toNat, by omega⟩
    have hs1 := digsB_size (l.take i)
    have hs2 : (l.take i).length ≤ 7 := by rw [List.length_take]; omega
    have hs3 := digI_size (l.getD i 0)
    have kF : ∀ w', Pure Tryz.prog 72 #[.int .i64 (l.getD i 0)] w' (.string (digI (l.getD i 0))) := fun w' => by
      rw [hk]; exact s_FormatInt_c k w' (by omega)
    have htk : digsB (l.take (i + 1)) = digsB (l.take i) ++ digI (l.getD i 0) := digsB_take hlt
    repeat' (first | apply pwp_seq | apply pwp_region | (apply px_run; (first | (apply opv_cat; rfl; rfl; omega) | (apply opv_move; first | exact hid_int rfl | rfl) | (apply opv_assign; first | exact hid_int rfl | rfl) | (apply opv_lss <;> rfl) | (apply opv_add_in; rfl; rfl; omega) | (apply opv_load_ints sc_int; rfl; (first | exact rd_row 0 rfl); (first | omega)) | (apply opv_index_nat (vs := ints _) el_int; rfl; rfl; (first | exact rd_row 0 rfl); (first | (simp only [ints_length]; omega))) | (apply opv_len_ints el_int; rfl; (first | exact rd_row 0 rfl)) | (apply opv_call; rfl; rfl; exact Cl.stable _ _ _; exact fun w hw => kF _)); rfl; rfl) | apply px_nil | apply qseq_normal | apply pwp_block | apply qblock_normal | apply pwp_skip | (apply pwp_cond_dec; rfl; all_goals (intro hc; try (first | (exfalso; omega)))))
    refine qround_normal ?_ ⟨i + 1, ⟨rfl, by rw [htk]; rfl, trivial⟩, by (try dsimp only); omega, by (try dsimp only); omega, fun w' h => ?_⟩
    · repeat (first | exact same_refl | refine same_upd rfl ?_ | refine same_junk rfl ?_)
    · exact Cl.sub (by assumption) (by repeat (first | exact List.Sublist.slnil | exact List.Sublist.refl _ | apply List.Sublist.cons_cons | exact List.sublist_append_left _ _ | exact List.sublist_append_right _ _ | apply List.Sublist.cons))
  · obtain rfl : i = l.length := by omega
    rw [List.take_length]
    by_cases hn : l = []
    · have hE : ((digsB l).toList == (ByteArray.mk #[]).toList) = true := by rw [hn, ByteArray.toList_eq, ByteArray.toList_eq]; rfl
      by_cases hf : 0 ≤ set ∧ set ≤ 127
      · have h0 : set = 0 := by have := hz.1 hn; omega
        have hF : fmtS set = ⟨#[45]⟩ := if_pos h0
        rw [hF]
        repeat' (first | apply pwp_seq | apply pwp_region | (apply px_run; (first | (apply opv_eql_s_r rfl rfl hE) | (apply opv_move; first | exact hid_int rfl | exact hid_bool rfl | rfl) | (apply opv_assign; first | rfl) | (apply opv_lss <;> rfl) | (apply opv_pick_t <;> rfl) | (apply opv_len_ints el_int; rfl; (first | exact rd_row 0 rfl)) | (apply opv_call; rfl; rfl; exact Cl.stable _ _ _; exact fun w hw => s_l3Fine_c _ _)); rfl; rfl) | apply px_nil | apply qseq_normal | apply qseq_ret | apply qseq_exit | (apply qblock_exit_same; rfl) | apply pwp_exit | apply pwp_ret | apply qround_exit | (apply pwp_cond_dec; rfl; all_goals (intro hc; try (first | contradiction | (exfalso; omega)))))
        all_goals (refine qbody_ret1 (v := .string _) rfl rfl ⟨rfl, fun _ h => h.below⟩)
      · have hF : fmtS set = digsB l := by rw [← hL]; exact if_neg (by omega)
        rw [hF]
        repeat' (first | apply pwp_seq | apply pwp_region | (apply px_run; (first | (apply opv_eql_s_r rfl rfl hE) | (apply opv_move; first | exact hid_int rfl | exact hid_bool rfl | rfl) | (apply opv_assign; first | rfl) | (apply opv_lss <;> rfl) | (apply opv_pick_t <;> rfl) | (apply opv_len_ints el_int; rfl; (first | exact rd_row 0 rfl)) | (apply opv_call; rfl; rfl; exact Cl.stable _ _ _; exact fun w hw => s_l3Fine_c _ _)); rfl; rfl) | apply px_nil | apply qseq_normal | apply qseq_exit | (apply qblock_exit_same; rfl) | apply pwp_skip | apply pwp_exit | apply pwp_ret | apply qround_exit | (apply pwp_cond_dec; rfl; all_goals (intro hc; try (first | contradiction | (exfalso; omega)))))
        all_goals (refine qbody_ret1 (v := .string _) rfl rfl ⟨rfl, fun _ h => h.below⟩)
    · have hE : ((digsB l).toList == (ByteArray.mk #[]).toList) = false := by
        rw [beq_eq_false_iff_ne]
        intro h
        have h2 := congrArg List.length h
        rw [toList_len, toList_len, digsB_size] at h2
        exact hn (List.eq_nil_of_length_eq_zero h2)
      have hF : fmtS set = digsB l := by rw [← hL]; exact if_neg (fun h => hn (hz.2 (.inl h)))
      rw [hF]
      repeat' (first | apply pwp_seq | apply pwp_region | (apply px_run; (first | (apply opv_eql_s_r rfl rfl hE) | (apply opv_move; first | exact hid_int rfl | exact hid_bool rfl | rfl) | (apply opv_assign; first | rfl) | (apply opv_lss <;> rfl) | (apply opv_pick_f <;> rfl) | (apply opv_len_ints el_int; rfl; (first | exact rd_row 0 rfl))); rfl; rfl) | apply px_nil | (apply px_skip; rfl; rfl) | apply qseq_normal | apply qseq_exit | (apply qblock_exit_same; rfl) | apply pwp_skip | apply pwp_exit | apply pwp_ret | apply qround_exit | (apply pwp_cond_f; rfl) | (apply pwp_cond_dec; rfl; all_goals (intro hc; try (first | (exfalso; omega)))))
      all_goals (refine qbody_ret1 (v := .string _) rfl rfl ⟨rfl, fun _ h => h.below⟩)
end Go.Proofs.YtoejpckfeflkaaaGreatDoor
/- A module tree's text. -/
namespace Go.Pw
open Go Go.RowKit
def kindW (k : Int) : ByteArray := if k = 1 then ⟨#[112, 97, 114, 97, 108, 108, 101, 108]⟩ else if k = 2 then ⟨#[115, 101, 114, 105, 101, 115]⟩ else if k = 3 then ⟨#[112, 114, 105, 109, 101]⟩ else ⟨#[]⟩
def singleB : ByteArray := ⟨#[115, 105, 110, 103, 108, 101]⟩
theorem kindW_size (k : Int) : (kindW k).size ≤ 8 := by
  unfold kindW; split
  · decide
  · split
    · decide
    · split <;> decide
theorem kindW_pos {k : Int} (h : 1 ≤ k ∧ k ≤ 3) : 0 < (kindW k).size := by
  have : k = 1 ∨ k = 2 ∨ k = 3 := by omega
  rcases this with rfl | rfl | rfl <;> decide
def wordT (a b : List Int) (i : Nat) : ByteArray := fmtS (a.getD i 0) ++ kindW (b.getD i 0)
theorem fmtS_size (s : Int) : (fmtS s).size ≤ 7 := by
  unfold fmtS; split
  · decide
  · rw [digsB_size]; exact listS_length s
theorem wordT_size (a b : List Int) (i : Nat) : (wordT a b i).size ≤ 15 := by
  unfold wordT; rw [size_cat]
  have := fmtS_size (a.getD i 0); have := kindW_size (b.getD i 0); omega
def wordsT (a b : List Int) : Nat → List ByteArray
  | 0 => []
  | k + 1 => if b.getD k 0 = 0 then wordsT a b k else wordsT a b k ++ [wordT a b k]
theorem wordsT_length (a b : List Int) : ∀ k, (wordsT a b k).length ≤ k := by
  intro k
  induction k with
  | zero => exact Nat.le_refl _
  | succ k ih =>
    unfold wordsT; split
    · omega
    · rw [List.length_append]; simp; omega
theorem wordsT_mem (a b : List Int) : ∀ k, ∀ x ∈ wordsT a b k, ∃ i, i < k ∧ b.getD i 0 ≠ 0 ∧ x = wordT a b i := by
  intro k
  induction k with
  | zero => intro x hx; exact absurd hx List.not_mem_nil
  | succ k ih =>
    intro x hx
    unfold wordsT at hx
    split at hx
    · obtain ⟨i, h1, h2⟩ := ih x hx; exact ⟨i, by omega, h2⟩
    · rename_i hk
      rcases List.mem_append.1 hx with hx | hx
      · obtain ⟨i, h1, h2⟩ := ih x hx; exact ⟨i, by omega, h2⟩
      · rw [List.mem_singleton] at hx; exact ⟨k, by omega, hk, hx⟩
def accS (s x : ByteArray) : ByteArray := (if s.size = 0 then s else s ++ spB) ++ x
def accT (l : List ByteArray) : ByteArray := l.foldl accS ByteArray.empty
theorem accT_snoc (l : List ByteArray) (x : ByteArray) : accT (l ++ [x]) = accS (accT l) x := by simp [accT]
theorem spB_size : spB.size = 1 := rfl
theorem accS_size (s x : ByteArray) : (accS s x).size ≤ s.size + 1 + x.size := by
  unfold accS; rw [size_cat]; split
  · omega
  · rw [size_cat, spB_size]; omega
theorem accT_size {l : List ByteArray} (h : ∀ x ∈ l, x.size ≤ 15) : (accT l).size ≤ 16 * l.length := by
  suffices H : ∀ (l : List ByteArray) (s : ByteArray), (∀ x ∈ l, x.size ≤ 15) → (l.foldl accS s).size ≤ s.size + 16 * l.length by
    have := H l ByteArray.empty h
    simpa [accT] using this
  intro l
  induction l with
  | nil => intro s _; simp
  | cons x l ih =>
    intro s hs
    have h1 := ih (accS s x) (fun y hy => hs y (List.mem_cons_of_mem _ hy))
    have h2 := accS_size s x
    have h3 := hs x (List.mem_cons_self ..)
    rw [List.foldl_cons, List.length_cons]; omega
theorem fold_join : ∀ (l : List ByteArray) (s : ByteArray), 0 < s.size → (∀ x ∈ l, 0 < x.size) → (l.foldl accS s).data.toList = s.data.toList ++ Lib.joinTail [32] (l.map (·.data.toList)) := by
  intro l
  induction l with
  | nil => intro s _ _; simp [Lib.joinTail]
  | cons x l ih =>
    intro s hs hl
    have hx := hl x (List.mem_cons_self ..)
    have e : accS s x = (s ++ spB) ++ x := by unfold accS; rw [if_neg (by omega)]
    have h1 := ih (accS s x) (by rw [e, size_cat]; omega) (fun y hy => hl y (List.mem_cons_of_mem _ hy))
    rw [List.foldl_cons, h1, e]
    simp [Lib.joinTail, spB, ByteArray.data_append]
theorem acc_join {l : List ByteArray} (h : ∀ x ∈ l, 0 < x.size) : accT l = ⟨(Lib.join (l.map (·.data.toList)) [32]).toArray⟩ := by
  apply Go.WideShapes.bytes_inj
  cases l with
  | nil => rfl
  | cons x l =>
    have hx := h x (List.mem_cons_self ..)
    have e : accS ByteArray.empty x = x := by unfold accS; rw [if_pos (show ByteArray.empty.size = 0 from rfl)]; exact ByteArray.empty_append
    show (l.foldl accS (accS ByteArray.empty x)).data.toList = _
    rw [e, fold_join l x hx (fun y hy => h y (List.mem_cons_of_mem _ hy)), List.map_cons, Lib.join_cons]
theorem accT_pos {l : List ByteArray} (h : ∀ x ∈ l, 0 < x.size) (hn : l ≠ []) : 0 < (accT l).size := by
  suffices H : ∀ (l : List ByteArray) (s : ByteArray), (∀ x ∈ l, 0 < x.size) → (0 < s.size ∨ l ≠ []) → 0 < (l.foldl accS s).size from H l ByteArray.empty h (.inr hn)
  intro l
  induction l with
  | nil => intro s _ hs; rcases hs with hs | hs; exact hs; exact absurd rfl hs
  | cons x l ih =>
    intro s hl _
    have hx := hl x (List.mem_cons_self ..)
    exact ih (accS s x) (fun y hy => hl y (List.mem_cons_of_mem _ hy)) (.inl (by unfold accS; rw [size_cat]; omega))
theorem words_pos {a b c : List Int} (hf : fineT a b c) {k : Nat} (hk : k ≤ a.length) : ∀ x ∈ wordsT a b k, 0 < x.size := fun x hx => by
  obtain ⟨i, hi, hb, rfl⟩ := wordsT_mem a b k x hx
  have h := (hf.2.2.2.2 i (by omega)).2.1
  unfold wordT; rw [size_cat]
  have := kindW_pos (k := b.getD i 0) (by omega)
  omega
theorem words_le {a b : List Int} {k : Nat} : ∀ x ∈ wordsT a b k, x.size ≤ 15 := fun x hx => by
  obtain ⟨i, _, _, rfl⟩ := wordsT_mem a b k x hx
  exact wordT_size a b i
theorem depM_nonneg (c : List Int) : ∀ k, 0 ≤ depM c k := by
  intro k
  induction k with
  | zero => exact Int.le_refl _
  | succ k ih => rw [depM_succ]; omega
theorem depthT_ne {a b c : List Int} (h : fineT a b c) : ¬ depthT a b c = -1 := by
  rw [depthT, if_pos h]; have := depM_nonneg c c.length; omega
def fmtT (a b c : List Int) : ByteArray := if fineT a b c then (if wordsT a b a.length = [] then singleB else accT (wordsT a b a.length)) else ByteArray.empty
end Go.Pw
/- The contract of strings.Join at this dump, in plain words: the text that lay-shelf.mjs and lay-plain.mjs wrote for an earlier seat, its numbers turned to this dump's. -/
namespace Go.Proofs
open Go.Shelf
def Tryz.lays156_ren : Go.Shelf.Ren := ⟨fun | 156 => 44 | 165 => 69 | 166 => 70 | 169 => 71 | 240 => 89 | 241 => 90 | 276 => 98 | 277 => 99 | n => n, fun | 31 => 61 | 9 => 9 | 3 => 3 | 4 => 4 | 0 => 0 | 20 => 20 | 72 => 81 | 76 => 85 | 70 => 79 | 37 => 22 | 75 => 84 | 127 => 99 | 164 => 102 | 5 => 5 | 80 => 87 | n => n, fun | n => n⟩
theorem Tryz.lays156 : Go.Proofs.Lays.n156 Tryz.prog Tryz.lays156_ren := {
  mixed := by kernel_rfl
  f156 := Tryz.func44.trans (congrArg some (by kernel_rfl))
  f165 := Tryz.func69.trans (congrArg some (by kernel_rfl))
  f166 := Tryz.func70.trans (congrArg some (by kernel_rfl))
  f169 := Tryz.func71.trans (congrArg some (by kernel_rfl))
  f240 := Tryz.func89.trans (congrArg some (by kernel_rfl))
  f241 := Tryz.func90.trans (congrArg some (by kernel_rfl))
  f276 := Tryz.func98.trans (congrArg some (by kernel_rfl))
  f277 := Tryz.func99.trans (congrArg some (by kernel_rfl))
  t0 := Tryz.underlying0
  a0 := Tryz.isAgg0
  z0 := Tryz.sizeOf0
  v0 := Tryz.zeroValue0
  t3 := Tryz.underlying3
  a3 := Tryz.isAgg3
  z3 := Tryz.sizeOf3
  v3 := Tryz.zeroValue3
  t4 := Tryz.underlying4
  a4 := Tryz.isAgg4
  z4 := Tryz.sizeOf4
  v4 := Tryz.zeroValue4
  t9 := Tryz.underlying9
  a9 := Tryz.isAgg9
  z9 := Tryz.sizeOf9
  v9 := Tryz.zeroValue9
  t20 := Tryz.underlying20
  a20 := Tryz.isAgg20
  z20 := Tryz.sizeOf20
  v20 := Tryz.zeroValue20
  t31 := Tryz.underlying61
  a31 := Tryz.isAgg61
  z31 := Tryz.sizeOf61
  v31 := Tryz.zeroValue61
  t37 := Tryz.underlying22
  a37 := Tryz.isAgg22
  z37 := Tryz.sizeOf22
  v37 := Tryz.zeroValue22
  t70 := Tryz.underlying79
  a70 := Tryz.isAgg79
  z70 := Tryz.sizeOf79
  v70 := Tryz.zeroValue79
  t72 := Tryz.underlying81
  a72 := Tryz.isAgg81
  z72 := Tryz.sizeOf81
  v72 := Tryz.zeroValue81
  t75 := Tryz.underlying84
  a75 := Tryz.isAgg84
  z75 := Tryz.sizeOf84
  v75 := Tryz.zeroValue84
  t76 := Tryz.underlying85
  a76 := Tryz.isAgg85
  z76 := Tryz.sizeOf85
  v76 := Tryz.zeroValue85
  t127 := Tryz.underlying99
  a127 := Tryz.isAgg99
  z127 := Tryz.sizeOf99
  v127 := Tryz.zeroValue99
  t164 := Tryz.underlying102
  a164 := Tryz.isAgg102
  z164 := Tryz.sizeOf102
  v164 := Tryz.zeroValue102 }
theorem Tryz.Builder_Extra_156 : Builder.Extra Tryz.prog Tryz.lays156_ren := {
  sizeBuilder := by kernel_rfl
  liesBuilder := by kernel_rfl
  t5 := Tryz.underlying5
  a5 := Tryz.isAgg5
  z5 := Tryz.sizeOf5
  v5 := Tryz.zeroValue5
  infoByte := by kernel_rfl
  cellsByte := by kernel_rfl
  sizeByte := by kernel_rfl
  neB5 := by decide }
open Go.RowKit in
/-- No element: the empty string; the world is as it was. (Whatever the slice's address and capacity: a nil slice too.) (LAID: no walk: one application.) -/
theorem Tryz.strings_Join_none (a : Option Addr) (c : Nat) (sep : ByteArray) (w : World) :
    Calls Tryz.prog 44 #[.slice a 0 c, .string sep] w fun e w' => e = .returned (.string ⟨#[]⟩) ∧ w' = w := Any.strings_Join_none Tryz.lays156 Tryz.Builder_Extra_156 a c sep w
open Go.RowKit in
/-- strings.Join: "Join concatenates the elements of its first argument to create a single string. The separator string sep is placed between elements in the resulting string.": HOWEVER MANY ELEMENTS. Below the heap's end the world is as it was. (LAID: no walk: one application.) -/
theorem Tryz.strings_Join (bk o c : Nat) (xs : List ByteArray) (sep : ByteArray) (w : World) (hcells : ∀ (j : Nat) x, xs[j]? = some x → w.cell? ⟨bk, o + j, none⟩ = some (.string x)) (hbk : bk < w.heap.size) (hN : xs.length ≤ 140737488355328) (hcap : xs.length ≤ c) (hlen : (Lib.join (xs.map (·.data.toList)) sep.data.toList).length ≤ 140737488355328) :
    Calls Tryz.prog 44 #[.slice (some ⟨bk, o, none⟩) xs.length c, .string sep] w fun e w' => e = .returned (.string ⟨(Lib.join (xs.map (·.data.toList)) sep.data.toList).toArray⟩) ∧ Below w.heap.size w w' := Any.strings_Join Tryz.lays156 Tryz.Builder_Extra_156 bk o c xs sep w hcells hbk hN hcap hlen
end Go.Proofs
/- A module tree as text. -/
namespace Go.Proofs.YtoejpckfeflkaaaGreatDoor
open Go Go.RowKit Go.Pw
def strs (l : List ByteArray) : List Value := l.map Value.string
theorem strs_length (l : List ByteArray) : (strs l).length = l.length := List.length_map ..
theorem strs_snoc (l : List ByteArray) (x : ByteArray) : strs (l ++ [x]) = strs l ++ [.string x] := by simp [strs]
theorem info_str : (Tryz.prog.info? 9).map (fun i => (i.zero, i.size, i.bytes)) = some (some (.string ByteArray.empty), 1, 16) := by kernel_rfl
theorem ez_str : ElemZ Tryz.prog 61 9 (.string ByteArray.empty) 16 := ⟨Tryz.underlying61, info_str, rfl⟩
theorem el_str : Elem1 Tryz.prog 61 9 := ⟨Tryz.underlying61, by obtain ⟨i, h1, _, h2, _⟩ := info_parts info_str; exact ⟨i, h1, h2⟩⟩
theorem sz_str (w : World) : (sizeOf 9).run Tryz.prog w = .ok 1 w := by
  obtain ⟨i, h1, _, h2, _⟩ := info_parts info_str
  simp [sizeOf, typeInfo, h1, h2]
theorem ag_str (w : World) : (isAgg 9).run Tryz.prog w = .ok false w := by simp [isAgg, run_underlying Tryz.underlying9]
theorem sc_str : Scalar Tryz.prog 9 := scalar_string Tryz.underlying9
theorem strs_get {l : List ByteArray} {i : Nat} (h : i < l.length) : (strs l)[i]? = some (.string (l.getD i ByteArray.empty)) := by simp [strs, h]
def kindsA : Array Value := #[.string ⟨#[]⟩, .string ⟨#[112, 97, 114, 97, 108, 108, 101, 108]⟩, .string ⟨#[115, 101, 114, 105, 101, 115]⟩, .string ⟨#[112, 114, 105, 109, 101]⟩]
theorem kinds_get {k : Int} (h : 0 ≤ k ∧ k ≤ 3) : kindsA[k.toNat]? = some (.string (kindW k)) := by
  have : k = 0 ∨ k = 1 ∨ k = 2 ∨ k = 3 := by omega
  rcases this with rfl | rfl | rfl | rfl <;> rfl
theorem kinds_getL {k : Int} (h : 0 ≤ k ∧ k ≤ 3) : kindsA.toList[k.toNat]? = some (.string (kindW k)) := by
  have := kinds_get h; simpa using this
theorem en_x_strings_Join : Entry Tryz.prog 44 := ⟨_, Tryz.func44, by kernel_rfl, rfl⟩
theorem x_Join_c (v : Value) (l : List ByteArray) (w : World) (h : Arr w v (strs l)) (hn : l ≠ []) (hl : l.length ≤ 20) (hp : ∀ x ∈ l, 0 < x.size) (hs : ∀ x ∈ l, x.size ≤ 15) : Pure Tryz.prog 44 #[v, .string ⟨#[32]⟩] w (.string (accT l)) := by
  have hpos : 0 < l.length := List.length_pos_iff.2 hn
  have h0 := h.fits
  rcases h.out with ⟨h1, _⟩ | ⟨b, off, cap, rfl, _, _, hc⟩
  · have := congrArg List.length h1; rw [strs_length] at this; simp at this; exact absurd this hn
  have hcap : l.length ≤ cap := by have := Nat.le_of_ble_eq_true h0; rw [strs_length] at this; exact this
  have hcells : ∀ (j : Nat) x, l[j]? = some x → w.cell? ⟨b, off + j, none⟩ = some (.string x) := fun j x hx => by
    have hlt := (List.getElem?_eq_some_iff.1 hx).1
    rw [hc j (by rw [strs_length]; exact hlt)]
    simp [strs, hx]
  have hbk : b < w.heap.size := by
    refine World.block_lt_of_cell? w ⟨b, off + 0, none⟩ (u := (strs l)[0]'(by rw [strs_length]; exact hpos)) ?_
    rw [hc 0 (by rw [strs_length]; exact hpos)]
    simp
  have hj := acc_join hp
  have hsz : (Lib.join (l.map (·.data.toList)) [32]).length ≤ 140737488355328 := by
    have h2 := accT_size hs
    have h3 := congrArg ByteArray.size hj
    have h4 : (ByteArray.mk (Lib.join (l.map (·.data.toList)) [32]).toArray).size = (Lib.join (l.map (·.data.toList)) [32]).length := by simp [ByteArray.size]
    omega
  have key := Tryz.strings_Join b off cap l ⟨#[32]⟩ w hcells hbk (by omega) hcap hsz
  refine ⟨en_x_strings_Join, ?_⟩
  rw [strs_length, hj]
  exact key
theorem en_i_FormatModuleTree : Entry Tryz.prog 21 := ⟨_, Tryz.func21, by kernel_rfl, rfl⟩
set_option maxHeartbeats 1600000 in
theorem i_FormatModuleTree_c (sa sb sc : Value) (a b c : List Int) (w : World) (ha : Arr w sa (ints a)) (hb : Arr w sb (ints b)) (hd : Arr w sc (ints c)) :
    Pure Tryz.prog 21 #[.agg #[sa, sb, sc]] w (.string (fmtT a b c)) := by
  refine pure_enter (args := [_]) en_i_FormatModuleTree Tryz.func21 rfl Tryz.ntmps21 rfl ?_
  by_cases hf : fineT a b c
  case neg =>
    have hm : depthT a b c = -1 := if_neg hf
    have hr : fmtT a b c = ByteArray.empty := if_neg hf
    rw [hr]
    repeat' (first | apply pwp_seq | apply pwp_region | (apply px_run; (first | (apply opv_assign; first | rfl) | (apply opv_eql <;> rfl) | (apply opv_load_str 0 st_T; rfl; rfl; rfl) | (apply opv_call; rfl; rfl; exact Cl.stable _ _ _; exact fun w hw => i_DepthOf_c _ _ _ a b c _ (by first | exact hw.arr (by assumption)) (by first | exact hw.arr (by assumption)) (by first | exact hw.arr (by assumption)))); rfl; rfl) | apply px_nil | apply qseq_normal | apply qseq_ret | apply pwp_ret | (apply pwp_cond_dec; rfl; all_goals (intro hc; try (first | contradiction))) | (apply px_box; rfl; rfl; rfl; rfl; intro bk))
    refine qbody_ret1 (v := .string _) rfl rfl ⟨rfl, fun _ h => h.below⟩
  have hm : ¬ depthT a b c = -1 := depthT_ne hf
  have ha20 := hf.1
  have hbl := hf.2.1
  repeat' (first | apply pwp_seq | apply pwp_region | (apply px_run; (first | (apply opv_move; first | exact hid_int rfl) | (apply opv_assign; first | rfl) | (apply opv_eql <;> rfl) | (apply opv_field fld_T0; rfl) | (apply opv_load_blk 1; (first | with_reducible exact sc_ints); rfl; rfl; rfl) | (apply opv_len_ints el_int; rfl; (first | exact rd_old (by assumption))) | (apply opv_load_str 0 st_T; rfl; rfl; rfl) | (apply opv_call; rfl; rfl; exact Cl.stable _ _ _; exact fun w hw => i_DepthOf_c _ _ _ a b c _ (by first | exact hw.arr (by assumption)) (by first | exact hw.arr (by assumption)) (by first | exact hw.arr (by assumption)))); rfl; rfl) | apply px_nil | apply qseq_normal | apply pwp_block | apply pwp_skip | (apply pwp_cond_dec; rfl; all_goals (intro hc; try (first | contradiction))) | (apply px_box; rfl; rfl; rfl; rfl; intro bk) | (apply px_lit0 ez_str; rfl; rfl; rfl; intro sv))
  refine pwp_loop (τ := Nat × Value) [(3,5), (13,37)] (fun x => [(13, .int .i64 (x.1 : Int)), (3, x.2)]) (fun x => Cl [] w [.row 9 x.2 (strs (wordsT a b x.1)), .blk bk [sa, sb, sc]]) (fun x => x.1 ≤ a.length) (fun x => a.length - x.1) (0, sv)
    ⟨rfl, rfl, trivial⟩ (Nat.zero_le _) (fun w' h => by exact Cl.sub (by assumption) (by repeat (first | exact List.Sublist.slnil | exact List.Sublist.refl _ | apply List.Sublist.cons_cons | exact List.sublist_append_left _ _ | exact List.sublist_append_right _ _ | apply List.Sublist.cons))) (fun J x hx => ?_)
  obtain ⟨k, so⟩ := x
  dsimp only at hx ⊢
  have hwl := wordsT_length a b k
  have hsl := strs_length (wordsT a b k)
  by_cases hlt : k < a.length
  · have hfk := (hf.2.2.2.2 k hlt).2.1
    have hkb : k < b.length := by omega
    by_cases hz : b.getD k 0 = 0
    · have hw : wordsT a b (k + 1) = wordsT a b k := by rw [wordsT, if_pos hz]
      repeat' (first | apply pwp_seq | apply pwp_region | (apply px_run; (first | (apply opv_move; first | exact hid_int rfl) | (apply opv_assign; first | exact hid_int rfl) | (apply opv_lss <;> rfl) | (apply opv_neq <;> rfl) | (apply opv_add_in; rfl; rfl; omega) | (apply opv_field fld_T1; rfl) | (apply opv_load_blk 1; (first | with_reducible exact sc_int | with_reducible exact sc_ints); rfl; rfl; rfl) | (apply opv_load_ints sc_int; rfl; (first | exact rd_old (by assumption)); (first | omega)) | (apply opv_index_nat (vs := ints _) el_int; rfl; rfl; (first | exact rd_old (by assumption)); (first | (simp only [ints_length]; omega)))); rfl; rfl) | apply px_nil | apply qseq_normal | apply pwp_block | apply qblock_normal | apply pwp_skip | (apply pwp_cond_ndec; rfl; all_goals (intro hc; try (first | contradiction))) | (apply pwp_cond_dec; rfl; all_goals (intro hc; try (first | (exfalso; omega)))))
      refine qround_normal ?_ ⟨(k + 1, so), ⟨rfl, rfl, trivial⟩, by dsimp only; omega, by dsimp only; omega, fun w' h => ?_⟩
      · repeat (first | exact same_refl | refine same_upd rfl ?_ | refine same_junk rfl ?_)
      · dsimp only
        rw [hw]
        exact Cl.sub (by assumption) (by repeat (first | exact List.Sublist.slnil | exact List.Sublist.refl _ | apply List.Sublist.cons_cons | exact List.sublist_append_left _ _ | exact List.sublist_append_right _ _ | apply List.Sublist.cons))
    · have hw : wordsT a b (k + 1) = wordsT a b k ++ [wordT a b k] := by rw [wordsT, if_neg hz]
      have hg := kinds_get hfk
      have hs1 := fmtS_size (a.getD k 0)
      have hs2 := kindW_size (b.getD k 0)
      repeat' (first | apply pwp_seq | apply pwp_region | (apply px_run; (first | (apply opv_build_arr (cells := kindsA) rfl; kernel_rfl) | (apply opv_index_arr Tryz.underlying63 sz_str ag_str; rfl; rfl; omega; exact hg) | (apply opv_cat; rfl; rfl; omega) | (apply opv_move; first | exact hid_int rfl | rfl) | (apply opv_assign; first | exact hid_int rfl | rfl) | (apply opv_lss <;> rfl) | (apply opv_neq <;> rfl) | (apply opv_add_in; rfl; rfl; omega) | (apply opv_field fld_T1; rfl) | (apply opv_load_blk 1; (first | with_reducible exact sc_int | with_reducible exact sc_ints); rfl; rfl; rfl) | (apply opv_load_ints sc_int; rfl; (first | exact rd_old (by assumption)); (first | omega)) | (apply opv_index_nat (vs := ints _) el_int; rfl; rfl; (first | exact rd_old (by assumption)); (first | (simp only [ints_length]; omega))) | (apply opv_call; rfl; rfl; exact Cl.stable _ _ _; exact fun w hw => i_FormatSet_c _ _)); rfl; rfl) | apply px_nil | apply qseq_normal | apply pwp_block | apply qblock_normal | apply pwp_skip | (apply pwp_region_any [0, 1, 4, 5, 6, 7, 8] [12] 7 (Cl [] w [.row 9 so _, .blk bk _]); kernel_rfl; decide +kernel; exact Cl.stable _ _ _; exact fun w h => h.sub (by repeat (first | exact List.Sublist.refl _))) | apply qlooks_normal | (apply qstep_out; decide +kernel) | (apply qstep_in; exact fun w h => h.sub (by repeat (first | exact List.Sublist.refl _ | apply List.Sublist.cons))) | (apply pxa_nil; decide +kernel) | (apply pxa_one 2; decide +kernel; rfl) | (apply pxa_one 3; decide +kernel; rfl) | (apply pxa_one 9; decide +kernel; rfl) | (apply pxa_one 10; decide +kernel; rfl) | (apply pxa_one 11; decide +kernel; rfl) | (apply pxa_one 12; decide +kernel; rfl) | (apply pxa_one 13; decide +kernel; rfl) | (apply pxa_two 2 3; decide +kernel; rfl; rfl) | (apply pxa_two 2 9; decide +kernel; rfl; rfl) | (apply pwp_cond_ndec; rfl; all_goals (intro hc; try (first | contradiction))) | (apply pwp_cond_dec; rfl; all_goals (intro hc; try (first | (exfalso; omega)))) | (apply px_lit1 ez_str; rfl; (intro w hw; rfl); rfl; rfl; rfl; intro sv) | (apply px_append 1 ez_str; rfl; rfl; rfl; (exact rd_row 0 rfl); (intro w hw u hu; simp only [List.mem_singleton] at hu; subst hu; rfl); (simp only [List.length_singleton]; omega); decide; rfl; rfl; intro sv))
      all_goals
        refine qround_normal ?_ ⟨(k + 1, _), ⟨rfl, rfl, trivial⟩, by dsimp only; omega, by dsimp only; omega, fun w' h => ?_⟩
        · repeat (first | exact same_refl | refine same_upd rfl ?_ | refine same_junk rfl ?_)
        · dsimp only
          rw [hw, strs_snoc]
          exact Cl.sub (by assumption) (by repeat (first | exact List.Sublist.slnil | exact List.Sublist.refl _ | apply List.Sublist.cons_cons | exact List.sublist_append_left _ _ | exact List.sublist_append_right _ _ | apply List.Sublist.cons))
  · obtain rfl : k = a.length := by omega
    have hwp := words_pos hf (Nat.le_refl _)
    have hws := words_le (a := a) (b := b) (k := a.length)
    have kJ : ∀ v w', wordsT a b a.length ≠ [] → Arr w' v (strs (wordsT a b a.length)) → Pure Tryz.prog 44 #[v, .string ⟨#[32]⟩] w' (.string (accT (wordsT a b a.length))) := fun v w' hn h => x_Join_c v _ w' h hn (by omega) hwp hws
    have hr : fmtT a b c = if wordsT a b a.length = [] then singleB else accT (wordsT a b a.length) := if_pos hf
    rw [hr]
    generalize wordsT a b a.length = l at *
    by_cases hn : l = []
    · rw [if_pos hn]
      have hl0 : (strs l).length = 0 := by rw [hn]; rfl
      repeat' (first | apply pwp_seq | apply pwp_region | (apply px_run; (first | (apply opv_len el_str; rfl; exact rd_row 0 rfl) | (apply opv_move; first | rfl) | (apply opv_assign; first | rfl) | (apply opv_lss <;> rfl) | (apply opv_eql <;> rfl)); rfl; rfl) | apply px_nil | apply qseq_normal | apply qseq_ret | apply qseq_exit | (apply qblock_exit_same; rfl) | apply pwp_exit | apply pwp_ret | apply qround_exit | (apply pwp_cond_dec; rfl; all_goals (intro hc; try (first | (exfalso; omega)))))
      refine qbody_ret1 (v := .string _) rfl rfl ⟨rfl, fun _ h => h.below⟩
    · rw [if_neg hn]
      have hl0 : (strs l).length ≠ 0 := by rw [strs_length]; exact fun h => hn (List.eq_nil_of_length_eq_zero h)
      repeat' (first | apply pwp_seq | apply pwp_region | (apply px_run; (first | (apply opv_len el_str; rfl; exact rd_row 0 rfl) | (apply opv_move; first | rfl) | (apply opv_assign; first | rfl) | (apply opv_lss <;> rfl) | (apply opv_eql <;> rfl) | (apply opv_call; rfl; rfl; exact Cl.stable _ _ _; exact fun w hw => kJ _ _ hn (by first | exact hw.rowArr (k := 0) rfl))); rfl; rfl) | apply px_nil | apply qseq_normal | apply qseq_exit | (apply qblock_exit_same; rfl) | apply pwp_skip | apply pwp_exit | apply pwp_ret | apply qround_exit | (apply pwp_cond_dec; rfl; all_goals (intro hc; try (first | (exfalso; omega)))))
      refine qbody_ret1 (v := .string _) rfl rfl ⟨rfl, fun _ h => h.below⟩
theorem en_s_FormatModuleTree : Entry Tryz.prog 22 := ⟨_, Tryz.func22, by kernel_rfl, rfl⟩
set_option maxHeartbeats 1600000 in
theorem s_FormatModuleTree_c (sa sb sc : Value) (a b c : List Int) (w : World) (ha : Arr w sa (ints a)) (hb : Arr w sb (ints b)) (hd : Arr w sc (ints c)) :
    Pure Tryz.prog 22 #[.agg #[sa, sb, sc]] w (.string (fmtT a b c)) := by
  refine pure_enter (args := [_]) en_s_FormatModuleTree Tryz.func22 rfl Tryz.ntmps22 rfl ?_
  have kF := fun w' h1 h2 h3 => s_l16Fine_c sa sb sc a b c w' h1 h2 h3
  by_cases hf : fineT a b c
  case neg =>
    have hr : fmtT a b c = ByteArray.empty := if_neg hf
    rw [hr]
    rw [decide_eq_false hf] at kF
    have hE : ((ByteArray.mk #[]).toList == (ByteArray.mk #[]).toList) = true := beq_self_eq_true _
    repeat' (first | apply pwp_seq | apply pwp_region | (apply px_run; (first | (apply opv_assign; first | exact hid_int rfl | rfl)); rfl; rfl) | apply px_nil | apply qseq_normal | apply pwp_block | (apply px_box; rfl; rfl; rfl; rfl; intro bk))
    refine pwp_loop (τ := Unit) [(3,42)] (fun x => [(4, .int .i64 0), (3, .string ⟨#[]⟩)]) (fun x => Cl [] w [.blk bk [sa, sb, sc]]) (fun x => True) (fun x => 0) ()
      ⟨rfl, rfl, trivial⟩ trivial (fun w' h => by exact Cl.sub (by assumption) (by repeat (first | exact List.Sublist.slnil | exact List.Sublist.refl _ | apply List.Sublist.cons_cons | exact List.sublist_append_left _ _ | exact List.sublist_append_right _ _ | apply List.Sublist.cons))) (fun J x hx => ?_)
    repeat' (first | apply pwp_seq | apply pwp_region | (apply px_run; (first | (apply opv_eql_s_r; rfl; rfl; exact hE) | (apply opv_move; first | exact hid_int rfl | exact hid_bool rfl | rfl) | (apply opv_assign; first | rfl) | (apply opv_lss <;> rfl) | (apply opv_pick_t <;> rfl) | (apply opv_pick_f <;> rfl) | (apply opv_field fld_T0; rfl) | (apply opv_load_blk 0; (first | with_reducible exact sc_ints); rfl; rfl; rfl) | (apply opv_len_ints el_int; rfl; (first | exact rd_old (by assumption))) | (apply opv_load_str 0 st_T; rfl; rfl; rfl) | (apply opv_call; rfl; rfl; exact Cl.stable _ _ _; exact fun w hw => kF _ (by first | exact hw.arr (by assumption)) (by first | exact hw.arr (by assumption)) (by first | exact hw.arr (by assumption)))); rfl; rfl) | apply px_nil | (apply px_skip; rfl; rfl) | apply qseq_normal | apply qseq_exit | (apply qblock_exit_same; rfl) | apply pwp_skip | apply pwp_exit | apply pwp_ret | apply qround_exit | (apply pwp_cond_f; rfl) | (apply px_guard_dec; rfl; rfl; rfl; all_goals (intro hc; try (first | fail))))
    all_goals (refine qbody_ret1 (v := .string _) rfl rfl ⟨rfl, fun _ h => h.below⟩)
  rw [decide_eq_true hf] at kF
  have ha20 := hf.1
  have hbl := hf.2.1
  repeat' (first | apply pwp_seq | apply pwp_region | (apply px_run; (first | (apply opv_assign; first | exact hid_int rfl | rfl)); rfl; rfl) | apply px_nil | apply qseq_normal | apply pwp_block | (apply px_box; rfl; rfl; rfl; rfl; intro bk))
  refine pwp_loop (τ := Nat) [(3,42)] (fun k => [(4, .int .i64 (k : Int)), (3, .string (accT (wordsT a b k)))]) (fun k => Cl [] w [.blk bk [sa, sb, sc]]) (fun k => k ≤ a.length) (fun k => a.length - k) 0
    ⟨rfl, rfl, trivial⟩ (Nat.zero_le _) (fun w' h => by exact Cl.sub (by assumption) (by repeat (first | exact List.Sublist.slnil | exact List.Sublist.refl _ | apply List.Sublist.cons_cons | exact List.sublist_append_left _ _ | exact List.sublist_append_right _ _ | apply List.Sublist.cons))) (fun J k hx => ?_)
  have hwl := wordsT_length a b k
  have hwp := words_pos hf hx
  have hsz := accT_size (words_le (a := a) (b := b) (k := k))
  by_cases hlt : k < a.length
  · have hfk := (hf.2.2.2.2 k hlt).2.1
    have hkb : k < b.length := by omega
    by_cases hz : b.getD k 0 = 0
    · have hw : wordsT a b (k + 1) = wordsT a b k := by rw [wordsT, if_pos hz]
      repeat' (first | apply pwp_seq | apply pwp_region | (apply px_run; (first | (apply opv_move; first | exact hid_int rfl | exact hid_bool rfl) | (apply opv_assign; first | exact hid_int rfl) | (apply opv_lss <;> rfl) | (apply opv_eql <;> rfl) | (apply opv_pick_t <;> rfl) | (apply opv_add_in; rfl; rfl; omega) | (apply opv_field fld_T0; rfl) | (apply opv_field fld_T1; rfl) | (apply opv_load_blk 0; (first | with_reducible exact sc_int | with_reducible exact sc_ints); rfl; rfl; rfl) | (apply opv_load_ints sc_int; rfl; (first | exact rd_old (by assumption)); (first | omega)) | (apply opv_index_nat (vs := ints _) el_int; rfl; rfl; (first | exact rd_old (by assumption)); (first | (simp only [ints_length]; omega))) | (apply opv_len_ints el_int; rfl; (first | exact rd_old (by assumption))) | (apply opv_load_str 0 st_T; rfl; rfl; rfl) | (apply opv_call; rfl; rfl; exact Cl.stable _ _ _; exact fun w hw => kF _ (by first | exact hw.arr (by assumption)) (by first | exact hw.arr (by assumption)) (by first | exact hw.arr (by assumption)))); rfl; rfl) | apply px_nil | apply qseq_normal | apply qseq_exit | apply pwp_block | (apply qblock_exit_same; rfl) | apply pwp_skip | apply pwp_exit | (apply pwp_cond_t; rfl) | (apply px_guard_dec; rfl; rfl; rfl; all_goals (intro hc; try (first | (exfalso; omega)))) | (apply pwp_cond_dec; rfl; all_goals (intro hc; try (first | contradiction))))
      refine qround_normal ?_ ⟨k + 1, ⟨rfl, by rw [hw]; rfl, trivial⟩, by (try dsimp only); omega, by (try dsimp only); omega, fun w' h => ?_⟩
      · repeat (first | exact same_refl | refine same_upd rfl ?_ | refine same_junk rfl ?_)
      · exact Cl.sub (by assumption) (by repeat (first | exact List.Sublist.slnil | exact List.Sublist.refl _ | apply List.Sublist.cons_cons | exact List.sublist_append_left _ _ | exact List.sublist_append_right _ _ | apply List.Sublist.cons))
    · have hw : wordsT a b (k + 1) = wordsT a b k ++ [wordT a b k] := by rw [wordsT, if_neg hz]
      have hg := kinds_getL hfk
      have hs1 := fmtS_size (a.getD k 0)
      have hs2 := kindW_size (b.getD k 0)
      have z1 : (ByteArray.mk #[32]).size = 1 := rfl
      by_cases h0 : (accT (wordsT a b k)).size = 0
      · have hE : ((accT (wordsT a b k)).toList == (ByteArray.mk #[]).toList) = true := by
          rw [ByteArray.toList_eq, ByteArray.toList_eq]
          have : (accT (wordsT a b k)).data.toList = [] := List.eq_nil_of_length_eq_zero h0
          rw [this]; rfl
        have e : accT (wordsT a b (k + 1)) = (accT (wordsT a b k) ++ fmtS (a.getD k 0)) ++ kindW (b.getD k 0) := by
          rw [hw, accT_snoc, accS, if_pos h0, wordT, ByteArray.append_assoc]
        generalize accT (wordsT a b k) = A at *
        repeat' (first | apply pwp_seq | apply pwp_region | (apply px_run; (first | (apply opv_neq_s_r; rfl; rfl; exact hE) | (apply opv_index el_str; rfl; rfl; exact rd_row 0 rfl; omega; (show _ < (4 : Int)); omega) | (apply opv_load_arr sc_str; rfl; exact rd_row 0 rfl; exact hg) | (apply opv_cat; rfl; rfl; (first | omega | (simp only [size_cat]; omega))) | (apply opv_move; first | exact hid_int rfl | exact hid_bool rfl | rfl) | (apply opv_assign; first | exact hid_int rfl | rfl) | (apply opv_lss <;> rfl) | (apply opv_eql <;> rfl) | (apply opv_pick_t <;> rfl) | (apply opv_add_in; rfl; rfl; omega) | (apply opv_field fld_T0; rfl) | (apply opv_field fld_T1; rfl) | (apply opv_load_blk 0; (first | with_reducible exact sc_int | with_reducible exact sc_ints); rfl; rfl; rfl) | (apply opv_load_ints sc_int; rfl; (first | exact rd_old (by assumption)); (first | omega)) | (apply opv_index_nat (vs := ints _) el_int; rfl; rfl; (first | exact rd_old (by assumption)); (first | (simp only [ints_length]; omega))) | (apply opv_len_ints el_int; rfl; (first | exact rd_old (by assumption))) | (apply opv_load_str 0 st_T; rfl; rfl; rfl) | (apply opv_call; rfl; rfl; exact Cl.stable _ _ _; exact fun w hw => kF _ (by first | exact hw.arr (by assumption)) (by first | exact hw.arr (by assumption)) (by first | exact hw.arr (by assumption))) | (apply opv_call; rfl; rfl; exact Cl.stable _ _ _; exact fun w hw => s_FormatSet_c _ _)); rfl; rfl) | apply px_nil | apply qseq_normal | apply pwp_block | apply qblock_normal | apply pwp_skip | (apply pwp_cond_t; rfl) | (apply pwp_cond_f; rfl) | (apply pwp_region_any [0, 1, 2, 3, 4, 5, 9, 10, 11, 12, 13] [] 7 (Cl [] w [.blk bk _]); kernel_rfl; decide +kernel; exact Cl.stable _ _ _; exact fun w h => h.sub (by repeat (first | exact List.Sublist.refl _))) | apply qlooks_normal | (apply qstep_in; exact fun w h => h.sub (by repeat (first | exact List.Sublist.refl _ | apply List.Sublist.cons))) | (apply pxa_nil; decide +kernel) | (apply pxa_one 6; decide +kernel; rfl) | (apply pxa_one 7; decide +kernel; rfl) | (apply pxa_one 8; decide +kernel; rfl) | (apply pxa_one 14; decide +kernel; rfl) | (apply pxa_one 15; decide +kernel; rfl) | (apply pxa_one 16; decide +kernel; rfl) | (apply pxa_one 17; decide +kernel; rfl) | (apply pxa_two 6 8; decide +kernel; rfl; rfl) | (apply pxa_two 6 14; decide +kernel; rfl; rfl) | (apply pxa_two 6 15; decide +kernel; rfl; rfl) | (apply pxa_two 7 8; decide +kernel; rfl; rfl) | (apply pxa_two 7 14; decide +kernel; rfl; rfl) | (apply pxa_two 7 15; decide +kernel; rfl; rfl) | (apply px_guard_dec; rfl; rfl; rfl; all_goals (intro hc; try (first | (exfalso; omega)))) | (apply pwp_cond_dec; rfl; all_goals (intro hc; try (first | contradiction))) | (apply px_lit4 ez_str; rfl; (intro w hw; rfl); rfl; (intro w hw; rfl); rfl; (intro w hw; rfl); rfl; (intro w hw; rfl); rfl; rfl; rfl; intro sv))
        all_goals
          refine qround_normal ?_ ⟨k + 1, ⟨rfl, by rw [e]; rfl, trivial⟩, by (try dsimp only); omega, by (try dsimp only); omega, fun w' h => ?_⟩
          · repeat (first | exact same_refl | refine same_upd rfl ?_ | refine same_junk rfl ?_)
          · exact Cl.sub (by assumption) (by repeat (first | exact List.Sublist.slnil | exact List.Sublist.refl _ | apply List.Sublist.cons_cons | exact List.sublist_append_left _ _ | exact List.sublist_append_right _ _ | apply List.Sublist.cons))
      · have hE : ((accT (wordsT a b k)).toList == (ByteArray.mk #[]).toList) = false := by
          rw [beq_eq_false_iff_ne]
          intro h
          have h2 := congrArg List.length h
          rw [toList_len, toList_len] at h2
          exact h0 h2
        have e : accT (wordsT a b (k + 1)) = ((accT (wordsT a b k) ++ ByteArray.mk #[32]) ++ fmtS (a.getD k 0)) ++ kindW (b.getD k 0) := by
          rw [hw, accT_snoc, accS, if_neg h0, wordT]; simp only [ByteArray.append_assoc]; rfl
        generalize accT (wordsT a b k) = A at *
        repeat' (first | apply pwp_seq | apply pwp_region | (apply px_run; (first | (apply opv_neq_s_r; rfl; rfl; exact hE) | (apply opv_index el_str; rfl; rfl; exact rd_row 0 rfl; omega; (show _ < (4 : Int)); omega) | (apply opv_load_arr sc_str; rfl; exact rd_row 0 rfl; exact hg) | (apply opv_cat; rfl; rfl; (first | omega | (simp only [size_cat]; omega))) | (apply opv_move; first | exact hid_int rfl | exact hid_bool rfl | rfl) | (apply opv_assign; first | exact hid_int rfl | rfl) | (apply opv_lss <;> rfl) | (apply opv_eql <;> rfl) | (apply opv_pick_t <;> rfl) | (apply opv_add_in; rfl; rfl; omega) | (apply opv_field fld_T0; rfl) | (apply opv_field fld_T1; rfl) | (apply opv_load_blk 0; (first | with_reducible exact sc_int | with_reducible exact sc_ints); rfl; rfl; rfl) | (apply opv_load_ints sc_int; rfl; (first | exact rd_old (by assumption)); (first | omega)) | (apply opv_index_nat (vs := ints _) el_int; rfl; rfl; (first | exact rd_old (by assumption)); (first | (simp only [ints_length]; omega))) | (apply opv_len_ints el_int; rfl; (first | exact rd_old (by assumption))) | (apply opv_load_str 0 st_T; rfl; rfl; rfl) | (apply opv_call; rfl; rfl; exact Cl.stable _ _ _; exact fun w hw => kF _ (by first | exact hw.arr (by assumption)) (by first | exact hw.arr (by assumption)) (by first | exact hw.arr (by assumption))) | (apply opv_call; rfl; rfl; exact Cl.stable _ _ _; exact fun w hw => s_FormatSet_c _ _)); rfl; rfl) | apply px_nil | apply qseq_normal | apply pwp_block | apply qblock_normal | apply pwp_skip | (apply pwp_cond_t; rfl) | (apply pwp_region_any [0, 1, 2, 3, 4, 5, 9, 10, 11, 12, 13] [] 7 (Cl [] w [.blk bk _]); kernel_rfl; decide +kernel; exact Cl.stable _ _ _; exact fun w h => h.sub (by repeat (first | exact List.Sublist.refl _))) | apply qlooks_normal | (apply qstep_in; exact fun w h => h.sub (by repeat (first | exact List.Sublist.refl _ | apply List.Sublist.cons))) | (apply pxa_nil; decide +kernel) | (apply pxa_one 6; decide +kernel; rfl) | (apply pxa_one 7; decide +kernel; rfl) | (apply pxa_one 8; decide +kernel; rfl) | (apply pxa_one 14; decide +kernel; rfl) | (apply pxa_one 15; decide +kernel; rfl) | (apply pxa_one 16; decide +kernel; rfl) | (apply pxa_one 17; decide +kernel; rfl) | (apply pxa_two 6 8; decide +kernel; rfl; rfl) | (apply pxa_two 6 14; decide +kernel; rfl; rfl) | (apply pxa_two 6 15; decide +kernel; rfl; rfl) | (apply pxa_two 7 8; decide +kernel; rfl; rfl) | (apply pxa_two 7 14; decide +kernel; rfl; rfl) | (apply pxa_two 7 15; decide +kernel; rfl; rfl) | (apply px_guard_dec; rfl; rfl; rfl; all_goals (intro hc; try (first | (exfalso; omega)))) | (apply pwp_cond_dec; rfl; all_goals (intro hc; try (first | contradiction))) | (apply px_lit4 ez_str; rfl; (intro w hw; rfl); rfl; (intro w hw; rfl); rfl; (intro w hw; rfl); rfl; (intro w hw; rfl); rfl; rfl; rfl; intro sv))
        all_goals
          refine qround_normal ?_ ⟨k + 1, ⟨rfl, by rw [e]; rfl, trivial⟩, by (try dsimp only); omega, by (try dsimp only); omega, fun w' h => ?_⟩
          · repeat (first | exact same_refl | refine same_upd rfl ?_ | refine same_junk rfl ?_)
          · exact Cl.sub (by assumption) (by repeat (first | exact List.Sublist.slnil | exact List.Sublist.refl _ | apply List.Sublist.cons_cons | exact List.sublist_append_left _ _ | exact List.sublist_append_right _ _ | apply List.Sublist.cons))
  · obtain rfl : k = a.length := by omega
    have hr : fmtT a b c = if wordsT a b a.length = [] then singleB else accT (wordsT a b a.length) := if_pos hf
    rw [hr]
    by_cases hn : wordsT a b a.length = []
    · rw [if_pos hn]
      have hE : ((accT (wordsT a b a.length)).toList == (ByteArray.mk #[]).toList) = true := by rw [hn]; exact beq_self_eq_true _
      repeat' (first | apply pwp_seq | apply pwp_region | (apply px_run; (first | (apply opv_eql_s_r; rfl; rfl; exact hE) | (apply opv_move; first | exact hid_int rfl | exact hid_bool rfl | rfl) | (apply opv_assign; first | rfl) | (apply opv_lss <;> rfl) | (apply opv_pick_t <;> rfl) | (apply opv_pick_f <;> rfl) | (apply opv_field fld_T0; rfl) | (apply opv_load_blk 0; (first | with_reducible exact sc_ints); rfl; rfl; rfl) | (apply opv_len_ints el_int; rfl; (first | exact rd_old (by assumption))) | (apply opv_load_str 0 st_T; rfl; rfl; rfl) | (apply opv_call; rfl; rfl; exact Cl.stable _ _ _; exact fun w hw => kF _ (by first | exact hw.arr (by assumption)) (by first | exact hw.arr (by assumption)) (by first | exact hw.arr (by assumption)))); rfl; rfl) | apply px_nil | (apply px_skip; rfl; rfl) | apply qseq_normal | apply qseq_ret | apply qseq_exit | (apply qblock_exit_same; rfl) | apply pwp_exit | apply pwp_ret | apply qround_exit | (apply pwp_cond_t; rfl) | (apply pwp_cond_f; rfl) | (apply px_guard_dec; rfl; rfl; rfl; all_goals (intro hc; try (first | (exfalso; omega)))))
      all_goals (refine qbody_ret1 (v := .string _) rfl rfl ⟨rfl, fun _ h => h.below⟩)
    · rw [if_neg hn]
      have hp := accT_pos hwp hn
      have hE : ((accT (wordsT a b a.length)).toList == (ByteArray.mk #[]).toList) = false := by
        rw [beq_eq_false_iff_ne]
        intro h
        have h2 := congrArg List.length h
        rw [toList_len, toList_len] at h2
        have h3 : (ByteArray.mk #[]).size = 0 := rfl
        omega
      repeat' (first | apply pwp_seq | apply pwp_region | (apply px_run; (first | (apply opv_eql_s_r; rfl; rfl; exact hE) | (apply opv_move; first | exact hid_int rfl | exact hid_bool rfl | rfl) | (apply opv_assign; first | rfl) | (apply opv_lss <;> rfl) | (apply opv_pick_f <;> rfl) | (apply opv_field fld_T0; rfl) | (apply opv_load_blk 0; (first | with_reducible exact sc_ints); rfl; rfl; rfl) | (apply opv_len_ints el_int; rfl; (first | exact rd_old (by assumption))) | (apply opv_load_str 0 st_T; rfl; rfl; rfl)); rfl; rfl) | apply px_nil | (apply px_skip; rfl; rfl) | apply qseq_normal | apply qseq_exit | (apply qblock_exit_same; rfl) | apply pwp_skip | apply pwp_exit | apply pwp_ret | apply qround_exit | (apply pwp_cond_f; rfl) | (apply px_guard_dec; rfl; rfl; rfl; all_goals (intro hc; try (first | (exfalso; omega)))))
      all_goals (refine qbody_ret1 (v := .string _) rfl rfl ⟨rfl, fun _ h => h.below⟩)
end Go.Proofs.YtoejpckfeflkaaaGreatDoor
