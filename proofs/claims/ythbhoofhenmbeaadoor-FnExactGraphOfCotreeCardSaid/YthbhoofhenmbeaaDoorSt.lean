/- Numbers and sets as text. -/
import Derived.Test.YthbhoofhenmbeaaDoorGs
import Derived.Test.YthbhoofhenmbeaaDoorPwCat
import Derived.Test.YthbhoofhenmbeaaDoorPwStx
import Derived.Test.YthbhoofhenmbeaaDoorPwPct
namespace Go.Proofs.YthbhoofhenmbeaaDoor
open Go Go.RowKit Go.Pw
theorem ty_str : Tryd.prog.underlying 9 = some .string := Tryd.underlying9
theorem ty_byte : Tryd.prog.underlying 5 = some (.int .u8) := Tryd.underlying5
theorem ty_bytes : Tryd.prog.underlying 70 = some (.slice 5) := Tryd.underlying70
theorem info_byte : (Tryd.prog.info? 5).map (fun i => (i.zero, i.size, i.bytes)) = some (some (.int .u8 0), 1, 1) := by kernel_rfl
theorem ez_byte : ElemZ Tryd.prog 70 5 (.int .u8 0) 1 := ⟨Tryd.underlying70, info_byte, rfl⟩
theorem en_x_internal_strconv_small : Entry Tryd.prog 95 := ⟨_, Tryd.func95, by kernel_rfl, rfl⟩
theorem x_small_c (n : Nat) (w : World) (hn : n ≤ 6) : Pure Tryd.prog 95 #[.int .i64 n] w (.string (digI n)) := by
  refine pure_enter (args := [_]) en_x_internal_strconv_small Tryd.func95 rfl Tryd.ntmps95 rfl ?_
  have hs : (ByteArray.mk #[48, 49, 50, 51, 52, 53, 54, 55, 56, 57, 97, 98, 99, 100, 101, 102, 103, 104, 105, 106, 107, 108, 109, 110, 111, 112, 113, 114, 115, 116, 117, 118, 119, 120, 121, 122]).size = 36 := rfl
  repeat' (first | apply pwp_seq | apply pwp_region | (apply px_run; (first | (apply opv_slice_str ty_str; rfl; rfl; rfl; (rw [hs]; omega)) | (apply opv_move; first | exact hid_int rfl) | (apply opv_assign; first | rfl) | (apply opv_lss <;> rfl) | (apply opv_add_in; rfl; rfl; omega)); rfl; rfl) | apply px_nil | apply qseq_normal | apply qseq_ret | apply pwp_ret | (apply pwp_cond_dec; rfl; all_goals (intro hc; try (first | (exfalso; omega)))))
  refine qbody_ret1 (v := .string _) rfl rfl ⟨?_, fun _ h => h.below⟩
  have : n = 0 ∨ n = 1 ∨ n = 2 ∨ n = 3 ∨ n = 4 ∨ n = 5 ∨ n = 6 := by omega
  rcases this with rfl | rfl | rfl | rfl | rfl | rfl | rfl <;> rfl
theorem en_x_internal_strconv_FormatInt : Entry Tryd.prog 91 := ⟨_, Tryd.func91, by kernel_rfl, rfl⟩
theorem x_FormatInt_c (n : Nat) (w : World) (hn : n ≤ 6) : Pure Tryd.prog 91 #[.int .i64 n, .int .i64 10] w (.string (digI n)) := by
  refine pure_enter (args := [_, _]) en_x_internal_strconv_FormatInt Tryd.func91 rfl Tryd.ntmps91 rfl ?_
  repeat' (first | apply pwp_seq | apply pwp_region | (apply px_run; (first | (apply opv_move; first | exact hid_int rfl | exact hid_bool rfl) | (apply opv_assign; first | rfl) | (apply opv_lss <;> rfl) | (apply opv_leq <;> rfl) | (apply opv_eql <;> rfl) | (apply opv_pick_t <;> rfl) | (apply opv_call; rfl; rfl; exact Cl.stable _ _ _; exact fun w hw => x_small_c n _ hn)); rfl; rfl) | apply px_nil | apply qseq_normal | apply qseq_ret | apply pwp_ret | (apply pwp_cond_t; rfl) | (apply pwp_cond_dec; rfl; all_goals (intro hc; try (first | (exfalso; omega)))))
  refine qbody_ret1 (v := .string _) rfl rfl ⟨rfl, fun _ h => h.below⟩
theorem en_x_internal_strconv_Itoa : Entry Tryd.prog 84 := ⟨_, Tryd.func84, by kernel_rfl, rfl⟩
theorem x_Itoa_c (n : Nat) (w : World) (hn : n ≤ 6) : Pure Tryd.prog 84 #[.int .i64 n] w (.string (digI n)) := by
  refine pure_enter (args := [_]) en_x_internal_strconv_Itoa Tryd.func84 rfl Tryd.ntmps84 rfl ?_
  repeat' (first | apply pwp_seq | apply pwp_region | (apply px_run; (first | (apply opv_move; first | exact hid_int rfl) | (apply opv_assign; first | rfl) | (apply opv_call; rfl; rfl; exact Cl.stable _ _ _; exact fun w hw => x_FormatInt_c n _ hn)); rfl; rfl) | apply px_nil | apply qseq_normal | apply pwp_ret)
  refine qbody_ret1 (v := .string _) rfl rfl ⟨rfl, fun _ h => h.below⟩
theorem en_x_strconv_Itoa : Entry Tryd.prog 74 := ⟨_, Tryd.func74, by kernel_rfl, rfl⟩
theorem x_itoa_c (n : Nat) (w : World) (hn : n ≤ 6) : Pure Tryd.prog 74 #[.int .i64 n] w (.string (digI n)) := by
  refine pure_enter (args := [_]) en_x_strconv_Itoa Tryd.func74 rfl Tryd.ntmps74 rfl ?_
  repeat' (first | apply pwp_seq | apply pwp_region | (apply px_run; (first | (apply opv_move; first | exact hid_int rfl) | (apply opv_assign; first | rfl) | (apply opv_call; rfl; rfl; exact Cl.stable _ _ _; exact fun w hw => x_Itoa_c n _ hn)); rfl; rfl) | apply px_nil | apply qseq_normal | apply pwp_ret)
  refine qbody_ret1 (v := .string _) rfl rfl ⟨rfl, fun _ h => h.below⟩
theorem en_i_FormatInt : Entry Tryd.prog 63 := ⟨_, Tryd.func63, by kernel_rfl, rfl⟩
theorem i_FormatInt_c (n : Nat) (w : World) (hn : n ≤ 6) : Pure Tryd.prog 63 #[.int .i64 n] w (.string (digI n)) := by
  refine pure_enter (args := [_]) en_i_FormatInt Tryd.func63 rfl Tryd.ntmps63 rfl ?_
  repeat' (first | apply pwp_seq | apply pwp_region | (apply px_run; (first | (apply opv_move; first | exact hid_int rfl) | (apply opv_assign; first | rfl) | (apply opv_call; rfl; rfl; exact Cl.stable _ _ _; exact fun w hw => x_itoa_c n _ hn)); rfl; rfl) | apply px_nil | apply qseq_normal | apply pwp_ret)
  refine qbody_ret1 (v := .string _) rfl rfl ⟨rfl, fun _ h => h.below⟩
theorem en_s_FormatInt : Entry Tryd.prog 44 := ⟨_, Tryd.func44, by kernel_rfl, rfl⟩
theorem s_FormatInt_c (n : Nat) (w : World) (hn : n ≤ 6) : Pure Tryd.prog 44 #[.int .i64 n] w (.string (digI n)) := by
  refine pure_enter (args := [_]) en_s_FormatInt Tryd.func44 rfl Tryd.ntmps44 rfl ?_
  by_cases h0 : n = 0
  · subst h0
    repeat' (first | apply pwp_seq | apply pwp_region | (apply px_run; (first | (apply opv_move; first | exact hid_int rfl) | (apply opv_assign; first | rfl) | (apply opv_eql <;> rfl)); rfl; rfl) | apply px_nil | apply qseq_normal | apply qseq_ret | apply pwp_ret | (apply pwp_cond_t; rfl))
    refine qbody_ret1 (v := .string _) rfl rfl ⟨rfl, fun _ h => h.below⟩
  have e1 : Int.tmod (n : Int) 10 = n := by rw [Int.tmod_eq_emod_of_nonneg (by omega)]; omega
  have e2 : w64 (Int.tdiv (n : Int) 10) = 0 := by rw [show Int.tdiv (n : Int) 10 = 0 by rw [Int.tdiv_eq_ediv_of_nonneg (by omega)]; omega]; rfl
  have e3 : (ByteArray.mk #[UInt8.ofNat (IntKind.u8.wrap (48 + (n : Int))).toNat]) = digI n := by
    have : n = 0 ∨ n = 1 ∨ n = 2 ∨ n = 3 ∨ n = 4 ∨ n = 5 ∨ n = 6 := by omega
    rcases this with rfl | rfl | rfl | rfl | rfl | rfl | rfl <;> rfl
  repeat' (first | apply pwp_seq | apply pwp_region | (apply px_run; (first | (apply opv_move; first | exact hid_int rfl) | (apply opv_assign; first | exact hid_bool rfl | rfl) | (apply opv_lss <;> rfl) | (apply opv_eql <;> rfl)); rfl; rfl) | apply px_nil | apply qseq_normal | apply pwp_block | apply pwp_skip | (apply pwp_cond_dec; rfl; all_goals (intro hc; try (first | (exfalso; omega)))))
  refine pwp_loop (τ := Bool) [(0,0), (3,3), (5,5), (10,26)] (fun x => [(3, .string (if x then digI n else ByteArray.empty)), (0, .int .i64 (if x then 0 else n : Int))]) (fun x => Cl [] w []) (fun x => True) (fun x => if x then 0 else 1) false
    ⟨rfl, rfl, trivial⟩ trivial (fun w' h => by exact Cl.sub (by assumption) (by repeat (first | exact List.Sublist.slnil | exact List.Sublist.refl _ | apply List.Sublist.cons_cons | exact List.sublist_append_left _ _ | exact List.sublist_append_right _ _ | apply List.Sublist.cons))) (fun J x hx => ?_)
  cases x with
  | true =>
    simp only [if_true]
    repeat' (first | apply pwp_seq | apply pwp_region | (apply px_run; (first | (apply opv_move; first | exact hid_int rfl | exact hid_bool rfl | rfl) | (apply opv_assign; first | rfl) | (apply opv_neq <;> rfl)); rfl; rfl) | apply px_nil | apply qseq_normal | apply qseq_exit | (apply qblock_exit_same; rfl) | apply pwp_skip | apply pwp_exit | apply pwp_ret | apply qround_exit | (apply pwp_cond_f; rfl))
    refine qbody_ret1 (v := .string _) rfl rfl ⟨rfl, fun _ h => h.below⟩
  | false =>
    simp only [Bool.false_eq_true, if_false]
    repeat' (first | apply pwp_seq | apply pwp_region | (apply px_run; (first | (apply opv_rem_n; rfl; rfl; omega) | (apply opv_quo_n; rfl; rfl; omega) | (apply opv_byte_str ty_bytes ty_byte ty_str; rfl; exact rd_row 0 rfl) | (apply opv_cat; rfl; rfl; (show (1 : Nat) + 0 ≤ 4611686018427387904); omega) | (apply opv_move; first | exact hid_int rfl | rfl) | (apply opv_assign; first | exact hid_int rfl | rfl) | (apply opv_lss <;> rfl) | (apply opv_neq <;> rfl) | (apply opv_add_in; rfl; rfl; omega) | (apply opv_conv Tryd.underlying3 Tryd.underlying5; rfl)); rfl; rfl) | apply px_nil | apply qseq_normal | apply pwp_block | apply qblock_normal | apply pwp_skip | (apply pwp_cond_f; rfl) | (apply pwp_cond_ndec; rfl; all_goals (intro hc; try (first | contradiction))) | (apply px_lit1 ez_byte; rfl; (intro w hw; rfl); rfl; rfl; rfl; intro sv))
    have e5 : digI (n : Int) = (ByteArray.mk #[UInt8.ofNat (IntKind.u8.wrap (48 + (n : Int))).toNat]) ++ ByteArray.empty := by rw [e3, ByteArray.append_empty]
    refine qround_normal ?_ ⟨true, ⟨by (show _ = Value.string (digI (n : Int))); rw [e5]; rfl, rfl, trivial⟩, trivial, by decide, fun w' h => ?_⟩
    · repeat (first | exact same_refl | refine same_upd rfl ?_ | refine same_junk rfl ?_)
    · exact Cl.sub (by assumption) (by repeat (first | exact List.Sublist.slnil | exact List.Sublist.refl _ | apply List.Sublist.cons_cons | exact List.sublist_append_left _ _ | exact List.sublist_append_right _ _ | apply List.Sublist.cons))
theorem en_i_digits : Entry Tryd.prog 47 := ⟨_, Tryd.func47, by kernel_rfl, rfl⟩
theorem i_digits_c (v : Value) (l : List Int) (w : World) (hr : Arr w v (ints l)) (hl : l.length ≤ 7) (hb : ∀ x ∈ l, 0 ≤ x ∧ x ≤ 6) : Pure Tryd.prog 47 #[v] w (.string (digsB l)) := by
  refine pure_enter (args := [_]) en_i_digits Tryd.func47 rfl Tryd.ntmps47 rfl ?_
  repeat' (first | apply pwp_seq | apply pwp_region | (apply px_run; (first | (apply opv_move; first | exact hid_int rfl | rfl) | (apply opv_assign; first | rfl) | (apply opv_len_ints el_int; rfl; (first | exact rd_old (by assumption)))); rfl; rfl) | apply px_nil | apply qseq_normal | apply pwp_block)
  refine pwp_loop (τ := Nat) [(3,3), (5,5), (8,16)] (fun i => [(8, .int .i64 (i : Int)), (3, .string (digsB (l.take i)))]) (fun i => Cl [] w []) (fun i => i ≤ l.length) (fun i => l.length - i) 0
    ⟨rfl, rfl, trivial⟩ (Nat.zero_le _) (fun w' h => by exact Cl.sub (by assumption) (by repeat (first | exact List.Sublist.slnil | exact List.Sublist.refl _ | apply List.Sublist.cons_cons | exact List.sublist_append_left _ _ | exact List.sublist_append_right _ _ | apply List.Sublist.cons))) (fun J i hi => ?_)
  by_cases hlt : i < l.length
  · have hpm : l.getD i 0 ∈ l := by simp [List.getD, hlt]
    obtain ⟨hp0, hp6⟩ := hb _ hpm
    obtain ⟨k, hk⟩ : ∃ k : Nat, l.getD i 0 = (k : Int) := ⟨(l.getD i 0).toNat, by omega⟩
    have hs1 := digsB_size (l.take i)
    have hs2 : (l.take i).length ≤ 7 := by rw [List.length_take]; omega
    have hs3 := digI_size (l.getD i 0)
    have kF : ∀ w', Pure Tryd.prog 63 #[.int .i64 (l.getD i 0)] w' (.string (digI (l.getD i 0))) := fun w' => by
      rw [hk]; exact i_FormatInt_c k w' (by omega)
    have htk : digsB (l.take (i + 1)) = digsB (l.take i) ++ digI (l.getD i 0) := digsB_take hlt
    repeat' (first | apply pwp_seq | apply pwp_region | (apply px_run; (first | (apply opv_cat; rfl; rfl; omega) | (apply opv_move; first | exact hid_int rfl | rfl) | (apply opv_assign; first | exact hid_int rfl | rfl) | (apply opv_lss <;> rfl) | (apply opv_add_in; rfl; rfl; omega) | (apply opv_load_ints sc_int; rfl; (first | exact rd_old (by assumption)); (first | omega)) | (apply opv_index_nat (vs := ints _) el_int; rfl; rfl; (first | exact rd_old (by assumption)); (first | (simp only [ints_length]; omega))) | (apply opv_call; rfl; rfl; exact Cl.stable _ _ _; exact fun w hw => kF _)); rfl; rfl) | apply px_nil | apply qseq_normal | apply pwp_block | apply qblock_normal | apply pwp_skip | (apply pwp_cond_dec; rfl; all_goals (intro hc; try (first | (exfalso; omega)))))
    refine qround_normal ?_ ⟨i + 1, ⟨rfl, by rw [htk]; rfl, trivial⟩, by (try dsimp only); omega, by (try dsimp only); omega, fun w' h => ?_⟩
    · repeat (first | exact same_refl | refine same_upd rfl ?_ | refine same_junk rfl ?_)
    · exact Cl.sub (by assumption) (by repeat (first | exact List.Sublist.slnil | exact List.Sublist.refl _ | apply List.Sublist.cons_cons | exact List.sublist_append_left _ _ | exact List.sublist_append_right _ _ | apply List.Sublist.cons))
  · obtain rfl : i = l.length := by omega
    rw [List.take_length]
    repeat' (first | apply pwp_seq | apply pwp_region | (apply px_run; (first | (apply opv_move; first | rfl) | (apply opv_assign; first | rfl) | (apply opv_lss <;> rfl)); rfl; rfl) | apply px_nil | apply qseq_normal | apply qseq_exit | (apply qblock_exit_same; rfl) | apply pwp_exit | apply pwp_ret | apply qround_exit | (apply pwp_cond_dec; rfl; all_goals (intro hc; try (first | (exfalso; omega)))))
    refine qbody_ret1 (v := .string _) rfl rfl ⟨rfl, fun _ h => h.below⟩
theorem en_i_FormatSet : Entry Tryd.prog 25 := ⟨_, Tryd.func25, by kernel_rfl, rfl⟩
theorem i_FormatSet_c (set : Int) (w : World) : Pure Tryd.prog 25 #[.int .i64 set] w (.string (fmtS set)) := by
  refine pure_enter (args := [_]) en_i_FormatSet Tryd.func25 rfl Tryd.ntmps25 rfl ?_
  have kD : ∀ v w', Arr w' v (ints (listS set)) → Pure Tryd.prog 47 #[v] w' (.string (digsB (listS set))) := fun v w' h => i_digits_c v _ w' h (listS_length set) (listS_b6 set)
  by_cases h0 : set = 0
  · have hf : fmtS set = ⟨#[45]⟩ := if_pos h0
    rw [hf]
    repeat' (first | apply pwp_seq | apply pwp_region | (apply px_run; (first | (apply opv_move; first | exact hid_int rfl) | (apply opv_assign; first | rfl) | (apply opv_eql <;> rfl)); rfl; rfl) | apply px_nil | apply qseq_normal | apply qseq_ret | apply pwp_ret | (apply pwp_cond_dec; rfl; all_goals (intro hc; try (first | contradiction))))
    refine qbody_ret1 (v := .string _) rfl rfl ⟨rfl, fun _ h => h.below⟩
  · have hf : fmtS set = digsB (listS set) := if_neg h0
    rw [hf]
    repeat' (first | apply pwp_seq | apply pwp_region | (apply px_run; (first | (apply opv_move; first | exact hid_int rfl) | (apply opv_assign; first | rfl) | (apply opv_eql <;> rfl) | (apply opv_call; rfl; rfl; exact Cl.stable _ _ _; exact fun w hw => kD _ _ (by first | exact hw.rowArr (k := 0) rfl))); rfl; rfl) | apply px_nil | apply qseq_normal | apply pwp_skip | apply pwp_ret | (apply pwp_cond_dec; rfl; all_goals (intro hc; try (first | contradiction))) | (apply px_gives; rfl; rfl; rfl; rfl; rfl; exact fun w hw => i_ListOf_c set _; rintro sl _ rfl))
    refine qbody_ret1 (v := .string _) rfl rfl ⟨rfl, fun _ h => h.below⟩
theorem en_s_FormatSet : Entry Tryd.prog 22 := ⟨_, Tryd.func22, by kernel_rfl, rfl⟩
theorem s_FormatSet_c (set : Int) (w : World) : Pure Tryd.prog 22 #[.int .i64 set] w (.string (fmtS set)) := by
  refine pure_enter (args := [_]) en_s_FormatSet Tryd.func22 rfl Tryd.ntmps22 rfl ?_
  have hl := listS_length set
  have hb := listS_b6 set
  have hz : listS set = [] ↔ set = 0 ∨ ¬ (0 ≤ set ∧ set ≤ 127) := listS_nil set
  repeat' (first | apply pwp_seq | apply pwp_region | (apply px_run; (first | (apply opv_move; first | exact hid_int rfl) | (apply opv_assign; first | exact hid_int rfl | rfl)); rfl; rfl) | apply px_nil | apply qseq_normal | apply pwp_block | (apply px_gives; rfl; rfl; rfl; rfl; rfl; exact fun w hw => s_ListOf_c set _; rintro sl _ rfl))
  generalize hL : listS set = l at *
  refine pwp_loop (τ := Nat) [(4,5), (8,20)] (fun i => [(5, .int .i64 (i : Int)), (4, .string (digsB (l.take i)))]) (fun i => Cl [] w [.row 3 sl (ints l)]) (fun i => i ≤ l.length) (fun i => l.length - i) 0
    ⟨rfl, rfl, trivial⟩ (Nat.zero_le _) (fun w' h => by exact Cl.sub (by assumption) (by repeat (first | exact List.Sublist.slnil | exact List.Sublist.refl _ | apply List.Sublist.cons_cons | exact List.sublist_append_left _ _ | exact List.sublist_append_right _ _ | apply List.Sublist.cons))) (fun J i hi => ?_)
  by_cases hlt : i < l.length
  · have hpm : l.getD i 0 ∈ l := by simp [List.getD, hlt]
    obtain ⟨hp0, hp6⟩ := hb _ hpm
    obtain ⟨k, hk⟩ : ∃ k : Nat, l.getD i 0 = (k : Int) := ⟨(l.getD i 0).toNat, by omega⟩
    have hs1 := digsB_size (l.take i)
    have hs2 : (l.take i).length ≤ 7 := by rw [List.length_take]; omega
    have hs3 := digI_size (l.getD i 0)
    have kF : ∀ w', Pure Tryd.prog 44 #[.int .i64 (l.getD i 0)] w' (.string (digI (l.getD i 0))) := fun w' => by
      rw [hk]; exact s_FormatInt_c k w' (by omega)
    have htk : digsB (l.take (i + 1)) = digsB (l.take i) ++ digI (l.getD i 0) := digsB_take hlt
    repeat' (first | apply pwp_seq | apply pwp_region | (apply px_run; (first | (apply opv_cat; rfl; rfl; omega) | (apply opv_move; first | exact hid_int rfl | rfl) | (apply opv_assign; first | exact hid_int rfl | rfl) | (apply opv_lss <;> rfl) | (apply opv_add_in; rfl; rfl; omega) | (apply opv_load_ints sc_int; rfl; (first | exact rd_row 0 rfl); (first | omega)) | (apply opv_index_nat (vs := ints _) el_int; rfl; rfl; (first | exact rd_row 0 rfl); (first | (simp only [ints_length]; omega))) | (apply opv_len_ints el_int; rfl; (first | exact rd_row 0 rfl)) | (apply opv_call; rfl; rfl; exact Cl.stable _ _ _; exact fun w hw => kF _)); rfl; rfl) | apply px_nil | apply qseq_normal | apply pwp_block | apply qblock_normal | apply pwp_skip | (apply pwp_cond_dec; rfl; all_goals (intro hc; try (first | (exfalso; omega)))))
    refine qround_normal ?_ ⟨i + 1, ⟨rfl, by rw [htk]; rfl, trivial⟩, by (try dsimp only); omega, by (try dsimp only); omega, fun w' h => ?_⟩
    · repeat (first | exact same_refl | refine same_upd rfl ?_ | refine same_junk rfl ?_)
    · exact Cl.sub (by assumption) (by repeat (first | exact List.Sublist.slnil | exact List.Sublist.refl _ | apply List.Sublist.cons_cons | exact List.sublist_append_left _ _ | exact List.sublist_append_right _ _ | apply List.Sublist.cons))
  · obtain rfl : i = l.length := by omega
    rw [List.take_length]
    by_cases hn : l = []
    · have hE : ((digsB l).toList == (ByteArray.mk #[]).toList) = true := by rw [hn, ByteArray.toList_eq, ByteArray.toList_eq]; rfl
      by_cases hf : 0 ≤ set ∧ set ≤ 127
      · have h0 : set = 0 := by have := hz.1 hn; omega
        have hF : fmtS set = ⟨#[45]⟩ := if_pos h0
        rw [hF]
        repeat' (first | apply pwp_seq | apply pwp_region | (apply px_run; (first | (apply opv_eql_s_r rfl rfl hE) | (apply opv_move; first | exact hid_int rfl | exact hid_bool rfl | rfl) | (apply opv_assign; first | rfl) | (apply opv_lss <;> rfl) | (apply opv_pick_t <;> rfl) | (apply opv_len_ints el_int; rfl; (first | exact rd_row 0 rfl)) | (apply opv_call; rfl; rfl; exact Cl.stable _ _ _; exact fun w hw => s_l3Fine_c _ _)); rfl; rfl) | apply px_nil | apply qseq_normal | apply qseq_ret | apply qseq_exit | (apply qblock_exit_same; rfl) | apply pwp_exit | apply pwp_ret | apply qround_exit | (apply pwp_cond_dec; rfl; all_goals (intro hc; try (first | contradiction | (exfalso; omega)))))
        all_goals (refine qbody_ret1 (v := .string _) rfl rfl ⟨rfl, fun _ h => h.below⟩)
      · have hF : fmtS set = digsB l := by rw [← hL]; exact if_neg (by omega)
        rw [hF]
        repeat' (first | apply pwp_seq | apply pwp_region | (apply px_run; (first | (apply opv_eql_s_r rfl rfl hE) | (apply opv_move; first | exact hid_int rfl | exact hid_bool rfl | rfl) | (apply opv_assign; first | rfl) | (apply opv_lss <;> rfl) | (apply opv_pick_t <;> rfl) | (apply opv_len_ints el_int; rfl; (first | exact rd_row 0 rfl)) | (apply opv_call; rfl; rfl; exact Cl.stable _ _ _; exact fun w hw => s_l3Fine_c _ _)); rfl; rfl) | apply px_nil | apply qseq_normal | apply qseq_exit | (apply qblock_exit_same; rfl) | apply pwp_skip | apply pwp_exit | apply pwp_ret | apply qround_exit | (apply pwp_cond_dec; rfl; all_goals (intro hc; try (first | contradiction | (exfalso; omega)))))
        all_goals (refine qbody_ret1 (v := .string _) rfl rfl ⟨rfl, fun _ h => h.below⟩)
    · have hE : ((digsB l).toList == (ByteArray.mk #[]).toList) = false := by
        rw [beq_eq_false_iff_ne]
        intro h
        have h2 := congrArg List.length h
        rw [toList_len, toList_len, digsB_size] at h2
        exact hn (List.eq_nil_of_length_eq_zero h2)
      have hF : fmtS set = digsB l := by rw [← hL]; exact if_neg (fun h => hn (hz.2 (.inl h)))
      rw [hF]
      repeat' (first | apply pwp_seq | apply pwp_region | (apply px_run; (first | (apply opv_eql_s_r rfl rfl hE) | (apply opv_move; first | exact hid_int rfl | exact hid_bool rfl | rfl) | (apply opv_assign; first | rfl) | (apply opv_lss <;> rfl) | (apply opv_pick_f <;> rfl) | (apply opv_len_ints el_int; rfl; (first | exact rd_row 0 rfl))); rfl; rfl) | apply px_nil | (apply px_skip; rfl; rfl) | apply qseq_normal | apply qseq_exit | (apply qblock_exit_same; rfl) | apply pwp_skip | apply pwp_exit | apply pwp_ret | apply qround_exit | (apply pwp_cond_f; rfl) | (apply pwp_cond_dec; rfl; all_goals (intro hc; try (first | (exfalso; omega)))))
      all_goals (refine qbody_ret1 (v := .string _) rfl rfl ⟨rfl, fun _ h => h.below⟩)
end Go.Proofs.YthbhoofhenmbeaaDoor
