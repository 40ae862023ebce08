/- Sorting short lists of numbers. -/
import Derived.Test.YtmmflnigejfplaaGreatSl
import Derived.Test.YtmmflnigejfplaaGreatPwPsv
import Derived.Test.YtmmflnigejfplaaGreatPwStx
import Derived.Test.YtmmflnigejfplaaGreatPwPpe
import Derived.Test.YtmmflnigejfplaaGreatLd
namespace Go.Proofs.YtmmflnigejfplaaGreat
open Go Go.RowKit Go.Pw
theorem en_x_cmp_isNaN_int : Entry Tryz.prog 119 := ⟨_, Tryz.func119, by kernel_rfl, rfl⟩
theorem x_isNaN_c (a : Int) (w : World) : Pure Tryz.prog 119 #[.int .i64 a] w (.bool false) := by
  refine pure_enter (args := [_]) en_x_cmp_isNaN_int Tryz.func119 rfl Tryz.ntmps119 rfl ?_
  repeat' (first | apply pwp_seq | apply pwp_region | (apply px_run; (first | (apply opv_move; first | exact hid_int rfl) | (apply opv_assign; first | exact hid_bool rfl) | (apply opv_neq <;> rfl)); rfl; rfl) | apply px_nil | apply qseq_normal | apply pwp_ret)
  refine qbody_ret1 (v := .bool _) rfl rfl ⟨by simp, fun _ h => h.below⟩
theorem en_x_cmp_Less_int : Entry Tryz.prog 109 := ⟨_, Tryz.func109, by kernel_rfl, rfl⟩
theorem x_Less_c (a b : Int) (w : World) : Pure Tryz.prog 109 #[.int .i64 a, .int .i64 b] w (.bool (decide (a < b))) := by
  refine pure_enter (args := [_, _]) en_x_cmp_Less_int Tryz.func109 rfl Tryz.ntmps109 rfl ?_
  repeat' (first | apply pwp_seq | apply pwp_region | (apply px_run; (first | (apply opv_move; first | exact hid_int rfl | exact hid_bool rfl) | (apply opv_assign; first | exact hid_bool rfl) | (apply opv_lss <;> rfl) | (apply opv_pick_f <;> rfl) | (apply opv_call; rfl; rfl; exact Cl.stable _ _ _; exact fun w hw => x_isNaN_c _ _)); rfl; rfl) | apply px_nil | (apply px_skip; rfl; rfl) | apply qseq_normal | apply pwp_ret)
  all_goals (refine qbody_ret1 (v := .bool _) rfl rfl ⟨by simp, fun _ h => h.below⟩)
theorem en_x_math_bits_Len64 : Entry Tryz.prog 113 := ⟨_, Tryz.func113, by kernel_rfl, rfl⟩
def lensT (n : Nat) : Nat := [0, 1, 2, 2, 3, 3, 3, 3, 4, 4, 4, 4, 4].getD n 0
theorem x_Len64_c (n : Nat) (hn : n ≤ 12) (w : World) : Pure Tryz.prog 113 #[.int .u64 (n : Int)] w (.int .i64 (lensT n)) := by
  have hc13 : n = 0 ∨ n = 1 ∨ n = 2 ∨ n = 3 ∨ n = 4 ∨ n = 5 ∨ n = 6 ∨ n = 7 ∨ n = 8 ∨ n = 9 ∨ n = 10 ∨ n = 11 ∨ n = 12 := by omega
  have e8 : IntKind.u8.wrap (n : Int) = n := by rw [IntKind.wrap_u8]; omega
  refine pure_enter (args := [_]) en_x_math_bits_Len64 Tryz.func113 rfl Tryz.ntmps113 rfl ?_
  repeat' (first | apply pwp_seq | apply pwp_region | (apply px_run; (first | (apply opv_index_str (i := n) (k := .u8) (b := UInt8.ofNat (lensT n)) Tryz.underlying9; rfl; exact congrArg (Value.int .u8) e8; (focus (rcases hc13 with rfl | rfl | rfl | rfl | rfl | rfl | rfl | rfl | rfl | rfl | rfl | rfl | rfl; all_goals kernel_rfl))) | (apply opv_move; first | exact hid_int rfl) | (apply opv_assign; first | exact hid_int rfl) | (apply opv_conv Tryz.underlying106 Tryz.underlying5; rfl) | (apply opv_conv Tryz.underlying5 Tryz.underlying3; rfl) | (apply opv_geq_k <;> rfl) | (apply opv_add <;> rfl)); rfl; rfl) | apply px_nil | apply qseq_normal | apply pwp_skip | apply pwp_ret | (apply pwp_cond_dec; rfl; all_goals (intro hc; try (first | (exfalso; omega)))))
  refine qbody_ret1 (v := .int .i64 (lensT n)) rfl ?_ ⟨rfl, fun _ h => h.below⟩
  show Value.int .i64 _ = _
  congr 1
  rcases hc13 with rfl | rfl | rfl | rfl | rfl | rfl | rfl | rfl | rfl | rfl | rfl | rfl | rfl <;> decide
theorem en_x_math_bits_Len : Entry Tryz.prog 100 := ⟨_, Tryz.func100, by kernel_rfl, rfl⟩
theorem x_Len_c (n : Nat) (hn : n ≤ 12) (w : World) : Pure Tryz.prog 100 #[.int .u64 (IntKind.u64.wrap (n : Int))] w (.int .i64 (lensT n)) := by
  have e : IntKind.u64.wrap (n : Int) = n := by rw [IntKind.wrap_u64]; omega
  rw [e]
  refine pure_enter (args := [_]) en_x_math_bits_Len Tryz.func100 rfl Tryz.ntmps100 rfl ?_
  repeat' (first | apply pwp_seq | apply pwp_region | (apply px_run; (first | (apply opv_move; first | exact hid_int rfl) | (apply opv_assign; first | exact hid_int rfl) | (apply opv_call; rfl; rfl; exact Cl.stable _ _ _; exact fun w hw => x_Len64_c n hn _)); rfl; rfl) | apply px_nil | apply qseq_normal | apply pwp_skip | apply pwp_ret | (apply pwp_cond_f; rfl))
  refine qbody_ret1 (v := .int .i64 _) rfl rfl ⟨rfl, fun _ h => h.below⟩
theorem en_x_slices_insertionSortOrdered_int : Entry Tryz.prog 103 := ⟨_, Tryz.func103, by kernel_rfl, rfl⟩
set_option maxRecDepth 100000 in
set_option maxHeartbeats 1600000 in
theorem x_insOrd_c (sv : Value) (l : List Int) (w : World) (ho : Own w [.row 3 sv (ints l)]) (hl : l.length ≤ 12) :
    Turns Tryz.prog 103 #[sv, .int .i64 0, .int .i64 (l.length : Int)] w [.row 3 sv (ints l)] [.row 3 sv (ints (sortI l))] (.tuple #[]) := by
  refine turns_enter (args := [_, _, _]) ho en_x_slices_insertionSortOrdered_int Tryz.func103 rfl Tryz.ntmps103 rfl fun X => ?_
  repeat' (first | apply pwp_seq | apply pwp_region | (apply px_run; (first | (apply opv_move; first | exact hid_int rfl) | (apply opv_assign; first | exact hid_int rfl) | (apply opv_add_in; rfl; rfl; omega)); rfl; rfl) | apply px_nil | apply qseq_normal | apply pwp_block)
  refine pwp_loop (τ := Nat) [(6,7), (10,48)] (fun i => [(6, .int .i64 (i : Int))]) (fun i => Cl X w [.row 3 sv (ints (sortI (l.take i) ++ l.drop i))]) (fun i => 1 ≤ i ∧ i ≤ 13) (fun i => 13 - i) 1
    ⟨rfl, trivial⟩ ⟨by omega, by omega⟩ (fun _ h => by rw [sort_one]; exact h) (fun J i hi => ?_)
  obtain ⟨hi1, hi2⟩ := hi
  by_cases hlt : i < l.length
  · repeat' (first | apply pwp_seq | apply pwp_region | (apply px_run; (first | (apply opv_move; first | exact hid_int rfl) | (apply opv_assign; first | exact hid_int rfl) | (apply opv_lss <;> rfl)); rfl; rfl) | apply px_nil | apply qseq_normal | apply pwp_block | apply pwp_skip | (apply pwp_cond_dec; rfl; all_goals (intro hc; try (first | (exfalso; omega)))))
    have hol : (sortI (l.take i)).length = i := by rw [sortI_len]; simp; omega
    have hst : sortI (l.take i) ++ l.drop i = insAt (sortI (l.take i)) (l.getD i 0) (l.drop (i + 1)) i := by
      have := insAt_start (sortI (l.take i)) (l.getD i 0) (l.drop (i + 1))
      rw [hol] at this
      rw [this, drop_cons hlt]
    have hrd : sortI (l.take (i + 1)) = insR ltI (l.getD i 0) (sortI (l.take i)) := sortR_round hlt
    have hdl : (l.drop (i + 1)).length = l.length - (i + 1) := by simp
    rw [hst]
    generalize sortI (l.take i) = out at *
    generalize l.getD i 0 = x at *
    generalize hre : l.drop (i + 1) = rest at hst hdl ⊢
    refine pwp_loop (τ := Nat) [(7,7), (16,48)] (fun j => [(7, .int .i64 (j : Int))]) (fun j => Cl X w [.row 3 sv (ints (insAt out x rest j))]) (fun j => j ≤ i ∧ posR ltI x out j = posR ltI x out out.length) (fun j => j) i
      ⟨rfl, trivial⟩ ⟨Nat.le_refl _, by rw [hol]⟩ (fun _ h => h) (fun J2 j hj => ?_)
    obtain ⟨hji, hpos⟩ := hj
    have hal := insAt_len (x := x) (rest := rest) (out := out) (j := j) (by omega)
    have done : posR ltI x out j = j → ∀ w', Cl X w [.row 3 sv (ints (insAt out x rest j))] w' → Cl X w [.row 3 sv (ints (sortI (l.take (i + 1)) ++ rest))] w' := fun e w' h => by
      rw [hrd, ← insAt_stop (lt := ltI) rest, ← hpos, e]; exact h
    rcases Nat.eq_zero_or_pos j with rfl | hj0
    · repeat' (first | apply pwp_seq | apply pwp_region | (apply px_run; (first | (apply opv_move; first | exact hid_int rfl | exact hid_bool rfl | rfl) | (apply opv_assign; first | exact hid_int rfl) | (apply opv_gtr <;> rfl) | (apply opv_pick_f <;> rfl) | (apply opv_add_in; rfl; rfl; omega)); rfl; rfl) | apply px_nil | (apply px_skip; rfl; rfl) | apply qseq_normal | apply qseq_exit | apply qblock_normal | (apply qblock_exit_same; rfl) | apply pwp_exit | apply qround_exit | (apply pwp_cond_f; rfl) | (apply pwp_region_draw; kernel_rfl; kernel_rfl; exact Cl.stable _ _ _))
      refine qround_normal ?_ ⟨i + 1, ⟨rfl, trivial⟩, ⟨by omega, by omega⟩, by omega, fun w' h => by rw [hre]; exact done rfl w' h⟩
      repeat (first | exact same_refl | refine same_upd rfl ?_ | refine same_junk rfl ?_)
    · obtain ⟨k, rfl⟩ : ∃ k, j = k + 1 := ⟨j - 1, by omega⟩
      have e1 : (insAt out x rest (k + 1)).getD (k + 1) 0 = x := insAt_here (by omega)
      have e2 : (insAt out x rest (k + 1)).getD k 0 = out.getD k 0 := insAt_left (by omega) (by omega)
      have e3 : ((((k + 1 : Nat) : Int)) - 1).toNat = k := by omega
      by_cases hc0 : x < out.getD k 0
      · repeat' (first | apply pwp_seq | apply pwp_region | (apply px_run; (first | (apply opv_move; first | exact hid_int rfl | exact hid_bool rfl | rfl) | (apply opv_assign; first | exact hid_int rfl) | (apply opv_gtr <;> rfl) | (apply opv_pick_t <;> rfl) | (apply opv_add_in; rfl; rfl; omega) | (apply opv_sub_in; rfl; rfl; omega) | (apply opv_load_ints sc_int; rfl; (first | exact rd_row 0 rfl); (first | omega)) | (apply opv_index_nat (vs := ints _) el_int; rfl; rfl; (first | exact rd_row 0 rfl); (first | (simp only [ints_length]; omega))) | (apply opv_index (vs := ints _) el_int; rfl; rfl; (first | exact rd_row 0 rfl); omega; (first | (simp only [ints_length]; omega) | (simp [ints]; omega))) | (apply opv_call; rfl; rfl; exact Cl.stable _ _ _; exact fun w hw => x_Less_c _ _ _)); rfl; rfl) | apply px_nil | apply qseq_normal | apply qseq_exit | apply pwp_block | apply qblock_normal | (apply qblock_exit_same; rfl) | apply pwp_skip | apply pwp_exit | apply qround_exit | (apply pwp_region_any [0, 1, 2, 3, 5, 6, 7, 8, 9, 10, 11, 12, 13, 14] [15] 4 (Cl X w [.row 3 sv (ints (insAt out x rest (k+1)))]); kernel_rfl; decide +kernel; exact Cl.stable _ _ _; exact fun w h => h.sub (by repeat (first | exact List.Sublist.refl _))) | apply qlooks_normal | (apply qstep_out; decide +kernel) | (apply qstep_in; exact fun w h => h.sub (by repeat (first | exact List.Sublist.refl _))) | (apply pxa_nil; decide +kernel) | (apply pxa_one 4; decide +kernel; rfl) | (apply pxa_one 15; decide +kernel; rfl) | (apply pxa_one 16; decide +kernel; rfl) | (apply pxa_one 17; decide +kernel; rfl) | (apply pxa_two 4 15; decide +kernel; rfl; rfl) | (apply pwp_region_draw; kernel_rfl; kernel_rfl; exact Cl.stable _ _ _) | (apply px_guard_dec; rfl; rfl; rfl; all_goals (intro hc; try (first | (exfalso; omega)))) | (apply pwp_cond_dec; rfl; all_goals (intro hc; try (first | fail))) | (apply px_store_int 0 co_int; rfl; rfl; rfl; (first | omega | (simp; omega)); rfl))
        all_goals first
          | (refine qround_normal ?_ ⟨k, ⟨?_, trivial⟩, ⟨by omega, by rw [← hpos, posR, if_pos (show ltI x (out.getD k 0) = true from decide_eq_true hc0)]⟩, by omega, fun w' h => ?_⟩
             · repeat (first | exact same_refl | refine same_upd rfl ?_ | refine same_junk rfl ?_)
             · show Value.int .i64 _ = .int .i64 _; congr 1; omega
             · rw [e3, e1, e2, insAt_swap (by omega)] at h; exact h)
          | (exfalso; rw [e3, e1, e2] at hc; omega)
      · repeat' (first | apply pwp_seq | apply pwp_region | (apply px_run; (first | (apply opv_move; first | exact hid_int rfl | exact hid_bool rfl | rfl) | (apply opv_assign; first | exact hid_int rfl) | (apply opv_gtr <;> rfl) | (apply opv_pick_t <;> rfl) | (apply opv_add_in; rfl; rfl; omega) | (apply opv_sub_in; rfl; rfl; omega) | (apply opv_load_ints sc_int; rfl; (first | exact rd_row 0 rfl); (first | omega)) | (apply opv_index_nat (vs := ints _) el_int; rfl; rfl; (first | exact rd_row 0 rfl); (first | (simp only [ints_length]; omega))) | (apply opv_index (vs := ints _) el_int; rfl; rfl; (first | exact rd_row 0 rfl); omega; (first | (simp only [ints_length]; omega) | (simp [ints]; omega))) | (apply opv_call; rfl; rfl; exact Cl.stable _ _ _; exact fun w hw => x_Less_c _ _ _)); rfl; rfl) | apply px_nil | apply qseq_normal | apply qseq_exit | apply pwp_block | apply qblock_normal | (apply qblock_exit_same; rfl) | apply pwp_skip | apply pwp_exit | apply qround_exit | (apply pwp_region_any [0, 1, 2, 3, 5, 6, 7, 8, 9, 10, 11, 12, 13, 14] [15] 4 (Cl X w [.row 3 sv (ints (insAt out x rest (k+1)))]); kernel_rfl; decide +kernel; exact Cl.stable _ _ _; exact fun w h => h.sub (by repeat (first | exact List.Sublist.refl _))) | apply qlooks_normal | (apply qstep_out; decide +kernel) | (apply qstep_in; exact fun w h => h.sub (by repeat (first | exact List.Sublist.refl _))) | (apply pxa_nil; decide +kernel) | (apply pxa_one 4; decide +kernel; rfl) | (apply pxa_one 15; decide +kernel; rfl) | (apply pxa_one 16; decide +kernel; rfl) | (apply pxa_one 17; decide +kernel; rfl) | (apply pxa_two 4 15; decide +kernel; rfl; rfl) | (apply pwp_region_draw; kernel_rfl; kernel_rfl; exact Cl.stable _ _ _) | (apply px_guard_dec; rfl; rfl; rfl; all_goals (intro hc; try (first | (exfalso; omega)))) | (apply pwp_cond_dec; rfl; all_goals (intro hc; try (first | fail))) | (apply px_store_int 0 co_int; rfl; rfl; rfl; (first | omega | (simp; omega)); rfl))
        all_goals first
          | (refine qround_normal ?_ ⟨i + 1, ⟨rfl, trivial⟩, ⟨by omega, by omega⟩, by omega, fun w' h => by rw [hre]; exact done (by rw [posR, if_neg (by simpa [ltI] using hc0)]) w' h⟩
             repeat (first | exact same_refl | refine same_upd rfl ?_ | refine same_junk rfl ?_))
          | (exfalso; rw [e3, e1, e2] at hc; omega)
  · repeat' (first | apply pwp_seq | apply pwp_region | (apply px_run; (first | (apply opv_move; first | exact hid_int rfl) | (apply opv_lss <;> rfl)); rfl; rfl) | apply px_nil | apply qseq_normal | apply qseq_exit | (apply qblock_exit_same; rfl) | apply pwp_exit | apply qround_exit | (apply pwp_cond_dec; rfl; all_goals (intro hc; try (first | (exfalso; omega)))))
    refine qbody_end0 rfl ⟨rfl, fun w' h => ?_⟩
    rw [List.take_of_length_le (by omega), List.drop_of_length_le (by omega), List.append_nil] at h; exact h
theorem en_x_slices_pdqsortOrdered_int : Entry Tryz.prog 99 := ⟨_, Tryz.func99, by kernel_rfl, rfl⟩
theorem x_pdq_c (sv : Value) (l : List Int) (n : Int) (w : World) (ho : Own w [.row 3 sv (ints l)]) (hl : l.length ≤ 12) :
    Turns Tryz.prog 99 #[sv, .int .i64 0, .int .i64 (l.length : Int), .int .i64 n] w [.row 3 sv (ints l)] [.row 3 sv (ints (sortI l))] (.tuple #[]) := by
  refine turns_enter (args := [_, _, _, _]) ho en_x_slices_pdqsortOrdered_int Tryz.func99 rfl Tryz.ntmps99 rfl fun X => ?_
  repeat' (first | apply pwp_seq | apply pwp_region | (apply px_run; (first | (apply opv_assign; first | exact hid_bool rfl)); rfl; rfl) | apply px_nil | apply qseq_normal | apply pwp_block)
  refine pwp_loop_once ?_
  repeat' (first | apply pwp_seq | apply pwp_region | (apply px_run; (first | (apply opv_move; first | exact hid_int rfl | rfl) | (apply opv_assign; first | exact hid_int rfl) | (apply opv_leq <;> rfl) | (apply opv_sub_in; rfl; rfl; omega)); rfl; rfl) | apply px_nil | apply qseq_normal | apply qseq_ret | apply pwp_block | apply qblock_ret | apply pwp_ret | apply qonce_ret | (apply pwp_cond_dec; rfl; all_goals (intro hc; try (first | (exfalso; omega)))) | (apply px_turns [0]; rfl; rfl; rfl; rfl; rfl; exact fun w ho => x_insOrd_c _ _ _ ho hl))
  refine qbody_ret0 rfl ⟨rfl, fun w' h => h⟩
theorem en_x_slices_Sort_int_int : Entry Tryz.prog 97 := ⟨_, Tryz.func97, by kernel_rfl, rfl⟩
theorem x_Sort_c (sv : Value) (l : List Int) (w : World) (ho : Own w [.row 3 sv (ints l)]) (hl : l.length ≤ 12) :
    Turns Tryz.prog 97 #[sv] w [.row 3 sv (ints l)] [.row 3 sv (ints (sortI l))] (.tuple #[]) := by
  refine turns_enter (args := [_]) ho en_x_slices_Sort_int_int Tryz.func97 rfl Tryz.ntmps97 rfl fun X => ?_
  repeat' (first | apply pwp_seq | apply pwp_region | (apply px_run; (first | (apply opv_move; first | exact hid_int rfl | rfl) | (apply opv_assign; first | exact hid_int rfl) | (apply opv_len_ints el_int; rfl; (first | exact rd_row 0 rfl)) | (apply opv_conv Tryz.underlying3 Tryz.underlying90; rfl) | (apply opv_call; rfl; rfl; exact Cl.stable _ _ _; exact fun w hw => x_Len_c l.length hl _)); rfl; rfl) | apply px_nil | apply qseq_normal | (apply px_turns [0]; rfl; rfl; rfl; rfl; rfl; exact fun w ho => x_pdq_c _ _ _ _ ho hl))
  refine qbody_end0 rfl ⟨rfl, fun w' h => h⟩
theorem en_i_sorted : Entry Tryz.prog 84 := ⟨_, Tryz.func84, by kernel_rfl, rfl⟩
theorem i_sorted_c (sv : Value) (l : List Int) (w : World) (hr : Arr w sv (ints l)) (hl : l.length ≤ 12) :
    Gives Tryz.prog 84 #[sv] w (fun v objs => objs = [.row 3 v (ints (sortI l))]) := by
  refine gives_enter (args := [_]) en_i_sorted Tryz.func84 rfl Tryz.ntmps84 rfl ?_
  repeat' (first | apply pwp_seq | apply pwp_region | (apply px_run; (first | (apply opv_move; first | rfl) | (apply opv_assign; first | rfl)); rfl; rfl) | apply px_nil | apply qseq_normal | apply pwp_ret | (apply px_turns [0]; rfl; rfl; rfl; rfl; rfl; exact fun w ho => x_Sort_c _ _ _ ho hl) | (apply px_gives; rfl; rfl; rfl; rfl; rfl; exact fun w hw => x_Clone_c _ l _ (by first | exact hw.arr (by assumption)) (by omega); rintro sc _ rfl))
  refine qbody_ret1 rfl rfl ⟨_, rfl, fun w' h => ?_⟩
  exact Cl.sub (by assumption) (by repeat (first | exact List.Sublist.slnil | exact List.Sublist.refl _ | apply List.Sublist.cons_cons | exact List.sublist_append_left _ _ | exact List.sublist_append_right _ _ | apply List.Sublist.cons))
theorem en_i_isShuffle : Entry Tryz.prog 56 := ⟨_, Tryz.func56, by kernel_rfl, rfl⟩
theorem i_isShuffle_c (sv : Value) (l : List Int) (w : World) (hr : Arr w sv (ints l)) (hl : 1 ≤ (l.length : Int) ∧ (l.length : Int) ≤ 7) :
    Pure Tryz.prog 56 #[sv] w (.bool (decide (permP l))) := by
  refine pure_enter (args := [_]) en_i_isShuffle Tryz.func56 rfl Tryz.ntmps56 rfl ?_
  have hsl := sortI_len l
  repeat' (first | apply pwp_seq | apply pwp_region | (apply px_run; (first | (apply opv_move; first | exact hid_int rfl | rfl) | (apply opv_assign; first | exact hid_bool rfl) | (apply opv_len_ints el_int; rfl; (first | exact rd_row 0 rfl))); rfl; rfl) | apply px_nil | apply qseq_normal | apply pwp_block | (apply px_gives; rfl; rfl; rfl; rfl; rfl; exact fun w hw => i_sorted_c _ l _ (by first | exact hw.arr (by assumption)) (by omega); rintro sc _ rfl))
  refine pwp_loop (τ := Nat) [(2,4), (8,16)] (fun i => [(8, .int .i64 (i : Int))]) (fun i => Cl [] w [.row 3 sc (ints (sortI l))]) (fun i => i ≤ l.length ∧ ∀ k, k < i → (sortI l).getD k 0 = k) (fun i => l.length - i) 0
    ⟨rfl, trivial⟩ ⟨Nat.zero_le _, fun k hk => by omega⟩ (fun _ h => h) (fun J i hi => ?_)
  obtain ⟨hi1, hi2⟩ := hi
  by_cases hlt : i < l.length
  · repeat' (first | apply pwp_seq | apply pwp_region | (apply px_run; (first | (apply opv_move; first | exact hid_int rfl) | (apply opv_assign; first | exact hid_int rfl | exact hid_bool rfl) | (apply opv_lss <;> rfl) | (apply opv_neq <;> rfl) | (apply opv_add_in; rfl; rfl; omega) | (apply opv_load_ints sc_int; rfl; (first | exact rd_row 0 rfl); (first | omega)) | (apply opv_index_nat (vs := ints _) el_int; rfl; rfl; (first | exact rd_row 0 rfl); (first | (simp only [ints_length]; omega)))); rfl; rfl) | apply px_nil | apply qseq_normal | apply qseq_ret | apply pwp_block | apply qblock_normal | apply qblock_ret | apply pwp_skip | apply pwp_ret | apply qround_ret | (apply pwp_cond_ndec; rfl; all_goals (intro hc; try (first | fail))) | (apply pwp_cond_dec; rfl; all_goals (intro hc; try (first | (exfalso; omega)))))
    · refine qbody_ret1 (v := .bool _) rfl rfl ⟨ret_false rfl fun h => ?_, fun _ h => h.below⟩
      exact hc ((perm_sorted hl).2 h i hlt)
    · refine qround_normal ?_ ⟨i + 1, ⟨rfl, trivial⟩, ⟨by omega, fun k hk => ?_⟩, by omega, fun w' h => h⟩
      · repeat (first | exact same_refl | refine same_upd rfl ?_ | refine same_junk rfl ?_)
      · by_cases hki : k < i
        · exact hi2 k hki
        · obtain rfl : k = i := by omega
          exact hc
  · repeat' (first | apply pwp_seq | apply pwp_region | (apply px_run; (first | (apply opv_assign; first | exact hid_bool rfl) | (apply opv_lss <;> rfl)); rfl; rfl) | apply px_nil | apply qseq_normal | apply qseq_exit | (apply qblock_exit_same; rfl) | apply pwp_exit | apply pwp_ret | apply qround_exit | (apply pwp_cond_dec; rfl; all_goals (intro hc; try (first | (exfalso; omega)))))
    refine qbody_ret1 (v := .bool _) rfl rfl ⟨ret_true rfl ((perm_sorted hl).1 fun k hk => hi2 k (by omega)), fun _ h => h.below⟩
theorem en_i_IsPermutation : Entry Tryz.prog 21 := ⟨_, Tryz.func21, by kernel_rfl, rfl⟩
theorem i_IsPermutation_c (sv : Value) (l : List Int) (w : World) (hr : Arr w sv (ints l)) :
    Pure Tryz.prog 21 #[sv] w (.bool (decide (permP l))) := by
  refine pure_enter (args := [_]) en_i_IsPermutation Tryz.func21 rfl Tryz.ntmps21 rfl ?_
  have hll := hr.len
  by_cases hl : 1 ≤ (l.length : Int) ∧ (l.length : Int) ≤ 7
  · repeat' (first | apply pwp_seq | apply pwp_region | (apply px_run; (first | (apply opv_move; first | exact hid_bool rfl | rfl) | (apply opv_assign; first | exact hid_bool rfl) | (apply opv_pick_t <;> rfl) | (apply opv_len_ints el_int; rfl; (first | exact rd_old (by assumption))) | (apply opv_call; rfl; rfl; exact Cl.stable _ _ _; exact fun w hw => i_within_c _ _ _ _) | (apply opv_call; rfl; rfl; exact Cl.stable _ _ _; exact fun w hw => i_isShuffle_c _ l _ (by first | exact hw.arr (by assumption)) hl)); rfl; rfl) | apply px_nil | apply qseq_normal | apply pwp_ret | (apply px_guard_dec; rfl; rfl; rfl; all_goals (intro hc; try (first | contradiction))))
    refine qbody_ret1 (v := .bool _) rfl rfl ⟨rfl, fun _ h => h.below⟩
  · repeat' (first | apply pwp_seq | apply pwp_region | (apply px_run; (first | (apply opv_move; first | exact hid_bool rfl | rfl) | (apply opv_assign; first | exact hid_bool rfl) | (apply opv_pick_f <;> rfl) | (apply opv_len_ints el_int; rfl; (first | exact rd_old (by assumption))) | (apply opv_call; rfl; rfl; exact Cl.stable _ _ _; exact fun w hw => i_within_c _ _ _ _)); rfl; rfl) | apply px_nil | (apply px_skip; rfl; rfl) | apply qseq_normal | apply pwp_ret | (apply px_guard_dec; rfl; rfl; rfl; all_goals (intro hc; try (first | contradiction))))
    refine qbody_ret1 (v := .bool _) rfl rfl ⟨ret_false rfl fun h => hl h.1, fun _ h => h.below⟩
theorem en_s_IsPermutation : Entry Tryz.prog 49 := ⟨_, Tryz.func49, by kernel_rfl, rfl⟩
theorem s_IsPermutation_c (sv : Value) (l : List Int) (w : World) (hr : Arr w sv (ints l)) :
    Pure Tryz.prog 49 #[sv] w (.bool (decide (permP l))) := by
  refine pure_enter (args := [_]) en_s_IsPermutation Tryz.func49 rfl Tryz.ntmps49 rfl ?_
  have hll := hr.len
  by_cases hs : okS l
  · by_cases hl : 1 ≤ (l.length : Int) ∧ (l.length : Int) ≤ 7
    · have e := perm_set hl hs
      obtain ⟨_, hy2, hy3⟩ := shl1 (n := (l.length : Int)) ⟨by omega, by omega⟩
      repeat' (first | apply pwp_seq | apply pwp_region | (apply px_run; (first | (apply opv_move; first | exact hid_int rfl | exact hid_bool rfl | rfl) | (apply opv_assign; first | exact hid_int rfl | exact hid_bool rfl) | (apply opv_eql <;> rfl) | (apply opv_pick_t <;> rfl) | (apply opv_sub_in; rfl; rfl; omega) | (apply opv_shl; rfl; rfl; omega) | (apply opv_len_ints el_int; rfl; (first | exact rd_old (by assumption))) | (apply opv_extract; rfl; rfl) | (apply opv_call; rfl; rfl; exact Cl.stable _ _ _; exact fun w hw => s_SetOf_c _ l _ (by first | exact hw.arr (by assumption))) | (apply opv_call; rfl; rfl; exact Cl.stable _ _ _; exact fun w hw => s_l1In_c _ _ _ _)); rfl; rfl) | apply px_nil | apply qseq_normal | apply pwp_ret | (apply px_guard_dec; rfl; rfl; rfl; all_goals (intro hc; try (first | contradiction))))
      all_goals (refine qbody_ret1 (v := .bool _) rfl rfl ⟨by simp [e], fun _ h => h.below⟩)
    · repeat' (first | apply pwp_seq | apply pwp_region | (apply px_run; (first | (apply opv_move; first | exact hid_int rfl | exact hid_bool rfl | rfl) | (apply opv_assign; first | exact hid_int rfl | exact hid_bool rfl) | (apply opv_pick_t <;> rfl) | (apply opv_pick_f <;> rfl) | (apply opv_len_ints el_int; rfl; (first | exact rd_old (by assumption))) | (apply opv_extract; rfl; rfl) | (apply opv_call; rfl; rfl; exact Cl.stable _ _ _; exact fun w hw => s_SetOf_c _ l _ (by first | exact hw.arr (by assumption))) | (apply opv_call; rfl; rfl; exact Cl.stable _ _ _; exact fun w hw => s_l1In_c _ _ _ _)); rfl; rfl) | apply px_nil | (apply px_skip; rfl; rfl) | apply qseq_normal | apply pwp_ret | (apply px_guard_dec; rfl; rfl; rfl; all_goals (intro hc; try (first | contradiction))))
      all_goals (refine qbody_ret1 (v := .bool _) rfl rfl ⟨ret_false rfl fun h => hl h.1, fun _ h => h.below⟩)
  · repeat' (first | apply pwp_seq | apply pwp_region | (apply px_run; (first | (apply opv_move; first | exact hid_int rfl | exact hid_bool rfl | rfl) | (apply opv_assign; first | exact hid_int rfl | exact hid_bool rfl) | (apply opv_pick_f <;> rfl) | (apply opv_extract; rfl; rfl) | (apply opv_call; rfl; rfl; exact Cl.stable _ _ _; exact fun w hw => s_SetOf_c _ l _ (by first | exact hw.arr (by assumption)))); rfl; rfl) | apply px_nil | (apply px_skip; rfl; rfl) | apply qseq_normal | apply pwp_ret | (apply px_guard_dec; rfl; rfl; rfl; all_goals (intro hc; try (first | contradiction))))
    all_goals (refine qbody_ret1 (v := .bool _) rfl rfl ⟨ret_false rfl fun h => hs (perm_okS h), fun _ h => h.below⟩)
end Go.Proofs.YtmmflnigejfplaaGreat
