import Derived.Test.YtdenkbephkfifaaGreatSl
import Derived.Test.YtdenkbephkfifaaGreatPwPsv
import Derived.Test.YtdenkbephkfifaaGreatPwStx
import Derived.Test.YtdenkbephkfifaaGreatPwPpe
import Derived.Test.YtdenkbephkfifaaGreatLd
import Derived.Test.YtdenkbephkfifaaGreatQt
import Derived.Test.YtdenkbephkfifaaGreatPwPgp
import Derived.Test.YtdenkbephkfifaaGreatPwPfl
import Derived.Test.YtdenkbephkfifaaGreatPwMod
import Derived.Test.YtdenkbephkfifaaGreatFl
import Derived.Test.YtdenkbephkfifaaGreatPwSM
import Derived.Test.YtdenkbephkfifaaGreatPwPlain
import Derived.Test.YtdenkbephkfifaaGreatPwBool
import Derived.Test.YtdenkbephkfifaaGreatPwTurn
import Derived.Test.YtdenkbephkfifaaGreatLa
import Derived.Test.YtdenkbephkfifaaGreatPwSS
import Derived.Test.YtdenkbephkfifaaGreatGs
import Derived.Test.YtdenkbephkfifaaGreatPwPed
import Derived.Test.YtdenkbephkfifaaGreatPwPar
import Derived.Test.YtdenkbephkfifaaGreatCq
import Derived.Test.YtdenkbephkfifaaGreatPwPor
import Derived.Test.YtdenkbephkfifaaGreatPwOri
import Derived.Test.YtdenkbephkfifaaGreatDd
import Derived.Test.YtdenkbephkfifaaGreatPwCur
import Derived.Test.YtdenkbephkfifaaGreatPwJoin
import Derived.Test.YtdenkbephkfifaaGreatWt
import Derived.Test.YtdenkbephkfifaaGreatPwDrop
/- Sorting short lists of numbers. -/
namespace Go.Proofs.YtdenkbephkfifaaGreat
open Go Go.RowKit Go.Pw
theorem en_x_cmp_isNaN_int : Entry Tryz.prog 108 := ⟨_, Tryz.func108, by kernel_rfl, rfl⟩
theorem x_isNaN_c (a : Int) (w : World) : Pure Tryz.prog 108 #[.int .i64 a] w (.bool false) := by
  refine pure_enter (args := [_]) en_x_cmp_isNaN_int Tryz.func108 rfl Tryz.ntmps108 rfl ?_
  repeat' (first | apply pwp_seq | apply pwp_region | (apply px_run; (first | (apply opv_move; first | exact hid_int rfl) | (apply opv_assign; first | exact hid_bool rfl) | (apply opv_neq <;> rfl)); rfl; rfl) | apply px_nil | apply qseq_normal | apply pwp_ret)
  refine qbody_ret1 (v := .bool _) rfl rfl ⟨by simp, fun _ h => h.below⟩
theorem en_x_cmp_Less_int : Entry Tryz.prog 98 := ⟨_, Tryz.func98, by kernel_rfl, rfl⟩
theorem x_Less_c (a b : Int) (w : World) : Pure Tryz.prog 98 #[.int .i64 a, .int .i64 b] w (.bool (decide (a < b))) := by
  refine pure_enter (args := [_, _]) en_x_cmp_Less_int Tryz.func98 rfl Tryz.ntmps98 rfl ?_
  repeat' (first | apply pwp_seq | apply pwp_region | (apply px_run; (first | (apply opv_move; first | exact hid_int rfl | exact hid_bool rfl) | (apply opv_assign; first | exact hid_bool rfl) | (apply opv_lss <;> rfl) | (apply opv_pick_f <;> rfl) | (apply opv_call; rfl; rfl; exact Cl.stable _ _ _; exact fun w hw => x_isNaN_c _ _)); rfl; rfl) | apply px_nil | (apply px_skip; rfl; rfl) | apply qseq_normal | apply pwp_ret)
  all_goals (refine qbody_ret1 (v := .bool _) rfl rfl ⟨by simp, fun _ h => h.below⟩)
theorem en_x_math_bits_Len64 : Entry Tryz.prog 102 := ⟨_, Tryz.func102, by kernel_rfl, rfl⟩
def lensT (n : Nat) : Nat := [0, 1, 2, 2, 3, 3, 3, 3, 4, 4, 4, 4, 4].getD n 0
theorem x_Len64_c (n : Nat) (hn : n ≤ 12) (w : World) : Pure Tryz.prog 102 #[.int .u64 (n : Int)] w (.int .i64 (lensT n)) := by
  have hc13 : n = 0 ∨ n = 1 ∨ n = 2 ∨ n = 3 ∨ n = 4 ∨ n = 5 ∨ n = 6 ∨ n = 7 ∨ n = 8 ∨ n = 9 ∨ n = 10 ∨ n = 11 ∨ n = 12 := by omega
  have e8 : IntKind.u8.wrap (n : Int) = n := by rw [IntKind.wrap_u8]; omega
  refine pure_enter (args := [_]) en_x_math_bits_Len64 Tryz.func102 rfl Tryz.ntmps102 rfl ?_
  repeat' (first | apply pwp_seq | apply pwp_region | (apply px_run; (first | (apply opv_index_str (i := n) (k := .u8) (b := UInt8.ofNat (lensT n)) Tryz.underlying9; rfl; exact congrArg (Value.int .u8) e8; (focus (rcases hc13 with rfl | rfl | rfl | rfl | rfl | rfl | rfl | rfl | rfl | rfl | rfl | rfl | rfl; all_goals kernel_rfl))) | (apply opv_move; first | exact hid_int rfl) | (apply opv_assign; first | exact hid_int rfl) | (apply opv_conv Tryz.underlying98 Tryz.underlying5; rfl) | (apply opv_conv Tryz.underlying5 Tryz.underlying3; rfl) | (apply opv_geq_k <;> rfl) | (apply opv_add <;> rfl)); rfl; rfl) | apply px_nil | apply qseq_normal | apply pwp_skip | apply pwp_ret | (apply pwp_cond_dec; rfl; all_goals (intro hc; try (first | (exfalso; omega)))))
  refine qbody_ret1 (v := .int .i64 (lensT n)) rfl ?_ ⟨rfl, fun _ h => h.below⟩
  show Value.int .i64 _ = _
  congr 1
  rcases hc13 with rfl | rfl | rfl | rfl | rfl | rfl | rfl | rfl | rfl | rfl | rfl | rfl | rfl <;> decide
theorem en_x_math_bits_Len : Entry Tryz.prog 91 := ⟨_, Tryz.func91, by kernel_rfl, rfl⟩
theorem x_Len_c (n : Nat) (hn : n ≤ 12) (w : World) : Pure Tryz.prog 91 #[.int .u64 (IntKind.u64.wrap (n : Int))] w (.int .i64 (lensT n)) := by
  have e : IntKind.u64.wrap (n : Int) = n := by rw [IntKind.wrap_u64]; omega
  rw [e]
  refine pure_enter (args := [_]) en_x_math_bits_Len Tryz.func91 rfl Tryz.ntmps91 rfl ?_
  repeat' (first | apply pwp_seq | apply pwp_region | (apply px_run; (first | (apply opv_move; first | exact hid_int rfl) | (apply opv_assign; first | exact hid_int rfl) | (apply opv_call; rfl; rfl; exact Cl.stable _ _ _; exact fun w hw => x_Len64_c n hn _)); rfl; rfl) | apply px_nil | apply qseq_normal | apply pwp_skip | apply pwp_ret | (apply pwp_cond_f; rfl))
  refine qbody_ret1 (v := .int .i64 _) rfl rfl ⟨rfl, fun _ h => h.below⟩
theorem en_x_slices_insertionSortOrdered_int : Entry Tryz.prog 92 := ⟨_, Tryz.func92, by kernel_rfl, rfl⟩
set_option maxRecDepth 100000 in
set_option maxHeartbeats 1600000 in
theorem x_insOrd_c (sv : Value) (l : List Int) (w : World) (ho : Own w [.row 3 sv (ints l)]) (hl : l.length ≤ 12) :
    Turns Tryz.prog 92 #[sv, .int .i64 0, .int .i64 (l.length : Int)] w [.row 3 sv (ints l)] [.row 3 sv (ints (sortI l))] (.tuple #[]) := by
  refine turns_enter (args := [_, _, _]) ho en_x_slices_insertionSortOrdered_int Tryz.func92 rfl Tryz.ntmps92 rfl fun X => ?_
  repeat' (first | apply pwp_seq | apply pwp_region | (apply px_run; (first | (apply opv_move; first | exact hid_int rfl) | (apply opv_assign; first | exact hid_int rfl) | (apply opv_add_in; rfl; rfl; omega)); rfl; rfl) | apply px_nil | apply qseq_normal | apply pwp_block)
  refine pwp_loop (τ := Nat) [(6,7), (10,48)] (fun i => [(6, .int .i64 (i : Int))]) (fun i => Cl X w [.row 3 sv (ints (sortI (l.take i) ++ l.drop i))]) (fun i => 1 ≤ i ∧ i ≤ 13) (fun i => 13 - i) 1
    ⟨rfl, trivial⟩ ⟨by omega, by omega⟩ (fun _ h => by rw [sort_one]; exact h) (fun J i hi => ?_)
  obtain ⟨hi1, hi2⟩ := hi
  by_cases hlt : i < l.length
  · repeat' (first | apply pwp_seq | apply pwp_region | (apply px_run; (first | (apply opv_move; first | exact hid_int rfl) | (apply opv_assign; first | exact hid_int rfl) | (apply opv_lss <;> rfl)); rfl; rfl) | apply px_nil | apply qseq_normal | apply pwp_block | apply pwp_skip | (apply pwp_cond_dec; rfl; all_goals (intro hc; try (first | (exfalso; omega)))))
    have hol : (sortI (l.take i)).length = i := by rw [sortI_len]; simp; omega
    have hst : sortI (l.take i) ++ l.drop i = insAt (sortI (l.take i)) (l.getD i 0) (l.drop (i + 1)) i := by
      have := insAt_start (sortI (l.take i)) (l.getD i 0) (l.drop (i + 1))
      rw [hol] at this
      rw [this, drop_cons hlt]
    have hrd : sortI (l.take (i + 1)) = insR ltI (l.getD i 0) (sortI (l.take i)) := sortR_round hlt
    have hdl : (l.drop (i + 1)).length = l.length - (i + 1) := by simp
    rw [hst]
    generalize sortI (l.take i) = out at *
    generalize l.getD i 0 = x at *
    generalize hre : l.drop (i + 1) = rest at hst hdl ⊢
    refine pwp_loop (τ := Nat) [(7,7), (16,48)] (fun j => [(7, .int .i64 (j : Int))]) (fun j => Cl X w [.row 3 sv (ints (insAt out x rest j))]) (fun j => j ≤ i ∧ posR ltI x out j = posR ltI x out out.length) (fun j => j) i
      ⟨rfl, trivial⟩ ⟨Nat.le_refl _, by rw [hol]⟩ (fun _ h => h) (fun J2 j hj => ?_)
    obtain ⟨hji, hpos⟩ := hj
    have hal := insAt_len (x := x) (rest := rest) (out := out) (j := j) (by omega)
    have done : posR ltI x out j = j → ∀ w', Cl X w [.row 3 sv (ints (insAt out x rest j))] w' → Cl X w [.row 3 sv (ints (sortI (l.take (i + 1)) ++ rest))] w' := fun e w' h => by
      rw [hrd, ← insAt_stop (lt := ltI) rest, ← hpos, e]; exact h
    rcases Nat.eq_zero_or_pos j with rfl | hj0
    · repeat' (first | apply pwp_seq | apply pwp_region | (apply px_run; (first | (apply opv_move; first | exact hid_int rfl | exact hid_bool rfl | rfl) | (apply opv_assign; first | exact hid_int rfl) | (apply opv_gtr <;> rfl) | (apply opv_pick_f <;> rfl) | (apply opv_add_in; rfl; rfl; omega)); rfl; rfl) | apply px_nil | (apply px_skip; rfl; rfl) | apply qseq_normal | apply qseq_exit | apply qblock_normal | (apply qblock_exit_same; rfl) | apply pwp_exit | apply qround_exit | (apply pwp_cond_f; rfl) | (apply pwp_region_draw; kernel_rfl; kernel_rfl; exact Cl.stable _ _ _))
      refine qround_normal ?_ ⟨i + 1, ⟨rfl, trivial⟩, ⟨by omega, by omega⟩, by omega, fun w' h => by rw [hre]; exact done rfl w' h⟩
      repeat (first | exact same_refl | refine same_upd rfl ?_ | refine same_junk rfl ?_)
    · obtain ⟨k, rfl⟩ : ∃ k, j = k + 1 := ⟨j - 1, by omega⟩
      have e1 : (insAt out x rest (k + 1)).getD (k + 1) 0 = x := insAt_here (by omega)
      have e2 : (insAt out x rest (k + 1)).getD k 0 = out.getD k 0 := insAt_left (by omega) (by omega)
      have e3 : ((((k + 1 : Nat) : Int)) - 1).toNat = k := by omega
      by_cases hc0 : x < out.getD k 0
      · repeat' (first | apply pwp_seq | apply pwp_region | (apply px_run; (first | (apply opv_move; first | exact hid_int rfl | exact hid_bool rfl | rfl) | (apply opv_assign; first | exact hid_int rfl) | (apply opv_gtr <;> rfl) | (apply opv_pick_t <;> rfl) | (apply opv_add_in; rfl; rfl; omega) | (apply opv_sub_in; rfl; rfl; omega) | (apply opv_load_ints sc_int; rfl; (first | exact rd_row 0 rfl); (first | omega)) | (apply opv_index_nat (vs := ints _) el_int; rfl; rfl; (first | exact rd_row 0 rfl); (first | (simp only [ints_length]; omega))) | (apply opv_index (vs := ints _) el_int; rfl; rfl; (first | exact rd_row 0 rfl); omega; (first | (simp only [ints_length]; omega) | (simp [ints]; omega))) | (apply opv_call; rfl; rfl; exact Cl.stable _ _ _; exact fun w hw => x_Less_c _ _ _)); rfl; rfl) | apply px_nil | apply qseq_normal | apply qseq_exit | apply pwp_block | apply qblock_normal | (apply qblock_exit_same; rfl) | apply pwp_skip | apply pwp_exit | apply qround_exit | (apply pwp_region_any [0, 1, 2, 3, 5, 6, 7, 8, 9, 10, 11, 12, 13, 14] [15] 4 (Cl X w [.row 3 sv (ints (insAt out x rest (k+1)))]); kernel_rfl; decide +kernel; exact Cl.stable _ _ _; exact fun w h => h.sub (by repeat (first | exact List.Sublist.refl _))) | apply qlooks_normal | (apply qstep_out; decide +kernel) | (apply qstep_in; exact fun w h => h.sub (by repeat (first | exact List.Sublist.refl _))) | (apply pxa_nil; decide +kernel) | (apply pxa_one 4; decide +kernel; rfl) | (apply pxa_one 15; decide +kernel; rfl) | (apply pxa_one 16; decide +kernel; rfl) | (apply pxa_one 17; decide +kernel; rfl) | (apply pxa_two 4 15; decide +kernel; rfl; rfl) | (apply pwp_region_draw; kernel_rfl; kernel_rfl; exact Cl.stable _ _ _) | (apply px_guard_dec; rfl; rfl; rfl; all_goals (intro hc; try (first | (exfalso; omega)))) | (apply pwp_cond_dec; rfl; all_goals (intro hc; try (first | fail))) | (apply px_store_int 0 co_int; rfl; rfl; rfl; (first | omega | (simp; omega)); rfl))
        all_goals first
          | (refine qround_normal ?_ ⟨k, ⟨?_, trivial⟩, ⟨by omega, by rw [← hpos, posR, if_pos (show ltI x (out.getD k 0) = true from decide_eq_true hc0)]⟩, by omega, fun w' h => ?_⟩
             · repeat (first | exact same_refl | refine same_upd rfl ?_ | refine same_junk rfl ?_)
             · show Value.int .i64 _ = .int .i64 _; congr 1; omega
             · rw [e3, e1, e2, insAt_swap (by omega)] at h; exact h)
          | (exfalso; rw [e3, e1, e2] at hc; omega)
      · repeat' (first | apply pwp_seq | apply pwp_region | (apply px_run; (first | (apply opv_move; first | exact hid_int rfl | exact hid_bool rfl | rfl) | (apply opv_assign; first | exact hid_int rfl) | (apply opv_gtr <;> rfl) | (apply opv_pick_t <;> rfl) | (apply opv_add_in; rfl; rfl; omega) | (apply opv_sub_in; rfl; rfl; omega) | (apply opv_load_ints sc_int; rfl; (first | exact rd_row 0 rfl); (first | omega)) | (apply opv_index_nat (vs := ints _) el_int; rfl; rfl; (first | exact rd_row 0 rfl); (first | (simp only [ints_length]; omega))) | (apply opv_index (vs := ints _) el_int; rfl; rfl; (first | exact rd_row 0 rfl); omega; (first | (simp only [ints_length]; omega) | (simp [ints]; omega))) | (apply opv_call; rfl; rfl; exact Cl.stable _ _ _; exact fun w hw => x_Less_c _ _ _)); rfl; rfl) | apply px_nil | apply qseq_normal | apply qseq_exit | apply pwp_block | apply qblock_normal | (apply qblock_exit_same; rfl) | apply pwp_skip | apply pwp_exit | apply qround_exit | (apply pwp_region_any [0, 1, 2, 3, 5, 6, 7, 8, 9, 10, 11, 12, 13, 14] [15] 4 (Cl X w [.row 3 sv (ints (insAt out x rest (k+1)))]); kernel_rfl; decide +kernel; exact Cl.stable _ _ _; exact fun w h => h.sub (by repeat (first | exact List.Sublist.refl _))) | apply qlooks_normal | (apply qstep_out; decide +kernel) | (apply qstep_in; exact fun w h => h.sub (by repeat (first | exact List.Sublist.refl _))) | (apply pxa_nil; decide +kernel) | (apply pxa_one 4; decide +kernel; rfl) | (apply pxa_one 15; decide +kernel; rfl) | (apply pxa_one 16; decide +kernel; rfl) | (apply pxa_one 17; decide +kernel; rfl) | (apply pxa_two 4 15; decide +kernel; rfl; rfl) | (apply pwp_region_draw; kernel_rfl; kernel_rfl; exact Cl.stable _ _ _) | (apply px_guard_dec; rfl; rfl; rfl; all_goals (intro hc; try (first | (exfalso; omega)))) | (apply pwp_cond_dec; rfl; all_goals (intro hc; try (first | fail))) | (apply px_store_int 0 co_int; rfl; rfl; rfl; (first | omega | (simp; omega)); rfl))
        all_goals first
          | (refine qround_normal ?_ ⟨i + 1, ⟨rfl, trivial⟩, ⟨by omega, by omega⟩, by omega, fun w' h => by rw [hre]; exact done (by rw [posR, if_neg (by simpa [ltI] using hc0)]) w' h⟩
             repeat (first | exact same_refl | refine same_upd rfl ?_ | refine same_junk rfl ?_))
          | (exfalso; rw [e3, e1, e2] at hc; omega)
  · repeat' (first | apply pwp_seq | apply pwp_region | (apply px_run; (first | (apply opv_move; first | exact hid_int rfl) | (apply opv_lss <;> rfl)); rfl; rfl) | apply px_nil | apply qseq_normal | apply qseq_exit | (apply qblock_exit_same; rfl) | apply pwp_exit | apply qround_exit | (apply pwp_cond_dec; rfl; all_goals (intro hc; try (first | (exfalso; omega)))))
    refine qbody_end0 rfl ⟨rfl, fun w' h => ?_⟩
    rw [List.take_of_length_le (by omega), List.drop_of_length_le (by omega), List.append_nil] at h; exact h
theorem en_x_slices_pdqsortOrdered_int : Entry Tryz.prog 90 := ⟨_, Tryz.func90, by kernel_rfl, rfl⟩
theorem x_pdq_c (sv : Value) (l : List Int) (n : Int) (w : World) (ho : Own w [.row 3 sv (ints l)]) (hl : l.length ≤ 12) :
    Turns Tryz.prog 90 #[sv, .int .i64 0, .int .i64 (l.length : Int), .int .i64 n] w [.row 3 sv (ints l)] [.row 3 sv (ints (sortI l))] (.tuple #[]) := by
  refine turns_enter (args := [_, _, _, _]) ho en_x_slices_pdqsortOrdered_int Tryz.func90 rfl Tryz.ntmps90 rfl fun X => ?_
  repeat' (first | apply pwp_seq | apply pwp_region | (apply px_run; (first | (apply opv_assign; first | exact hid_bool rfl)); rfl; rfl) | apply px_nil | apply qseq_normal | apply pwp_block)
  refine pwp_loop_once ?_
  repeat' (first | apply pwp_seq | apply pwp_region | (apply px_run; (first | (apply opv_move; first | exact hid_int rfl | rfl) | (apply opv_assign; first | exact hid_int rfl) | (apply opv_leq <;> rfl) | (apply opv_sub_in; rfl; rfl; omega)); rfl; rfl) | apply px_nil | apply qseq_normal | apply qseq_ret | apply pwp_block | apply qblock_ret | apply pwp_ret | apply qonce_ret | (apply pwp_cond_dec; rfl; all_goals (intro hc; try (first | (exfalso; omega)))) | (apply px_turns [0]; rfl; rfl; rfl; rfl; rfl; exact fun w ho => x_insOrd_c _ _ _ ho hl))
  refine qbody_ret0 rfl ⟨rfl, fun w' h => h⟩
theorem en_x_slices_Sort_int_int : Entry Tryz.prog 86 := ⟨_, Tryz.func86, by kernel_rfl, rfl⟩
theorem x_Sort_c (sv : Value) (l : List Int) (w : World) (ho : Own w [.row 3 sv (ints l)]) (hl : l.length ≤ 12) :
    Turns Tryz.prog 86 #[sv] w [.row 3 sv (ints l)] [.row 3 sv (ints (sortI l))] (.tuple #[]) := by
  refine turns_enter (args := [_]) ho en_x_slices_Sort_int_int Tryz.func86 rfl Tryz.ntmps86 rfl fun X => ?_
  repeat' (first | apply pwp_seq | apply pwp_region | (apply px_run; (first | (apply opv_move; first | exact hid_int rfl | rfl) | (apply opv_assign; first | exact hid_int rfl) | (apply opv_len_ints el_int; rfl; (first | exact rd_row 0 rfl)) | (apply opv_conv Tryz.underlying3 Tryz.underlying80; rfl) | (apply opv_call; rfl; rfl; exact Cl.stable _ _ _; exact fun w hw => x_Len_c l.length hl _)); rfl; rfl) | apply px_nil | apply qseq_normal | (apply px_turns [0]; rfl; rfl; rfl; rfl; rfl; exact fun w ho => x_pdq_c _ _ _ _ ho hl))
  refine qbody_end0 rfl ⟨rfl, fun w' h => h⟩
theorem en_i_sorted : Entry Tryz.prog 81 := ⟨_, Tryz.func81, by kernel_rfl, rfl⟩
theorem i_sorted_c (sv : Value) (l : List Int) (w : World) (hr : Arr w sv (ints l)) (hl : l.length ≤ 12) :
    Gives Tryz.prog 81 #[sv] w (fun v objs => objs = [.row 3 v (ints (sortI l))]) := by
  refine gives_enter (args := [_]) en_i_sorted Tryz.func81 rfl Tryz.ntmps81 rfl ?_
  repeat' (first | apply pwp_seq | apply pwp_region | (apply px_run; (first | (apply opv_move; first | rfl) | (apply opv_assign; first | rfl)); rfl; rfl) | apply px_nil | apply qseq_normal | apply pwp_ret | (apply px_turns [0]; rfl; rfl; rfl; rfl; rfl; exact fun w ho => x_Sort_c _ _ _ ho hl) | (apply px_gives; rfl; rfl; rfl; rfl; rfl; exact fun w hw => x_Clone_c _ l _ (by first | exact hw.arr (by assumption)) (by omega); rintro sc _ rfl))
  refine qbody_ret1 rfl rfl ⟨_, rfl, fun w' h => ?_⟩
  exact Cl.sub (by assumption) (by repeat (first | exact List.Sublist.slnil | exact List.Sublist.refl _ | apply List.Sublist.cons_cons | exact List.sublist_append_left _ _ | exact List.sublist_append_right _ _ | apply List.Sublist.cons))
theorem en_i_isShuffle : Entry Tryz.prog 64 := ⟨_, Tryz.func64, by kernel_rfl, rfl⟩
theorem i_isShuffle_c (sv : Value) (l : List Int) (w : World) (hr : Arr w sv (ints l)) (hl : 1 ≤ (l.length : Int) ∧ (l.length : Int) ≤ 7) :
    Pure Tryz.prog 64 #[sv] w (.bool (decide (permP l))) := by
  refine pure_enter (args := [_]) en_i_isShuffle Tryz.func64 rfl Tryz.ntmps64 rfl ?_
  have hsl := sortI_len l
  repeat' (first | apply pwp_seq | apply pwp_region | (apply px_run; (first | (apply opv_move; first | exact hid_int rfl | rfl) | (apply opv_assign; first | exact hid_bool rfl) | (apply opv_len_ints el_int; rfl; (first | exact rd_row 0 rfl))); rfl; rfl) | apply px_nil | apply qseq_normal | apply pwp_block | (apply px_gives; rfl; rfl; rfl; rfl; rfl; exact fun w hw => i_sorted_c _ l _ (by first | exact hw.arr (by assumption)) (by omega); rintro sc _ rfl))
  refine pwp_loop (τ := Nat) [(2,4), (8,16)] (fun i => [(8, .int .i64 (i : Int))]) (fun i => Cl [] w [.row 3 sc (ints (sortI l))]) (fun i => i ≤ l.length ∧ ∀ k, k < i → (sortI l).getD k 0 = k) (fun i => l.length - i) 0
    ⟨rfl, trivial⟩ ⟨Nat.zero_le _, fun k hk => by omega⟩ (fun _ h => h) (fun J i hi => ?_)
  obtain ⟨hi1, hi2⟩ := hi
  by_cases hlt : i < l.length
  · repeat' (first | apply pwp_seq | apply pwp_region | (apply px_run; (first | (apply opv_move; first | exact hid_int rfl) | (apply opv_assign; first | exact hid_int rfl | exact hid_bool rfl) | (apply opv_lss <;> rfl) | (apply opv_neq <;> rfl) | (apply opv_add_in; rfl; rfl; omega) | (apply opv_load_ints sc_int; rfl; (first | exact rd_row 0 rfl); (first | omega)) | (apply opv_index_nat (vs := ints _) el_int; rfl; rfl; (first | exact rd_row 0 rfl); (first | (simp only [ints_length]; omega)))); rfl; rfl) | apply px_nil | apply qseq_normal | apply qseq_ret | apply pwp_block | apply qblock_normal | apply qblock_ret | apply pwp_skip | apply pwp_ret | apply qround_ret | (apply pwp_cond_ndec; rfl; all_goals (intro hc; try (first | fail))) | (apply pwp_cond_dec; rfl; all_goals (intro hc; try (first | (exfalso; omega)))))
    · refine qbody_ret1 (v := .bool _) rfl rfl ⟨ret_false rfl fun h => ?_, fun _ h => h.below⟩
      exact hc ((perm_sorted hl).2 h i hlt)
    · refine qround_normal ?_ ⟨i + 1, ⟨rfl, trivial⟩, ⟨by omega, fun k hk => ?_⟩, by omega, fun w' h => h⟩
      · repeat (first | exact same_refl | refine same_upd rfl ?_ | refine same_junk rfl ?_)
      · by_cases hki : k < i
        · exact hi2 k hki
        · obtain rfl : k = i := by omega
          exact hc
  · repeat' (first | apply pwp_seq | apply pwp_region | (apply px_run; (first | (apply opv_assign; first | exact hid_bool rfl) | (apply opv_lss <;> rfl)); rfl; rfl) | apply px_nil | apply qseq_normal | apply qseq_exit | (apply qblock_exit_same; rfl) | apply pwp_exit | apply pwp_ret | apply qround_exit | (apply pwp_cond_dec; rfl; all_goals (intro hc; try (first | (exfalso; omega)))))
    refine qbody_ret1 (v := .bool _) rfl rfl ⟨ret_true rfl ((perm_sorted hl).1 fun k hk => hi2 k (by omega)), fun _ h => h.below⟩
theorem en_i_IsPermutation : Entry Tryz.prog 37 := ⟨_, Tryz.func37, by kernel_rfl, rfl⟩
theorem i_IsPermutation_c (sv : Value) (l : List Int) (w : World) (hr : Arr w sv (ints l)) :
    Pure Tryz.prog 37 #[sv] w (.bool (decide (permP l))) := by
  refine pure_enter (args := [_]) en_i_IsPermutation Tryz.func37 rfl Tryz.ntmps37 rfl ?_
  have hll := hr.len
  by_cases hl : 1 ≤ (l.length : Int) ∧ (l.length : Int) ≤ 7
  · repeat' (first | apply pwp_seq | apply pwp_region | (apply px_run; (first | (apply opv_move; first | exact hid_bool rfl | rfl) | (apply opv_assign; first | exact hid_bool rfl) | (apply opv_pick_t <;> rfl) | (apply opv_len_ints el_int; rfl; (first | exact rd_old (by assumption))) | (apply opv_call; rfl; rfl; exact Cl.stable _ _ _; exact fun w hw => i_within_c _ _ _ _) | (apply opv_call; rfl; rfl; exact Cl.stable _ _ _; exact fun w hw => i_isShuffle_c _ l _ (by first | exact hw.arr (by assumption)) hl)); rfl; rfl) | apply px_nil | apply qseq_normal | apply pwp_ret | (apply px_guard_dec; rfl; rfl; rfl; all_goals (intro hc; try (first | contradiction))))
    refine qbody_ret1 (v := .bool _) rfl rfl ⟨rfl, fun _ h => h.below⟩
  · repeat' (first | apply pwp_seq | apply pwp_region | (apply px_run; (first | (apply opv_move; first | exact hid_bool rfl | rfl) | (apply opv_assign; first | exact hid_bool rfl) | (apply opv_pick_f <;> rfl) | (apply opv_len_ints el_int; rfl; (first | exact rd_old (by assumption))) | (apply opv_call; rfl; rfl; exact Cl.stable _ _ _; exact fun w hw => i_within_c _ _ _ _)); rfl; rfl) | apply px_nil | (apply px_skip; rfl; rfl) | apply qseq_normal | apply pwp_ret | (apply px_guard_dec; rfl; rfl; rfl; all_goals (intro hc; try (first | contradiction))))
    refine qbody_ret1 (v := .bool _) rfl rfl ⟨ret_false rfl fun h => hl h.1, fun _ h => h.below⟩
theorem en_s_IsPermutation : Entry Tryz.prog 44 := ⟨_, Tryz.func44, by kernel_rfl, rfl⟩
theorem s_IsPermutation_c (sv : Value) (l : List Int) (w : World) (hr : Arr w sv (ints l)) :
    Pure Tryz.prog 44 #[sv] w (.bool (decide (permP l))) := by
  refine pure_enter (args := [_]) en_s_IsPermutation Tryz.func44 rfl Tryz.ntmps44 rfl ?_
  have hll := hr.len
  by_cases hs : okS l
  · by_cases hl : 1 ≤ (l.length : Int) ∧ (l.length : Int) ≤ 7
    · have e := perm_set hl hs
      obtain ⟨_, hy2, hy3⟩ := shl1 (n := (l.length : Int)) ⟨by omega, by omega⟩
      repeat' (first | apply pwp_seq | apply pwp_region | (apply px_run; (first | (apply opv_move; first | exact hid_int rfl | exact hid_bool rfl | rfl) | (apply opv_assign; first | exact hid_int rfl | exact hid_bool rfl) | (apply opv_eql <;> rfl) | (apply opv_pick_t <;> rfl) | (apply opv_sub_in; rfl; rfl; omega) | (apply opv_shl; rfl; rfl; omega) | (apply opv_len_ints el_int; rfl; (first | exact rd_old (by assumption))) | (apply opv_extract; rfl; rfl) | (apply opv_call; rfl; rfl; exact Cl.stable _ _ _; exact fun w hw => s_SetOf_c _ l _ (by first | exact hw.arr (by assumption))) | (apply opv_call; rfl; rfl; exact Cl.stable _ _ _; exact fun w hw => s_l1In_c _ _ _ _)); rfl; rfl) | apply px_nil | apply qseq_normal | apply pwp_ret | (apply px_guard_dec; rfl; rfl; rfl; all_goals (intro hc; try (first | contradiction))))
      all_goals (refine qbody_ret1 (v := .bool _) rfl rfl ⟨by simp [e], fun _ h => h.below⟩)
    · repeat' (first | apply pwp_seq | apply pwp_region | (apply px_run; (first | (apply opv_move; first | exact hid_int rfl | exact hid_bool rfl | rfl) | (apply opv_assign; first | exact hid_int rfl | exact hid_bool rfl) | (apply opv_pick_t <;> rfl) | (apply opv_pick_f <;> rfl) | (apply opv_len_ints el_int; rfl; (first | exact rd_old (by assumption))) | (apply opv_extract; rfl; rfl) | (apply opv_call; rfl; rfl; exact Cl.stable _ _ _; exact fun w hw => s_SetOf_c _ l _ (by first | exact hw.arr (by assumption))) | (apply opv_call; rfl; rfl; exact Cl.stable _ _ _; exact fun w hw => s_l1In_c _ _ _ _)); rfl; rfl) | apply px_nil | (apply px_skip; rfl; rfl) | apply qseq_normal | apply pwp_ret | (apply px_guard_dec; rfl; rfl; rfl; all_goals (intro hc; try (first | contradiction))))
      all_goals (refine qbody_ret1 (v := .bool _) rfl rfl ⟨ret_false rfl fun h => hl h.1, fun _ h => h.below⟩)
  · repeat' (first | apply pwp_seq | apply pwp_region | (apply px_run; (first | (apply opv_move; first | exact hid_int rfl | exact hid_bool rfl | rfl) | (apply opv_assign; first | exact hid_int rfl | exact hid_bool rfl) | (apply opv_pick_f <;> rfl) | (apply opv_extract; rfl; rfl) | (apply opv_call; rfl; rfl; exact Cl.stable _ _ _; exact fun w hw => s_SetOf_c _ l _ (by first | exact hw.arr (by assumption)))); rfl; rfl) | apply px_nil | (apply px_skip; rfl; rfl) | apply qseq_normal | apply pwp_ret | (apply px_guard_dec; rfl; rfl; rfl; all_goals (intro hc; try (first | contradiction))))
    all_goals (refine qbody_ret1 (v := .bool _) rfl rfl ⟨ret_false rfl fun h => hs (perm_okS h), fun _ h => h.below⟩)
end Go.Proofs.YtdenkbephkfifaaGreat
/- Graphs of threshold orders. -/
namespace Go.Proofs.YtdenkbephkfifaaGreat
open Go Go.RowKit Go.Pw
theorem en_i_GraphOfThreshold : Entry Tryz.prog 14 := ⟨_, Tryz.func14, by kernel_rfl, rfl⟩
set_option maxHeartbeats 2400000 in
theorem i_GraphOfThreshold_c (ov jv : Value) (o : List Int) (j : List Bool) (w : World) (ho' : Arr w ov (ints o)) (hj : Arr w jv (bools j)) :
    Gives Tryz.prog 14 #[ov, jv] w (fun v objs => ∃ sv', v = .tuple #[.agg #[.int .i64 (gtZ o j), sv'], .bool (decide (gtOk o j))] ∧ objs = [.row 3 sv' (ints (gtL o j))]) := by
  refine gives_enter (args := [_, _]) en_i_GraphOfThreshold Tryz.func14 rfl Tryz.ntmps14 rfl ?_
  have hlen := ho'.len
  have hlen2 := hj.lenb
  by_cases hok : gtOk o j
  case neg =>
    have f1 : gtZ o j = 0 := if_neg hok
    have f2 : gtL o j = [] := if_neg hok
    have f3 : decide (gtOk o j) = false := decide_eq_false hok
    by_cases hp : permP o
    · have hl : ¬ (j.length : Int) = o.length := fun e => hok ⟨hp, by omega⟩
      repeat' (first | apply pwp_seq | apply pwp_region | (apply px_run; (first | (apply opv_move; first | exact hid_bool rfl | rfl) | (apply opv_assign; first | exact hid_bool rfl) | (apply opv_neq <;> rfl) | (apply opv_pick_f <;> rfl) | (apply opv_not_dec <;> rfl) | (apply opv_len_ints el_int; rfl; (first | exact rd_old (by assumption))) | (apply opv_build0 bl_G) | (apply opv_len_bools el_bool; rfl; (first | exact rd_old (by assumption))) | (apply opv_call; rfl; rfl; exact Cl.stable _ _ _; exact fun w hw => i_IsPermutation_c _ o _ (by first | exact hw.arr (by assumption)))); rfl; rfl) | apply px_nil | apply qseq_normal | apply qseq_ret | apply pwp_ret | (apply px_guard_ndec; rfl; rfl; rfl; all_goals (intro hc; try (first | contradiction))) | (apply pwp_cond_ndec; rfl; all_goals (intro hc; try (first | contradiction))) | (apply px_alloc st_G; rfl; rfl; rfl; intro bk) | (apply px_store_str 0 st_G; rfl; rfl; rfl; rfl; rfl; (intro w hw; (first | refine all2 rfl ?_ ?_) <;> (first | rfl)); rfl))
      refine qbody_cell_tmp 0 rfl st_G rfl rfl rfl rfl ⟨_, ⟨_, by rw [f1, f3]; rfl, rfl⟩, fun w' h => ?_⟩
      rw [f2]
      exact (h.sub (List.nil_sublist _)).nilRow _
    · repeat' (first | apply pwp_seq | apply pwp_region | (apply px_run; (first | (apply opv_move; first | exact hid_bool rfl | rfl) | (apply opv_assign; first | exact hid_bool rfl) | (apply opv_pick_t <;> rfl) | (apply opv_not_dec <;> rfl) | (apply opv_build0 bl_G) | (apply opv_call; rfl; rfl; exact Cl.stable _ _ _; exact fun w hw => i_IsPermutation_c _ o _ (by first | exact hw.arr (by assumption)))); rfl; rfl) | apply px_nil | (apply px_skip; rfl; rfl) | apply qseq_normal | apply qseq_ret | apply pwp_ret | (apply pwp_cond_t; rfl) | (apply px_guard_ndec; rfl; rfl; rfl; all_goals (intro hc; try (first | contradiction))) | (apply px_alloc st_G; rfl; rfl; rfl; intro bk) | (apply px_store_str 0 st_G; rfl; rfl; rfl; rfl; rfl; (intro w hw; (first | refine all2 rfl ?_ ?_) <;> (first | rfl)); rfl))
      refine qbody_cell_tmp 0 rfl st_G rfl rfl rfl rfl ⟨_, ⟨_, by rw [f1, f3]; rfl, rfl⟩, fun w' h => ?_⟩
      rw [f2]
      exact (h.sub (List.nil_sublist _)).nilRow _
  obtain ⟨hp, hl⟩ := hok
  have l1 : 1 ≤ o.length := by have := hp.1; omega
  have l7 : o.length ≤ 7 := by have := hp.1; omega
  have f1 : gtZ o j = o.length := if_pos ⟨hp, hl⟩
  have f2 : gtL o j = gRows o.length (gtP o j o.length 0) := if_pos ⟨hp, hl⟩
  have f3 : decide (gtOk o j) = true := decide_eq_true ⟨hp, hl⟩
  have h0 : gRows o.length (gtP o j 0 0) = List.replicate o.length 0 := gRows_none fun i u _ _ => gtP_zero o j i u
  have hl' : (j.length : Int) = o.length := by omega
  repeat' (first | apply pwp_seq | apply pwp_region | (apply px_run; (first | (apply opv_move; first | exact hid_int rfl | exact hid_bool rfl | rfl) | (apply opv_assign; first | exact hid_bool rfl) | (apply opv_neq <;> rfl) | (apply opv_pick_f <;> rfl) | (apply opv_not_dec <;> rfl) | (apply opv_len_ints el_int; rfl; (first | exact rd_old (by assumption))) | (apply opv_build2 bl_G; rfl; rfl; (first | exact rd_row 0 rfl)) | (apply opv_len_bools el_bool; rfl; (first | exact rd_old (by assumption))) | (apply opv_call; rfl; rfl; exact Cl.stable _ _ _; exact fun w hw => i_IsPermutation_c _ o _ (by first | exact hw.arr (by assumption)))); rfl; rfl) | apply px_nil | apply qseq_normal | apply pwp_block | apply pwp_skip | (apply px_guard_ndec; rfl; rfl; rfl; all_goals (intro hc; try (first | contradiction))) | (apply pwp_cond_ndec; rfl; all_goals (intro hc; try (first | contradiction))) | (apply px_make ez_int; rfl; rfl; rfl; rfl; rfl; omega; (simp only [maxLen]; omega); intro sv) | (apply px_alloc st_G; rfl; rfl; rfl; intro bk) | (apply px_store_str 0 st_G; rfl; rfl; rfl; rfl; rfl; (intro w hw; (first | refine all2 rfl ?_ ?_) <;> (first | rfl | exact stor_row 1 hw rfl)); rfl))
  rename_i bk1 hcx
  rename Nat => bk0
  refine pwp_loop (τ := Nat) [(7,8), (10,10), (30,52)] (fun x => [(30, .int .i64 (x : Int))]) (fun x => Cl [] w [.blk bk0 [.int .i64 o.length, sv], .row 3 sv (ints (gRows o.length (gtP o j x 0))), .blk bk1 [.int .i64 0, .slice none 0 0]]) (fun x => x ≤ o.length) (fun x => o.length - x) 0
    ⟨rfl, trivial⟩ (Nat.zero_le _) (fun _ h => by rw [h0, show ints (List.replicate o.length 0) = List.replicate o.length (Value.int .i64 0) by simp [ints]]; exact h) (fun J1 i hi => ?_)
  by_cases hlt : i < o.length
  · have htl : (o.take i).length = i := by rw [List.length_take]; omega
    repeat' (first | apply pwp_seq | apply pwp_region | (apply px_run; (first | (apply opv_move; first | exact hid_int rfl | rfl) | (apply opv_assign; first | exact hid_int rfl) | (apply opv_lss <;> rfl) | (apply opv_load_ints sc_int; rfl; (first | exact rd_old (by assumption)); (first | omega)) | (apply opv_index_nat (vs := ints _) el_int; rfl; rfl; (first | exact rd_old (by assumption)); (first | (simp only [ints_length]; omega))) | (apply opv_len_ints el_int; rfl; (first | exact rd_take (rd_old (by assumption)) (by omega))) | (apply opv_take el_int; rfl; rfl; (first | exact rd_old (by assumption)); (first | (simp only [ints_length]; omega)))); rfl; rfl) | apply px_nil | apply qseq_normal | apply pwp_block | apply pwp_skip | (apply pwp_cond_dec; rfl; all_goals (intro hc; try (first | (exfalso; omega)))))
    refine pwp_loop (τ := Nat) [(10,10), (39,51)] (fun x => [(39, .int .i64 (x : Int))]) (fun x => Cl [] w [.blk bk0 [.int .i64 o.length, sv], .row 3 sv (ints (gRows o.length (gtP o j i x))), .blk bk1 [.int .i64 0, .slice none 0 0]]) (fun x => x ≤ i) (fun x => i - x) 0
      ⟨rfl, trivial⟩ (Nat.zero_le _) (fun _ h => h) (fun J2 k hk => ?_)
    by_cases hki : k < i
    · have hgt : (o.take i).getD k 0 = o.getD k 0 := by simp only [List.getD, List.getElem?_take]; rw [if_pos hki]
      obtain ⟨a1, a2, a3⟩ := plN_at hp hlt
      obtain ⟨b1, b2, b3⟩ := plN_at hp (show k < o.length by omega)
      have hne : (o.getD i 0).toNat ≠ (o.getD k 0).toNat := fun e => by have := hp.2.2 i hlt k hki; omega
      obtain ⟨n1, n2⟩ := gtP_new (j := j) hp hlt hki
      have hfl := flipL_pair (P := gtP o j i k) l7 (v := (o.getD i 0).toNat) (u := (o.getD k 0).toNat) (by omega) (by omega) hne n1 n2
      have hgl := gRows_length o.length (gtP o j i k)
      have flip : ∀ w', Own w' [.row 3 sv (ints (gRows o.length (gtP o j i k)))] → Turns Tryz.prog 38 #[.agg #[.int .i64 (o.length : Nat), sv], .int .i64 (o.getD i 0), .int .i64 ((o.take i).getD k 0)] w' [.row 3 sv (ints (gRows o.length (gtP o j i k)))]
          [.row 3 sv (ints (gRows o.length (pairAdd (gtP o j i k) (o.getD i 0).toNat (o.getD k 0).toNat)))] (.tuple #[]) := fun w' h => by
        have := i_flip_c (o.length : Nat) sv (gRows o.length (gtP o j i k)) (o.getD i 0).toNat (o.getD k 0).toNat w' h (by omega) (by omega)
        rw [hfl, show (((o.getD i 0).toNat : Nat) : Int) = o.getD i 0 by omega, show (((o.getD k 0).toNat : Nat) : Int) = o.getD k 0 by omega] at this
        rw [hgt]; exact this
      repeat' (first | apply pwp_seq | apply pwp_region | (apply px_run; (first | (apply opv_move; first | exact hid_int rfl | rfl) | (apply opv_assign; first | exact hid_int rfl) | (apply opv_lss <;> rfl) | (apply opv_add_in; rfl; rfl; omega) | (apply opv_load_ints sc_int; rfl; (first | exact rd_take (rd_old (by assumption)) (by omega)); (first | omega)) | (apply opv_index_nat (vs := ints _) el_int; rfl; rfl; (first | exact rd_take (rd_old (by assumption)) (by omega)); (first | (simp only [ints_length]; omega))) | (apply opv_load_str 0 st_G; rfl; rfl; rfl) | (apply opv_load_bools sc_bool; rfl; (first | exact rd_old (by assumption)); (first | omega)) | (apply opv_index_nat (vs := bools _) el_bool; rfl; rfl; (first | exact rd_old (by assumption)); (first | (simp only [bools_length]; omega)))); rfl; rfl) | apply px_nil | apply qseq_normal | apply pwp_block | apply qblock_normal | apply pwp_skip | (apply pwp_cond_dec; rfl; all_goals (intro hc; try (first | (exfalso; omega)))) | (apply pwp_cond; rfl; all_goals (intro hc; try (first | fail))) | (apply px_turns [1]; rfl; rfl; rfl; rfl; rfl; exact fun w ho => flip _ ho))
      · refine qround_normal ?_ ⟨k + 1, ⟨rfl, trivial⟩, by omega, by omega, fun w' h => ?_⟩
        · repeat (first | exact same_refl | refine same_upd rfl ?_ | refine same_junk rfl ?_)
        · rw [← gRows_congr (P := pairAdd (gtP o j i k) (o.getD i 0).toNat (o.getD k 0).toNat) (fun a b ha hb => gtP_yes hp hlt hki hc ha hb)]
          exact h.perm (.swap _ _ _)
      · refine qround_normal ?_ ⟨k + 1, ⟨rfl, trivial⟩, by omega, by omega, fun w' h => ?_⟩
        · repeat (first | exact same_refl | refine same_upd rfl ?_ | refine same_junk rfl ?_)
        · rw [← gRows_congr (P := gtP o j i k) (fun a b _ _ => gtP_no hki hc a b)]
          exact h
    · obtain rfl : k = i := by omega
      repeat' (first | apply pwp_seq | apply pwp_region | (apply px_run; (first | (apply opv_move; first | exact hid_int rfl) | (apply opv_lss <;> rfl) | (apply opv_add_in; rfl; rfl; omega)); rfl; rfl) | apply px_nil | apply qseq_normal | apply qseq_exit | apply qblock_normal | (apply qblock_exit_same; rfl) | apply pwp_exit | apply qround_exit | (apply pwp_cond_dec; rfl; all_goals (intro hc; try (first | (exfalso; omega)))))
      refine qround_normal ?_ ⟨k + 1, ⟨rfl, trivial⟩, by omega, by omega, fun w' h => ?_⟩
      · repeat (first | exact same_refl | refine same_upd rfl ?_ | refine same_junk rfl ?_)
      · rw [← gRows_congr (P := gtP o j k k) (fun a b _ _ => gtP_next o j k a b)]
        exact h
  · obtain rfl : i = o.length := by omega
    repeat' (first | apply pwp_seq | apply pwp_region | (apply px_run; (first | (apply opv_assign; first | exact hid_bool rfl) | (apply opv_lss <;> rfl) | (apply opv_load_str 0 st_G; rfl; rfl; rfl)); rfl; rfl) | apply px_nil | apply qseq_normal | apply qseq_exit | (apply qblock_exit_same; rfl) | apply pwp_exit | apply pwp_ret | apply qround_exit | (apply pwp_cond_dec; rfl; all_goals (intro hc; try (first | (exfalso; omega)))) | (apply px_store_str 2 st_G; rfl; rfl; rfl; rfl; rfl; (intro w hw; (first | refine all2 rfl ?_ ?_) <;> (first | rfl | exact stor_row 1 hw rfl)); rfl))
    refine qbody_cell_tmp 2 rfl st_G rfl rfl rfl rfl ⟨_, ⟨sv, by rw [f1, f3]; rfl, rfl⟩, fun w' h => ?_⟩
    rw [f2]
    exact Cl.sub (by assumption) (by repeat (first | exact List.Sublist.slnil | exact List.Sublist.refl _ | apply List.Sublist.cons_cons | exact List.sublist_append_left _ _ | exact List.sublist_append_right _ _ | apply List.Sublist.cons))
theorem en_s_GraphOfThreshold : Entry Tryz.prog 18 := ⟨_, Tryz.func18, by kernel_rfl, rfl⟩
set_option maxHeartbeats 2400000 in
theorem s_GraphOfThreshold_c (ov jv : Value) (o : List Int) (j : List Bool) (w : World) (ho' : Arr w ov (ints o)) (hj : Arr w jv (bools j)) :
    Gives Tryz.prog 18 #[ov, jv] w (fun v objs => ∃ sv', v = .tuple #[.agg #[.int .i64 (gtZ o j), sv'], .bool (decide (gtOk o j))] ∧ objs = [.row 3 sv' (ints (gtL o j))]) := by
  refine gives_enter (args := [_, _]) en_s_GraphOfThreshold Tryz.func18 rfl Tryz.ntmps18 rfl ?_
  have hlen := ho'.len
  have hlen2 := hj.lenb
  by_cases hok : gtOk o j
  case neg =>
    have f1 : gtZ o j = 0 := if_neg hok
    have f2 : gtL o j = [] := if_neg hok
    have f3 : decide (gtOk o j) = false := decide_eq_false hok
    by_cases hp : permP o
    · have hl : ¬ (j.length : Int) = o.length := fun e => hok ⟨hp, by omega⟩
      repeat' (first | apply pwp_seq | apply pwp_region | (apply px_run; (first | (apply opv_move; first | exact hid_bool rfl | rfl) | (apply opv_assign; first | exact hid_bool rfl) | (apply opv_neq <;> rfl) | (apply opv_pick_f <;> rfl) | (apply opv_not_dec <;> rfl) | (apply opv_len_ints el_int; rfl; (first | exact rd_old (by assumption))) | (apply opv_build0 bl_G) | (apply opv_len_bools el_bool; rfl; (first | exact rd_old (by assumption))) | (apply opv_call; rfl; rfl; exact Cl.stable _ _ _; exact fun w hw => s_IsPermutation_c _ o _ (by first | exact hw.arr (by assumption)))); rfl; rfl) | apply px_nil | apply qseq_normal | apply qseq_ret | apply pwp_ret | (apply px_guard_ndec; rfl; rfl; rfl; all_goals (intro hc; try (first | contradiction))) | (apply pwp_cond_ndec; rfl; all_goals (intro hc; try (first | contradiction))) | (apply px_alloc st_G; rfl; rfl; rfl; intro bk) | (apply px_store_str 0 st_G; rfl; rfl; rfl; rfl; rfl; (intro w hw; (first | refine all2 rfl ?_ ?_) <;> (first | rfl)); rfl))
      refine qbody_cell_tmp 0 rfl st_G rfl rfl rfl rfl ⟨_, ⟨_, by rw [f1, f3]; rfl, rfl⟩, fun w' h => ?_⟩
      rw [f2]
      exact (h.sub (List.nil_sublist _)).nilRow _
    · repeat' (first | apply pwp_seq | apply pwp_region | (apply px_run; (first | (apply opv_move; first | exact hid_bool rfl | rfl) | (apply opv_assign; first | exact hid_bool rfl) | (apply opv_pick_t <;> rfl) | (apply opv_not_dec <;> rfl) | (apply opv_build0 bl_G) | (apply opv_call; rfl; rfl; exact Cl.stable _ _ _; exact fun w hw => s_IsPermutation_c _ o _ (by first | exact hw.arr (by assumption)))); rfl; rfl) | apply px_nil | (apply px_skip; rfl; rfl) | apply qseq_normal | apply qseq_ret | apply pwp_ret | (apply pwp_cond_t; rfl) | (apply px_guard_ndec; rfl; rfl; rfl; all_goals (intro hc; try (first | contradiction))) | (apply px_alloc st_G; rfl; rfl; rfl; intro bk) | (apply px_store_str 0 st_G; rfl; rfl; rfl; rfl; rfl; (intro w hw; (first | refine all2 rfl ?_ ?_) <;> (first | rfl)); rfl))
      refine qbody_cell_tmp 0 rfl st_G rfl rfl rfl rfl ⟨_, ⟨_, by rw [f1, f3]; rfl, rfl⟩, fun w' h => ?_⟩
      rw [f2]
      exact (h.sub (List.nil_sublist _)).nilRow _
  obtain ⟨hp, hl⟩ := hok
  have l1 : 1 ≤ o.length := by have := hp.1; omega
  have l7 : o.length ≤ 7 := by have := hp.1; omega
  have f1 : gtZ o j = o.length := if_pos ⟨hp, hl⟩
  have f2 : gtL o j = gRows o.length (gtP o j o.length 0) := if_pos ⟨hp, hl⟩
  have f3 : decide (gtOk o j) = true := decide_eq_true ⟨hp, hl⟩
  have h0 : gRows o.length (gtP o j 0 0) = List.replicate o.length 0 := gRows_none fun i u _ _ => gtP_zero o j i u
  have hl' : (j.length : Int) = o.length := by omega
  repeat' (first | apply pwp_seq | apply pwp_region | (apply px_run; (first | (apply opv_move; first | exact hid_bool rfl | rfl) | (apply opv_assign; first | exact hid_int rfl | exact hid_bool rfl) | (apply opv_neq <;> rfl) | (apply opv_pick_f <;> rfl) | (apply opv_not_dec <;> rfl) | (apply opv_len_ints el_int; rfl; (first | exact rd_old (by assumption))) | (apply opv_build2 bl_G; rfl; rfl; (first | exact rd_row 0 rfl)) | (apply opv_len_bools el_bool; rfl; (first | exact rd_old (by assumption))) | (apply opv_call; rfl; rfl; exact Cl.stable _ _ _; exact fun w hw => s_IsPermutation_c _ o _ (by first | exact hw.arr (by assumption)))); rfl; rfl) | apply px_nil | apply qseq_normal | apply pwp_block | apply pwp_skip | (apply px_guard_ndec; rfl; rfl; rfl; all_goals (intro hc; try (first | contradiction))) | (apply pwp_cond_ndec; rfl; all_goals (intro hc; try (first | contradiction))) | (apply px_make ez_int; rfl; rfl; rfl; rfl; rfl; omega; (simp only [maxLen]; omega); intro sv) | (apply px_alloc st_G; rfl; rfl; rfl; intro bk) | (apply px_store_str 0 st_G; rfl; rfl; rfl; rfl; rfl; (intro w hw; (first | refine all2 rfl ?_ ?_) <;> (first | rfl | exact stor_row 1 hw rfl)); rfl))
  rename_i bk1 hcx
  rename Nat => bk0
  refine pwp_loop (τ := Nat × Value) [(7,8), (26,55)] (fun x => [(7, .int .i64 (x.1 : Int))]) (fun x => Cl [] w [.row 3 x.2 (ints (gRows o.length (gtP o j x.1 0))), .blk bk0 [.int .i64 o.length, x.2], .blk bk1 [.int .i64 0, .slice none 0 0]]) (fun x => x.1 ≤ o.length) (fun x => o.length - x.1) (0, sv)
    ⟨rfl, trivial⟩ (Nat.zero_le _) (fun _ h => by dsimp only; rw [h0, show ints (List.replicate o.length 0) = List.replicate o.length (Value.int .i64 0) by simp [ints]]; exact h.perm (.swap _ _ _)) (fun J1 x hi => ?_)
  obtain ⟨i, si⟩ := x
  dsimp only at hi ⊢
  by_cases hlt : i < o.length
  · repeat' (first | apply pwp_seq | apply pwp_region | (apply px_run; (first | (apply opv_move; first | exact hid_int rfl | rfl) | (apply opv_assign; first | exact hid_int rfl) | (apply opv_lss <;> rfl) | (apply opv_len_ints el_int; rfl; (first | exact rd_old (by assumption)))); rfl; rfl) | apply px_nil | apply qseq_normal | apply pwp_block | apply pwp_skip | (apply pwp_cond_dec; rfl; all_goals (intro hc; try (first | (exfalso; omega)))))
    refine pwp_loop (τ := Nat × Value) [(8,8), (32,55)] (fun x => [(8, .int .i64 (x.1 : Int))]) (fun x => Cl [] w [.row 3 x.2 (ints (gRows o.length (gtP o j i x.1))), .blk bk0 [.int .i64 o.length, x.2], .blk bk1 [.int .i64 0, .slice none 0 0]]) (fun x => x.1 ≤ i) (fun x => i - x.1) (0, si)
      ⟨rfl, trivial⟩ (Nat.zero_le _) (fun _ h => h) (fun J2 x hj => ?_)
    obtain ⟨k, sj⟩ := x
    dsimp only at hj ⊢
    by_cases hji : j.getD i false = true
    · by_cases hki : k < i
      · obtain ⟨a1, a2, a3⟩ := plN_at hp hlt
        obtain ⟨b1, b2, b3⟩ := plN_at hp (show k < o.length by omega)
        have hne : (o.getD i 0).toNat ≠ (o.getD k 0).toNat := fun e => by have := hp.2.2 i hlt k hki; omega
        obtain ⟨n1, n2⟩ := gtP_new (j := j) hp hlt hki
        have add : ∀ w', Arr w' sj (ints (gRows o.length (gtP o j i k))) → Gives Tryz.prog 45 #[.agg #[.int .i64 (o.length : Nat), sj], .int .i64 (o.getD i 0), .int .i64 (o.getD k 0)] w'
            (fun x objs => ∃ sv', x = .tuple #[.agg #[.int .i64 (o.length : Nat), sv'], .bool true] ∧ objs = [.row 3 sv' (ints (gRows o.length (pairAdd (gtP o j i k) (o.getD i 0).toNat (o.getD k 0).toNat)))]) := fun w' h => by
          have := s_AddEdge_c o.length sj (gtP o j i k) (o.getD i 0).toNat (o.getD k 0).toNat w' h l1 l7 (gtP_sym o j i k) (gtP_irr o j i k) (by omega) (by omega) hne n1
          rw [show (((o.getD i 0).toNat : Nat) : Int) = o.getD i 0 by omega, show (((o.getD k 0).toNat : Nat) : Int) = o.getD k 0 by omega] at this
          exact this
        repeat' (first | apply pwp_seq | apply pwp_region | (apply px_run; (first | (apply opv_move; first | exact hid_int rfl | exact hid_bool rfl | rfl) | (apply opv_assign; first | exact hid_int rfl) | (apply opv_lss <;> rfl) | (apply opv_pick_t <;> rfl) | (apply opv_add_in; rfl; rfl; omega) | (apply opv_load_ints sc_int; rfl; (first | exact rd_old (by assumption)); (first | omega)) | (apply opv_index_nat (vs := ints _) el_int; rfl; rfl; (first | exact rd_old (by assumption)); (first | (simp only [ints_length]; omega))) | (apply opv_load_str 1 st_G; rfl; rfl; rfl) | (apply opv_load_bools sc_bool; rfl; (first | exact rd_old (by assumption)); (first | omega)) | (apply opv_index_nat (vs := bools _) el_bool; rfl; rfl; (first | exact rd_old (by assumption)); (first | (simp only [bools_length]; omega))) | (apply opv_extract; rfl; rfl)); rfl; rfl) | apply px_nil | apply qseq_normal | apply qseq_exit | apply pwp_block | apply qblock_normal | (apply qblock_exit_same; rfl) | apply pwp_skip | apply pwp_exit | apply qround_exit | (apply pwp_region_any [0, 1, 2, 3, 4, 5, 6, 7, 8] [13] 5 (Cl [] w [.row 3 sj _, .blk _ _, .blk _ _]); kernel_rfl; decide +kernel; exact Cl.stable _ _ _; exact fun w h => h.sub (by repeat (first | exact List.Sublist.refl _))) | apply qlooks_normal | (apply qstep_out; decide +kernel) | (apply qstep_in; exact fun w h => h.sub (by repeat (first | exact List.sublist_append_right _ _))) | (apply pxa_nil; decide +kernel) | (apply pxa_one 9; decide +kernel; rfl) | (apply pxa_one 10; decide +kernel; rfl) | (apply pxa_one 11; decide +kernel; rfl) | (apply pxa_one 12; decide +kernel; rfl) | (apply pxa_one 13; decide +kernel; rfl) | (apply pxa_two 11 12; decide +kernel; rfl; rfl) | (apply pxa_two 12 13; decide +kernel; rfl; rfl) | (apply px_guard_dec; rfl; rfl; rfl; all_goals (intro hc; try (first | (exfalso; omega)))) | (apply pwp_cond; rfl; all_goals (intro hc; try (first | fail))) | (apply px_store_str 2 st_G; rfl; rfl; rfl; rfl; rfl; (intro w hw; (first | refine all2 rfl ?_ ?_) <;> (first | rfl | exact stor_row 0 hw rfl)); rfl) | (apply px_gives; rfl; rfl; rfl; rfl; rfl; exact fun w hw => add _ (by first | exact hw.rowArr (k := 0) rfl); rintro _ _ ⟨sc, rfl, rfl⟩))
        all_goals first
          | (exfalso; simp_all; done)
          | (refine qround_normal ?_ ⟨(k + 1, sc), ⟨rfl, trivial⟩, by dsimp only; omega, by dsimp only; omega, fun w' h => ?_⟩
             · repeat (first | exact same_refl | refine same_upd rfl ?_ | refine same_junk rfl ?_)
             · dsimp only
               rw [← gRows_congr (P := pairAdd (gtP o j i k) (o.getD i 0).toNat (o.getD k 0).toNat) (fun a b ha hb => gtP_yes hp hlt hki hji ha hb)]
               exact Cl.sub (by assumption) (by repeat (first | exact List.Sublist.slnil | exact List.Sublist.refl _ | apply List.Sublist.cons_cons | exact List.sublist_append_left _ _ | exact List.sublist_append_right _ _ | apply List.Sublist.cons)))
      · obtain rfl : k = i := by omega
        repeat' (first | apply pwp_seq | apply pwp_region | (apply px_run; (first | (apply opv_move; first | exact hid_int rfl | exact hid_bool rfl | rfl) | (apply opv_assign; first | exact hid_int rfl) | (apply opv_lss <;> rfl) | (apply opv_pick_f <;> rfl) | (apply opv_add_in; rfl; rfl; omega)); rfl; rfl) | apply px_nil | (apply px_skip; rfl; rfl) | apply qseq_normal | apply qseq_exit | apply qblock_normal | (apply qblock_exit_same; rfl) | apply pwp_exit | apply qround_exit | (apply pwp_cond_f; rfl) | (apply px_guard_dec; rfl; rfl; rfl; all_goals (intro hc; try (first | (exfalso; omega)))))
        refine qround_normal ?_ ⟨(k + 1, sj), ⟨rfl, trivial⟩, by dsimp only; omega, by dsimp only; omega, fun w' h => ?_⟩
        · repeat (first | exact same_refl | refine same_upd rfl ?_ | refine same_junk rfl ?_)
        · dsimp only
          rw [← gRows_congr (P := gtP o j k k) (fun a b _ _ => gtP_next o j k a b)]
          exact h
    · have hjf : j.getD i false = false := by simpa using hji
      repeat' (first | apply pwp_seq | apply pwp_region | (apply px_run; (first | (apply opv_move; first | exact hid_int rfl | exact hid_bool rfl | rfl) | (apply opv_assign; first | exact hid_int rfl) | (apply opv_lss <;> rfl) | (apply opv_pick_t <;> rfl) | (apply opv_pick_f <;> rfl) | (apply opv_add_in; rfl; rfl; omega) | (apply opv_load_bools sc_bool; rfl; (first | exact rd_old (by assumption)); (first | omega)) | (apply opv_index_nat (vs := bools _) el_bool; rfl; rfl; (first | exact rd_old (by assumption)); (first | (simp only [bools_length]; omega)))); rfl; rfl) | apply px_nil | (apply px_skip; rfl; rfl) | apply qseq_normal | apply qseq_exit | apply qblock_normal | (apply qblock_exit_same; rfl) | apply pwp_exit | apply qround_exit | (apply pwp_cond_f; rfl) | (apply px_guard_dec; rfl; rfl; rfl; all_goals (intro hc; try (first | fail))) | (apply pwp_cond; rfl; all_goals (intro hc; try (first | contradiction))))
      all_goals first
        | exact absurd (by assumption) hji
        | (refine qround_normal ?_ ⟨(i + 1, sj), ⟨rfl, trivial⟩, by dsimp only; omega, by dsimp only; omega, fun w' h => ?_⟩
           · repeat (first | exact same_refl | refine same_upd rfl ?_ | refine same_junk rfl ?_)
           · dsimp only
             rw [← gRows_congr (P := gtP o j i k) (fun a b _ _ => by rw [← gtP_skip hjf a b k (by omega), gtP_skip hjf a b i (Nat.le_refl _)]; exact gtP_next o j i a b)]
             exact h)
  · obtain rfl : i = o.length := by omega
    repeat' (first | apply pwp_seq | apply pwp_region | (apply px_run; (first | (apply opv_move; first | exact hid_int rfl | rfl) | (apply opv_assign; first | exact hid_bool rfl) | (apply opv_lss <;> rfl) | (apply opv_len_ints el_int; rfl; (first | exact rd_old (by assumption))) | (apply opv_load_str 1 st_G; rfl; rfl; rfl)); rfl; rfl) | apply px_nil | apply qseq_normal | apply qseq_exit | (apply qblock_exit_same; rfl) | apply pwp_exit | apply pwp_ret | apply qround_exit | (apply pwp_cond_dec; rfl; all_goals (intro hc; try (first | (exfalso; omega)))) | (apply px_store_str 2 st_G; rfl; rfl; rfl; rfl; rfl; (intro w hw; (first | refine all2 rfl ?_ ?_) <;> (first | rfl | exact stor_row 0 hw rfl)); rfl))
    refine qbody_cell_tmp 2 rfl st_G rfl rfl rfl rfl ⟨_, ⟨si, by rw [f1, f3]; rfl, rfl⟩, fun w' h => ?_⟩
    rw [f2]
    exact Cl.sub (by assumption) (by repeat (first | exact List.Sublist.slnil | exact List.Sublist.refl _ | apply List.Sublist.cons_cons | exact List.sublist_append_left _ _ | exact List.sublist_append_right _ _ | apply List.Sublist.cons))
end Go.Proofs.YtdenkbephkfifaaGreat
/- The plain mathematics of searches through all lists of four. -/
namespace Go.Pw
open Go
theorem firstG_pre {N : Nat} {ok : List Int → Int → Bool} {fin : List Int → Bool} : ∀ (d : Nat) (l L : List Int), firstG N ok fin d l = some L → (∃ m, L = l ++ m) ∧ fin L = true
  | 0, l, L, h => by
    unfold firstG at h
    split at h
    · obtain rfl := Option.some.inj h; exact ⟨⟨[], by simp⟩, by assumption⟩
    · cases h
  | d + 1, l, L, h => by
    unfold firstG at h
    obtain ⟨v, _, hv⟩ := List.exists_of_findSome?_eq_some h
    split at hv
    · obtain ⟨⟨m, hm⟩, hf⟩ := firstG_pre d _ L hv
      exact ⟨⟨(v : Int) :: m, by rw [hm]; simp⟩, hf⟩
    · cases hv
theorem apart_pre {l m : List Int} {v : Int} (h : apartL (l ++ [v] ++ m)) : v ∉ l := fun hv => by
  obtain ⟨i, hi, rfl⟩ := mem_getD hv
  refine h l.length (by simp) i hi ?_
  simp [List.getD, hi, List.getElem?_append_left, List.getElem?_append]
/-- Where the end asks for different members, the search need not. -/
theorem firstG_all4 {N : Nat} {fin : List Int → Bool} (hf : ∀ L, fin L = true → apartL L) : ∀ (d : Nat) (l : List Int), firstG N (okI fun _ => true) fin d l = firstG N (fun _ _ => true) fin d l
  | 0, _ => rfl
  | d + 1, l => by
    unfold firstG
    refine findSome_congr fun v _ => ?_
    by_cases h : (v : Int) ∈ l
    · have h1 : okI (fun _ => true) l (v : Int) = false := by simp [okI, h]
      rw [if_neg (by rw [h1]; exact Bool.false_ne_true), if_pos rfl]
      cases hg : firstG N (fun _ _ => true) fin d (l ++ [(v : Int)]) with
      | none => rfl
      | some L =>
        obtain ⟨⟨m, hm⟩, hL⟩ := firstG_pre d _ L hg
        exact (apart_pre (m := m) (by rw [← hm]; exact hf L hL) h).elim
    · have h1 : okI (fun _ => true) l (v : Int) = true := by simp [okI, h]
      rw [if_pos h1, if_pos rfl, firstG_all4 hf d]
/-- The four members that a number codes. -/
def digs (N c : Nat) : List Int := [((c / (N * N * N) : Nat) : Int), ((c / (N * N) % N : Nat) : Int), ((c / N % N : Nat) : Int), ((c % N : Nat) : Int)]
def fourK (N : Nat) (fin : List Int → Bool) (k : Nat) : Option (List Int) := (List.range k).findSome? fun c => if fin (digs N c) = true then some (digs N c) else none
theorem digs_of {N a b c d : Nat} (hb : b < N) (hc : c < N) (hd : d < N) : digs N (((a * N + b) * N + c) * N + d) = [(a : Int), (b : Int), (c : Int), (d : Int)] := by
  have hN : 0 < N := by omega
  have q : ∀ x y, y < N → (x * N + y) / N = x := fun x y hy => by
    rw [Nat.add_comm, Nat.add_mul_div_right _ _ hN, Nat.div_eq_of_lt hy, Nat.zero_add]
  have m : ∀ x y, y < N → (x * N + y) % N = y := fun x y hy => by
    rw [Nat.add_comm, Nat.add_mul_mod_self_right, Nat.mod_eq_of_lt hy]
  have e1 : (((a * N + b) * N + c) * N + d) / (N * N * N) = a := by rw [← Nat.div_div_eq_div_mul, ← Nat.div_div_eq_div_mul, q _ _ hd, q _ _ hc, q _ _ hb]
  have e2 : (((a * N + b) * N + c) * N + d) / (N * N) % N = b := by rw [← Nat.div_div_eq_div_mul, q _ _ hd, q _ _ hc, m _ _ hb]
  have e3 : (((a * N + b) * N + c) * N + d) / N % N = c := by rw [q _ _ hd, m _ _ hc]
  unfold digs
  rw [e1, e2, e3, m _ _ hd]
theorem four_first (N : Nat) (fin : List Int → Bool) : firstG N (fun _ _ => true) fin 4 [] = fourK N fin (N * N * N * N) := by
  unfold fourK
  rw [← range_nest N _ (N * N * N), ← range_nest N _ (N * N), ← range_nest N _ N]
  show (List.range N).findSome? _ = _
  refine findSome_congr fun a _ => ?_
  rw [if_pos rfl]
  show (List.range N).findSome? _ = _
  refine findSome_congr fun b hb => ?_
  rw [if_pos rfl]
  show (List.range N).findSome? _ = _
  refine findSome_congr fun c hc => ?_
  rw [if_pos rfl]
  show (List.range N).findSome? _ = _
  refine findSome_congr fun d hd => ?_
  rw [if_pos rfl, digs_of (List.mem_range.1 hb) (List.mem_range.1 hc) (List.mem_range.1 hd)]
  rfl
def fourX (size : Int) (rows : List Int) (fin : List Int → Bool) : Option (List Int) := if IsG size rows then fourK size.toNat fin (size.toNat * size.toNat * size.toNat * size.toNat) else none
theorem four_firstX {size : Int} {rows : List Int} {fin : List Int → Bool} (hf : ∀ L, fin L = true → apartL L) : firstX size rows (fun _ => true) fin 4 = fourX size rows fin := by
  unfold firstX fourX
  rw [firstG_all4 hf, four_first]
theorem fourK_succ (N : Nat) (fin : List Int → Bool) (k : Nat) (h : fourK N fin k = none) : fourK N fin (k + 1) = if fin (digs N k) = true then some (digs N k) else none := by
  unfold fourK at h ⊢
  rw [List.range_succ, List.findSome?_append, h]; simp
theorem fourK_hit {N k M : Nat} {fin : List Int → Bool} (h : fourK N fin k = none) (hk : k < M) (hf : fin (digs N k) = true) : fourK N fin M = some (digs N k) := by
  have h1 := fourK_succ N fin k h
  rw [if_pos hf] at h1
  unfold fourK at h1 ⊢
  have hm : List.range M = List.range (k + 1) ++ (List.range (M - (k + 1))).map (fun x => k + 1 + x) := by rw [← List.range_add]; congr 1; omega
  rw [hm]
  exact findSome_prefix _ _ _ _ h1
theorem fourX_len (size : Int) (rows : List Int) (fin : List Int → Bool) : ((fourX size rows fin).getD []).length ≤ 4 := by
  cases h : fourX size rows fin with
  | none => simp
  | some L =>
    unfold fourX at h
    split at h
    · obtain ⟨c, _, hc⟩ := List.exists_of_findSome?_eq_some h
      split at hc
      · obtain rfl := Option.some.inj hc; simp [digs]
      · cases hc
    · cases h
theorem pow_bounds {N : Nat} (h1 : 1 ≤ N) (h7 : N ≤ 7) : (1 ≤ (N : Int) * N ∧ (N : Int) * N ≤ 49) ∧ (1 ≤ (N : Int) * N * N ∧ (N : Int) * N * N ≤ 343) ∧ (1 ≤ (N : Int) * N * N * N ∧ (N : Int) * N * N * N ≤ 2401) := by
  have : N = 1 ∨ N = 2 ∨ N = 3 ∨ N = 4 ∨ N = 5 ∨ N = 6 ∨ N = 7 := by omega
  rcases this with rfl | rfl | rfl | rfl | rfl | rfl | rfl <;> decide
theorem digs_int {N c : Nat} (hc : c ≤ 2401) :
    w64 ((c : Int).tdiv ((N : Int) * N * N)) = ((c / (N * N * N) : Nat) : Int) ∧ (w64 ((c : Int).tdiv ((N : Int) * N))).tmod N = ((c / (N * N) % N : Nat) : Int) ∧ (w64 ((c : Int).tdiv N)).tmod N = ((c / N % N : Nat) : Int) ∧ (c : Int).tmod N = ((c % N : Nat) : Int) := by
  have q : ∀ m : Nat, w64 ((c : Int).tdiv (m : Int)) = ((c / m : Nat) : Int) := fun m => by
    rw [← Int.ofNat_tdiv]
    have := Nat.div_le_self c m
    generalize c / m = k at this
    exact w64_in ⟨by omega, by omega⟩
  have e3 : (N : Int) * N * N = ((N * N * N : Nat) : Int) := by simp
  have e2 : (N : Int) * N = ((N * N : Nat) : Int) := by simp
  rw [e3, e2, q, q, q]
  refine ⟨rfl, ?_, ?_, ?_⟩ <;> rw [← Int.ofNat_tmod]
/-- Holes of at least m vertices, the shortest first. -/
def holeT (size : Int) (rows : List Int) (n : Nat) : Option (List Int) := firstX size rows (fun l => decide (l.length = n) || decide (pathP size rows l)) (fun l => decide (holeP size rows l)) n
def holeK (size : Int) (rows : List Int) (k : Nat) : Option (List Int) := (List.range k).findSome? fun i => holeT size rows (4 + i)
def holeX (size : Int) (rows : List Int) : Option (List Int) := holeK size rows (size.toNat - 3)
theorem holeK_succ (size : Int) (rows : List Int) (k : Nat) (h : holeK size rows k = none) : holeK size rows (k + 1) = holeT size rows (4 + k) := by
  unfold holeK at h ⊢
  rw [List.range_succ, List.findSome?_append, h]; simp
theorem holeK_hit {size : Int} {rows : List Int} {k M : Nat} {L : List Int} (h : holeK size rows k = none) (hk : k < M) (hf : holeT size rows (4 + k) = some L) : holeK size rows M = some L := by
  have h1 := holeK_succ size rows k h
  rw [hf] at h1
  unfold holeK at h1 ⊢
  have hm : List.range M = List.range (k + 1) ++ (List.range (M - (k + 1))).map (fun x => k + 1 + x) := by rw [← List.range_add]; congr 1; omega
  rw [hm]
  exact findSome_prefix _ _ _ _ h1
theorem holeX_none {size : Int} {rows : List Int} (h : ¬ IsG size rows) : holeX size rows = none := by
  unfold holeX holeK
  rw [List.findSome?_eq_none_iff]
  intro i _
  unfold holeT firstX
  rw [if_neg h]
theorem holeX_len {size : Int} {rows : List Int} : ((holeX size rows).getD []).length ≤ 7 := by
  by_cases hg : IsG size rows
  · cases h : holeX size rows with
    | none => simp
    | some L =>
      obtain ⟨i, hi, hL⟩ := List.exists_of_findSome?_eq_some h
      have h2 := firstX_len (size := size) (rows := rows) (may := fun l => decide (l.length = 4 + i) || decide (pathP size rows l)) (fin := fun l => decide (holeP size rows l)) (n := 4 + i)
      have h3 := hg.1.2
      have h4 := List.mem_range.1 hi
      unfold holeT at hL
      rw [hL] at h2
      simp only [Option.getD_some] at h2 ⊢
      omega
  · rw [holeX_none hg]; simp
/-- The reference's search for a hole of m + 1 vertices. -/
theorem hole_firstR {size : Int} {rows : List Int} {m : Nat} (hg : IsG size rows) :
    firstG size.toNat (okR (fun x => decide (pathP size rows x)) (fun x => decide (holeP size rows x)) (m + 1) true) (finS (fun x => decide (holeP size rows x)) true) (m + 1) [] = holeT size rows (m + 1) := by
  unfold holeT firstX
  rw [if_pos hg]
  refine firstG_congr (n := m + 1) (fun l v _ h => ?_) (fun l v _ h => ?_) m [] (by simp)
  · have h1 : ¬ l.length + 1 = m + 1 := by omega
    have := path_okI (size := size) (rows := rows) l (v : Int)
    unfold okI at this ⊢
    unfold okR
    dsimp only at this ⊢
    rw [← this]
    simp [h1, show ¬ l.length = m by omega]
  · have h1 : (l ++ [(v : Int)]).length = m + 1 := by simp; omega
    unfold okR okI finS
    simp only [h1, h, decide_true, Bool.true_and, Bool.true_or, if_true, Bool.and_true]
    by_cases hh : holeP size rows (l ++ [(v : Int)])
    · have := apart_last hh.2.1.2.2
      simp [hh, this]
    · simp [hh]
def splitObsX (size : Int) (rows : List Int) : Option (List Int) := (fourX size rows fun l => decide (twoP size rows l)).or (holeX size rows)
theorem splitObs_len {size : Int} {rows : List Int} : ((splitObsX size rows).getD []).length ≤ 7 := by
  unfold splitObsX
  have h1 := fourX_len size rows fun l => decide (twoP size rows l)
  have h2 := holeX_len (size := size) (rows := rows)
  cases h : fourX size rows fun l => decide (twoP size rows l) with
  | none => simpa using h2
  | some L => rw [h] at h1; simp at h1 ⊢; omega
theorem two_apart {size : Int} {rows : List Int} (L : List Int) (h : decide (twoP size rows L) = true) : apartL L := (of_decide_eq_true h).2.1.2.2
theorem thrObs_apart {size : Int} {rows : List Int} (L : List Int) (h : decide (thrObsP size rows L) = true) : apartL L := by
  rcases (of_decide_eq_true h).2 with h | h | h
  · exact h.2.1.2.2
  · exact h.2.1.2.2
  · exact h.2.1.2.2
end Go.Pw
/- Searches through lists of four, and for holes. -/
namespace Go.Proofs.YtdenkbephkfifaaGreat
open Go Go.RowKit Go.Pw
theorem cast_arr {w : World} {sv : Value} {l m : List Int} (h : l = m) (ha : Arr w sv (ints l)) : Arr w sv (ints m) := h ▸ ha
theorem en_i_ThresholdObstacle_1 : Entry Tryz.prog 48 := ⟨_, Tryz.func48, by kernel_rfl, rfl⟩
theorem i_ThresholdObstacle_1_c (size : Int) (gv lv : Value) (rows l : List Int) (bg : Nat) (w : World) (hr : Arr w gv (ints rows)) (hv : Arr w lv (ints l)) (hb : Bk w bg [.int .i64 size, gv]) :
    Pure Tryz.prog 48 #[lv, .pointer (some ⟨bg, 0, none⟩)] w (.bool (decide (thrObsP size rows l))) := by
  refine pure_enter (args := [_, _]) en_i_ThresholdObstacle_1 Tryz.func48 rfl Tryz.ntmps48 rfl ?_
  repeat' (first | apply pwp_seq | apply pwp_region | (apply px_run; (first | (apply opv_move; first | rfl) | (apply opv_assign; first | exact hid_bool rfl) | (apply opv_load_old_str st_G; rfl; assumption; rfl) | (apply opv_call; rfl; rfl; exact Cl.stable _ _ _; exact fun w hw => i_IsThresholdObstacle_c _ _ _ rows l _ (by first | exact hw.arr (by assumption)) (by first | exact hw.arr (by assumption)))); rfl; rfl) | apply px_nil | apply qseq_normal | apply pwp_ret)
  refine qbody_ret1 (v := .bool _) rfl rfl ⟨rfl, fun _ h => h.below⟩
theorem en_i_ThresholdObstacle : Entry Tryz.prog 20 := ⟨_, Tryz.func20, by kernel_rfl, rfl⟩
set_option maxHeartbeats 1000000 in
theorem i_ThresholdObstacle_c (size : Int) (gv : Value) (rows : List Int) (w : World) (hr : Arr w gv (ints rows)) :
    Gives Tryz.prog 20 #[.agg #[.int .i64 size, gv]] w (fun v objs => ∃ sv, v = .tuple #[sv, .bool (fourX size rows fun l => decide (thrObsP size rows l)).isSome] ∧ objs = [.row 3 sv (ints ((fourX size rows fun l => decide (thrObsP size rows l)).getD []))]) := by
  refine gives_enter (args := [_]) en_i_ThresholdObstacle Tryz.func20 rfl Tryz.ntmps20 rfl ?_
  rw [← four_firstX (size := size) (rows := rows) (fin := fun l => decide (thrObsP size rows l)) thrObs_apart]
  repeat' (first | apply pwp_seq | apply pwp_region | (apply px_run; (first | (apply opv_assign; first | exact hid_bool rfl | rfl) | (apply opv_load_str 0 st_G; rfl; rfl; rfl) | (apply opv_extract; rfl; rfl) | (apply opv_make_func; rfl)); rfl; rfl) | apply px_nil | apply qseq_normal | apply pwp_ret | (apply px_box; rfl; rfl; rfl; rfl; intro bk) | (apply px_gives; rfl; rfl; rfl; rfl; rfl; exact fun w hw => i_firstList_c _ 4 _ rows _ _ [] _ (fun _ => true) (fun l => decide (thrObsP size rows l)) _ (by first | exact hw.arr (by assumption)) (by omega) (by omega) (fun x xv w' hb hx => i_always_c _ _) (fun x xv w' hb hx => i_ThresholdObstacle_1_c _ _ _ rows x _ _ (Arr.below (by first | exact hw.arr (by assumption)) hb) hx (Bk.below (hw.bk (k := 0) rfl) hb)); rintro _ _ ⟨sr, rfl, rfl⟩))
  refine qbody_ret2 rfl rfl rfl ⟨_, ⟨_, rfl, rfl⟩, fun w' h => ?_⟩
  exact Cl.sub (by assumption) (by repeat (first | exact List.Sublist.slnil | exact List.Sublist.refl _ | apply List.Sublist.cons_cons | exact List.sublist_append_left _ _ | exact List.sublist_append_right _ _ | apply List.Sublist.cons))
theorem en_s_ThresholdObstacle : Entry Tryz.prog 21 := ⟨_, Tryz.func21, by kernel_rfl, rfl⟩
set_option maxHeartbeats 1600000 in
theorem s_ThresholdObstacle_c (size : Int) (gv : Value) (rows : List Int) (w : World) (hr : Arr w gv (ints rows)) :
    Gives Tryz.prog 21 #[.agg #[.int .i64 size, gv]] w (fun v objs => ∃ sv, v = .tuple #[sv, .bool (fourX size rows fun l => decide (thrObsP size rows l)).isSome] ∧ objs = [.row 3 sv (ints ((fourX size rows fun l => decide (thrObsP size rows l)).getD []))]) := by
  refine gives_enter (args := [_]) en_s_ThresholdObstacle Tryz.func21 rfl Tryz.ntmps21 rfl ?_
  repeat' (first | apply pwp_seq | apply pwp_region | (apply px_run; (first | (apply opv_assign; first | exact hid_int rfl | exact hid_bool rfl | rfl)); rfl; rfl) | apply px_nil | apply qseq_normal | apply pwp_block | (apply px_box; rfl; rfl; rfl; rfl; intro bk))
  by_cases hg : IsG size rows
  case neg =>
    have hx : (fourX size rows fun l => decide (thrObsP size rows l)) = none := by unfold fourX; rw [if_neg hg]
    rw [hx]
    refine pwp_loop_once ?_
    repeat' (first | apply pwp_seq | apply pwp_region | (apply px_run; (first | (apply opv_move; first | exact hid_int rfl | exact hid_bool rfl) | (apply opv_assign; first | exact hid_bool rfl | rfl) | (apply opv_pick_f <;> rfl) | (apply opv_field fld_G0; rfl) | (apply opv_load_str 0 st_G; rfl; rfl; rfl) | (apply opv_call; rfl; rfl; exact Cl.stable _ _ _; exact fun w hw => s_IsGraph_c _ _ rows _ (by first | exact hw.arr (by assumption)))); rfl; rfl) | apply px_nil | (apply px_skip; rfl; rfl) | apply qseq_normal | apply qseq_exit | (apply qblock_exit_same; rfl) | apply pwp_exit | apply pwp_ret | apply qonce_exit | (apply pwp_cond_f; rfl) | (apply px_guard_dec; rfl; rfl; rfl; all_goals (intro hc; try (first | contradiction))) | (apply px_lit0i ez_int; rfl; rfl; rfl; intro sv))
    refine qbody_ret2 (v := sv) (v' := .bool false) rfl rfl rfl ⟨[.row 3 sv (ints [])], ⟨sv, rfl, rfl⟩, fun w' h => ?_⟩
    exact Cl.sub (by assumption) (by repeat (first | exact List.Sublist.slnil | exact List.Sublist.refl _ | apply List.Sublist.cons_cons | exact List.sublist_append_left _ _ | exact List.sublist_append_right _ _ | apply List.Sublist.cons))
  obtain ⟨N, rfl, hrl, hN1, hN7⟩ := isG_size hg
  obtain ⟨⟨q1, q2⟩, ⟨q3, q4⟩, ⟨q5, q6⟩⟩ := pow_bounds hN1 hN7
  have e4 : (N : Int) * N * N * N = ((N * N * N * N : Nat) : Int) := by simp
  have hx : (fourX (N : Int) rows fun l => decide (thrObsP (N : Int) rows l)) = fourK N (fun l => decide (thrObsP (N : Int) rows l)) (N * N * N * N) := by unfold fourX; rw [if_pos hg, Int.toNat_natCast]
  rw [hx]
  refine pwp_loop (τ := Nat) [(2,54)] (fun c => [(4, .int .i64 (c : Int))]) (fun _ => Cl [] w [.blk bk [.int .i64 (N : Int), gv]]) (fun c => c ≤ N * N * N * N ∧ fourK N (fun l => decide (thrObsP (N : Int) rows l)) c = none) (fun c => N * N * N * N - c) 0
    ⟨rfl, trivial⟩ ⟨Nat.zero_le _, rfl⟩ (fun _ h => h) (fun J c hc0 => ?_)
  obtain ⟨hk, hno⟩ := hc0
  by_cases hlt : c < N * N * N * N
  · obtain ⟨g1, g2, g3, g4⟩ := digs_int (N := N) (c := c) (by omega)
    have hd : [w64 ((c : Int).tdiv ((N : Int) * N * N)), (w64 ((c : Int).tdiv ((N : Int) * N))).tmod N, (w64 ((c : Int).tdiv N)).tmod N, (c : Int).tmod N] = digs N c := by rw [g1, g2, g3, g4]; rfl
    have hlt' : (c : Int) < (N : Int) * N * N * N := by omega
    repeat' (first | apply pwp_seq | apply pwp_region | (apply px_run; (first | (apply opv_move; first | exact hid_int rfl | exact hid_bool rfl | rfl) | (apply opv_assign; first | exact hid_int rfl | exact hid_bool rfl | rfl) | (apply opv_lss <;> rfl) | (apply opv_pick_t <;> rfl) | (apply opv_add_in; rfl; rfl; omega) | (apply opv_mul_in; rfl; rfl; omega) | (apply opv_quo; rfl; rfl; omega) | (apply opv_rem; rfl; rfl; omega) | (apply opv_field fld_G0; rfl) | (apply opv_load_blk 0; (first | with_reducible exact sc_int); rfl; rfl; rfl) | (apply opv_load_str 0 st_G; rfl; rfl; rfl) | (apply opv_load_str 1 st_G; rfl; rfl; rfl) | (apply opv_call; rfl; rfl; exact Cl.stable _ _ _; exact fun w hw => s_IsGraph_c _ _ rows _ (by first | exact hw.arr (by assumption))) | (apply opv_call; rfl; rfl; exact Cl.stable _ _ _; exact fun w hw => s_IsThresholdObstacle_c _ _ _ rows (digs N c) _ (by first | exact hw.arr (by assumption)) (cast_arr hd (hw.rowArr (k := 0) rfl)))); rfl; rfl) | apply px_nil | apply qseq_normal | apply qseq_ret | apply pwp_block | apply qblock_normal | apply qblock_ret | apply pwp_skip | apply pwp_ret | apply qround_ret | (apply pwp_region_mix; kernel_rfl; decide +kernel; exact Cl.stable _ _ _) | (apply px_guard_dec; rfl; rfl; rfl; all_goals (intro hc; try (first | contradiction))) | (apply pwp_cond_dec; rfl; all_goals (intro hc; try (first | contradiction))) | (apply px_lit4 ez_int; rfl; (intro w hw; (first | rfl)); rfl; (intro w hw; (first | rfl)); rfl; (intro w hw; (first | rfl)); rfl; (intro w hw; (first | rfl)); rfl; rfl; rfl; intro sv))
    all_goals first
      | (refine qround_normal ?_ ⟨c + 1, ⟨rfl, trivial⟩, ⟨by omega, by rw [fourK_succ _ _ _ hno, if_neg (by simpa using hc)]⟩, by omega, fun w' h => by exact Cl.sub (by assumption) (by repeat (first | exact List.Sublist.slnil | exact List.Sublist.refl _ | apply List.Sublist.cons_cons | exact List.sublist_append_left _ _ | exact List.sublist_append_right _ _ | apply List.Sublist.cons))⟩
         repeat (first | exact same_refl | refine same_upd rfl ?_ | refine same_junk rfl ?_))
      | (rw [fourK_hit hno hlt (decide_eq_true hc)]
         refine qbody_ret2 (v := sv) (v' := .bool true) rfl rfl rfl ⟨[.row 3 sv (ints (digs N c))], ⟨sv, rfl, rfl⟩, fun w' h => ?_⟩
         rw [← hd]
         exact Cl.sub (by assumption) (by repeat (first | exact List.Sublist.slnil | exact List.Sublist.refl _ | apply List.Sublist.cons_cons | exact List.sublist_append_left _ _ | exact List.sublist_append_right _ _ | apply List.Sublist.cons)))
  · obtain rfl : c = N * N * N * N := by omega
    have hlt' : ¬ (((N * N * N * N : Nat) : Int)) < (N : Int) * N * N * N := by omega
    rw [hno]
    repeat' (first | apply pwp_seq | apply pwp_region | (apply px_run; (first | (apply opv_move; first | exact hid_int rfl | exact hid_bool rfl) | (apply opv_assign; first | exact hid_bool rfl | rfl) | (apply opv_lss <;> rfl) | (apply opv_pick_t <;> rfl) | (apply opv_mul_in; rfl; rfl; omega) | (apply opv_field fld_G0; rfl) | (apply opv_load_blk 0; (first | with_reducible exact sc_int); rfl; rfl; rfl) | (apply opv_load_str 0 st_G; rfl; rfl; rfl) | (apply opv_call; rfl; rfl; exact Cl.stable _ _ _; exact fun w hw => s_IsGraph_c _ _ rows _ (by first | exact hw.arr (by assumption)))); rfl; rfl) | apply px_nil | apply qseq_normal | apply qseq_exit | (apply qblock_exit_same; rfl) | apply pwp_exit | apply pwp_ret | apply qround_exit | (apply px_guard_dec; rfl; rfl; rfl; all_goals (intro hc; try (first | contradiction))) | (apply pwp_cond_dec; rfl; all_goals (intro hc; try (first | contradiction))) | (apply px_lit0i ez_int; rfl; rfl; rfl; intro sv))
    refine qbody_ret2 (v := sv) (v' := .bool false) rfl rfl rfl ⟨[.row 3 sv (ints [])], ⟨sv, rfl, rfl⟩, fun w' h => ?_⟩
    exact Cl.sub (by assumption) (by repeat (first | exact List.Sublist.slnil | exact List.Sublist.refl _ | apply List.Sublist.cons_cons | exact List.sublist_append_left _ _ | exact List.sublist_append_right _ _ | apply List.Sublist.cons))
end Go.Proofs.YtdenkbephkfifaaGreat
/- Rows found among the objects by membership. -/
namespace Go.Pw
open Go Go.RowKit
theorem lss_getD' (ps : Pairs) (k : Nat) : (lssOf ps).getD k [] = lsAt ps k := by
  simp only [lssOf, lsAt, List.getD, List.getElem?_map]
  cases ps[k]? <;> rfl
theorem rd_mem {X : List Nat} {w0 : World} {objs : List Ob} {e : TypeId} {sv : Value} {vs : List Value} (h : Ob.row e sv vs ∈ objs) : Rd (Cl X w0 objs) sv vs := ⟨fun _ hw => arr_of_row (hw.holds _ h)⟩
theorem row_mem {ps : Pairs} {e : TypeId} {k : Nat} (h : k < ps.length) : Ob.row e (svAt ps k) (ints (lsAt ps k)) ∈ rowsOb e ps :=
  List.mem_map.2 ⟨ps[k], List.getElem_mem h, by simp [svAt, lsAt, List.getD, h]⟩
theorem rowsOb_append (e : TypeId) (a b : Pairs) : rowsOb e (a ++ b) = rowsOb e a ++ rowsOb e b := by simp [rowsOb]
theorem rowsOb_drop {e : TypeId} {ps : Pairs} {k : Nat} (h : k < ps.length) : rowsOb e (ps.drop k) = .row e (svAt ps k) (ints (lsAt ps k)) :: rowsOb e (ps.drop (k + 1)) := by
  rw [ps_drop h]; rfl
theorem lsAt_mem {ps : Pairs} {k : Nat} (h : k < ps.length) : lsAt ps k ∈ lssOf ps := List.mem_of_getElem? (lss_get h)
theorem stor_mem {X : List Nat} {w0 w : World} {objs : List Ob} {e : TypeId} {sv : Value} {vs : List Value} (hw : Cl X w0 objs w) (h : Ob.row e sv vs ∈ objs) : storable sv = true := stor_arr (arr_of_row (hw.holds _ h))
/-- Ascending numbers are some of the first ones. -/
theorem asc_range' : ∀ (d m : Nat) (c : List Nat), c.Pairwise (· < ·) → (∀ x ∈ c, m ≤ x ∧ x < m + d) → List.Sublist c (List.range' m d)
  | 0, m, [], _, _ => List.Sublist.slnil
  | 0, m, x :: c, _, h => by have := h x (List.mem_cons_self ..); omega
  | d + 1, m, [], _, _ => List.nil_sublist _
  | d + 1, m, x :: c, hp, h => by
    rw [List.range'_succ]
    have h1 := List.pairwise_cons.1 hp
    have hx := h x (List.mem_cons_self ..)
    by_cases e : x = m
    · subst e
      refine List.Sublist.cons_cons _ (asc_range' d (x + 1) c h1.2 fun y hy => ?_)
      have := h1.1 y hy
      have := h y (List.mem_cons_of_mem _ hy)
      omega
    · refine List.Sublist.cons _ (asc_range' d (m + 1) (x :: c) hp fun y hy => ?_)
      have hy2 := h y hy
      rcases List.mem_cons.1 hy with rfl | hy
      · omega
      · have := h1.1 y hy; omega
def pickP (ps : Pairs) (c : List Nat) : Pairs := c.map fun j => (svAt ps j, lsAt ps j)
theorem pickP_range (ps : Pairs) : pickP ps (List.range ps.length) = ps := by
  apply List.ext_getElem (by simp [pickP])
  intro i h1 h2
  simp [pickP, svAt, lsAt, List.getD, h2]
theorem pickP_sub {ps : Pairs} {c : List Nat} (hc : c.Pairwise (· < ·)) (h : ∀ x ∈ c, x < ps.length) : List.Sublist (pickP ps c) ps := by
  have h1 := asc_range' ps.length 0 c hc fun x hx => ⟨Nat.zero_le _, by have := h x hx; omega⟩
  rw [← List.range_eq_range'] at h1
  have h2 := List.Sublist.map (fun j => (svAt ps j, lsAt ps j)) h1
  have h3 := pickP_range ps
  unfold pickP at h3 ⊢
  rw [h3] at h2
  exact h2
theorem pickP_lss (ps : Pairs) (c : List Nat) : lssOf (pickP ps c) = c.map fun i => (lssOf ps).getD i [] := by
  simp only [pickP, lssOf, List.map_map]
  refine List.map_congr_left fun i _ => ?_
  have := lss_getD' ps i
  simp only [Function.comp_apply]
  exact this.symm
theorem svs_set (ps : Pairs) (i : Nat) (p : Value × List Int) : svsOf (ps.set i p) = (svsOf ps).set i p.1 := by simp [svsOf, List.map_set]
theorem ps_snoc {ps : Pairs} {k : Nat} (h : k < ps.length) : ps.take (k + 1) = ps.take k ++ [(svAt ps k, lsAt ps k)] := by
  rw [List.take_add_one, List.getElem?_eq_getElem h]
  have : (svAt ps k, lsAt ps k) = ps[k] := by simp [svAt, lsAt, List.getD, h]
  rw [this]; rfl
theorem rowsOb_sub {e : TypeId} {a b : Pairs} (h : List.Sublist a b) : List.Sublist (rowsOb e a) (rowsOb e b) := h.map _
theorem stor_svsA {w : World} {sv : Value} {ps : Pairs} (h : ArrS w sv ps) : ∀ u ∈ svsOf ps, storable u = true := fun u hu => by
  obtain ⟨k, hk, rfl⟩ := List.mem_iff_getElem.1 hu
  rw [svsOf_length] at hk
  have := stor_arr (h.each k hk)
  simpa [svsOf, svAt, List.getD, hk] using this
theorem pick_mem {ps : Pairs} {e : TypeId} {c : List Nat} (h : ∀ x ∈ c, x < ps.length) : ∀ o ∈ rowsOb e (pickP ps c), o ∈ rowsOb e ps := fun o ho => by
  obtain ⟨p, hp, rfl⟩ := List.mem_map.1 ho
  obtain ⟨x, hx, rfl⟩ := List.mem_map.1 hp
  exact row_mem (h x hx)
theorem pick_snoc (ps : Pairs) (c : List Nat) (m : Nat) : pickP ps (c ++ [m]) = pickP ps c ++ [(svAt ps m, lsAt ps m)] := by simp [pickP]
theorem pick_rev (ps : Pairs) (c : List Nat) : (pickP ps c).reverse = pickP ps c.reverse := by simp [pickP, List.map_reverse]
section
variable {P : Program} {C : Cls} {ρ : Operand → Value} {d : Option Tmp} {t ty : TypeId} {pos : String} {af : Array Edge} {g : Option (Nat × Bool)} {x : Operand}
theorem opv_load_iota {sv : Value} {n i : Nat} (ht : Scalar P t) (hx : ρ x = .pointer (some (addrOf sv i))) (hr : Rd C sv (ints (iota n))) (hi : i < n) : Opv P C ρ ⟨d, .load t x, ty, pos, af, g⟩ (.int .i64 (i : Int)) := by
  have := opv_load_ints (d := d) (ty := ty) (pos := pos) (af := af) (g := g) ht hx hr (by simpa [iota] using hi)
  rwa [iota_get hi] at this
end
end Go.Pw
/- The plain mathematics of module trees. -/
namespace Go.Pw
open Go

/-- A node's children. -/
def childU (c : List Int) (i : Int) (k : Nat) : List Int := ((List.range k).filter fun v => c.getD v 0 = i).map Int.ofNat
def childL (c : List Int) (i : Int) : List Int := childU c i c.length
theorem childU_succ (c : List Int) (i : Int) (k : Nat) : childU c i (k + 1) = if c.getD k 0 = i then childU c i k ++ [(k : Int)] else childU c i k := by
  unfold childU
  rw [List.range_succ, List.filter_append, List.map_append, List.filter_cons, List.filter_nil]
  by_cases h : c.getD k 0 = i
  · rw [if_pos (decide_eq_true h), if_pos h]; rfl
  · rw [if_neg (by rw [decide_eq_false h]; exact Bool.false_ne_true), if_neg h, List.map_nil, List.append_nil]
theorem childU_length (c : List Int) (i : Int) (k : Nat) : (childU c i k).length ≤ k := by
  unfold childU
  rw [List.length_map]
  exact Nat.le_trans (List.length_filter_le _ _) (by simp)

/-- A tree that can be walked. -/
def fineAt (a b c : List Int) (i : Nat) : Prop := (0 ≤ a.getD i 0 ∧ a.getD i 0 ≤ 127) ∧ (0 ≤ b.getD i 0 ∧ b.getD i 0 ≤ 3) ∧ (0 < i → 0 ≤ c.getD i 0 ∧ c.getD i 0 ≤ (i : Int) - 1)
instance (a b c : List Int) (i : Nat) : Decidable (fineAt a b c i) := by unfold fineAt; infer_instance
def fineT (a b c : List Int) : Prop := (1 ≤ (a.length : Int) ∧ (a.length : Int) ≤ 20) ∧ (b.length : Int) = a.length ∧ (c.length : Int) = a.length ∧ c.getD 0 0 = -1 ∧ ∀ i, i < a.length → fineAt a b c i
instance (a b c : List Int) : Decidable (fineT a b c) := by unfold fineT; infer_instance

/-- How deep a node lies. -/
def depF (c : List Int) : Nat → Nat → Int
  | 0, _ => 0
  | f + 1, i => if 0 < i then depF c f (c.getD i 0).toNat + 1 else 0
def dep (c : List Int) (i : Nat) : Int := depF c i i
/-- Each node but the first lies under an earlier one. -/
def down (c : List Int) (n : Nat) : Prop := ∀ i, i < n → 0 < i → 0 ≤ c.getD i 0 ∧ c.getD i 0 ≤ (i : Int) - 1
theorem depF_fuel {c : List Int} {n : Nat} (hd : down c n) : ∀ (f : Nat) (g : Nat) (i : Nat), i < n → i ≤ f → i ≤ g → depF c f i = depF c g i
  | 0, 0, _, _, _, _ => rfl
  | 0, g + 1, i, _, h1, _ => by obtain rfl : i = 0 := by omega
                                rfl
  | f + 1, 0, i, _, _, h2 => by obtain rfl : i = 0 := by omega
                                rfl
  | f + 1, g + 1, i, hn, h1, h2 => by
    unfold depF
    by_cases h : 0 < i
    · have := hd i hn h
      rw [if_pos h, if_pos h, depF_fuel hd f g _ (by omega) (by omega) (by omega)]
    · rw [if_neg h, if_neg h]
theorem dep_zero (c : List Int) : dep c 0 = 0 := rfl
theorem dep_pos {c : List Int} {n : Nat} (hd : down c n) (i : Nat) (hn : i < n) (h : 0 < i) : dep c i = dep c (c.getD i 0).toNat + 1 := by
  have h0 := hd i hn h
  unfold dep
  obtain ⟨j, rfl⟩ : ∃ j, i = j + 1 := ⟨i - 1, by omega⟩
  rw [depF, if_pos h, depF_fuel hd j (c.getD (j + 1) 0).toNat _ (by omega) (by omega) (by omega)]
theorem dep_bound {c : List Int} {n : Nat} (hd : down c n) (i : Nat) (hn : i < n) : 0 ≤ dep c i ∧ dep c i ≤ i := by
  induction i using Nat.strongRecOn with
  | _ i ih =>
    by_cases h : 0 < i
    · have h0 := hd i hn h
      have := ih (c.getD i 0).toNat (by omega) (by omega)
      rw [dep_pos hd i hn h]; omega
    · obtain rfl : i = 0 := by omega
      rw [dep_zero]; omega
def depM (c : List Int) (k : Nat) : Int := (List.range k).foldl (fun m i => max m (dep c i)) 0
theorem depM_succ (c : List Int) (k : Nat) : depM c (k + 1) = max (depM c k) (dep c k) := by simp [depM, List.range_succ]
def depL (c : List Int) (k : Nat) : List Int := (List.range k).map (dep c)
theorem depL_succ (c : List Int) (k : Nat) : depL c (k + 1) = depL c k ++ [dep c k] := by simp [depL, List.range_succ]
@[simp] theorem depL_length (c : List Int) (k : Nat) : (depL c k).length = k := by simp [depL]
theorem depL_get (c : List Int) (k i : Nat) (h : i < k) : (depL c k).getD i 0 = dep c i := by simp [depL, List.getD, h]
theorem depL_bound {c : List Int} {k : Nat} (hd : down c k) (j : Nat) : 0 ≤ (depL c k).getD j 0 ∧ (depL c k).getD j 0 ≤ k := by
  by_cases h : j < k
  · have := dep_bound hd j h; rw [depL_get c k j h]; omega
  · simp [List.getD, depL, h]
def depthT (a b c : List Int) : Int := if fineT a b c then depM c c.length else -1
end Go.Pw
/- Structs of three slices, built. -/
namespace Go.Pw
open Go Go.RowKit
structure BuildT (P : Program) (t : TypeId) : Prop where
  one : ∀ ao l c, P.built t [(0, .slice ao l c)] = some #[.slice ao l c, .slice none 0 0, .slice none 0 0]
  nil : P.built t [] = some #[.slice none 0 0, .slice none 0 0, .slice none 0 0]
section
variable {P : Program} {C : Cls} {ρ : Operand → Value} {d : Option Tmp} {t t' ty : TypeId} {pos : String} {af : Array Edge} {g : Option (Nat × Bool)} {x y z : Operand} {m n : Int}
theorem opv_buildT1 {sv : Value} {vs : List Value} (hb : BuildT P t) (hx : ρ x = sv) (hr : Rd C sv vs) : Opv P C ρ ⟨d, .build t #[(0, x)], ty, pos, af, g⟩ (.agg [sv, .slice none 0 0, .slice none 0 0].toArray) :=
  opv_of_run fun w hw => by
    obtain ⟨ao, l, c, rfl⟩ := arr_slice (hr.out w hw)
    have := run_build (P := P) w t #[(0, .slice ao l c)] _ (hb.one ao l c)
    simp [execOp, hx, this]
theorem opv_buildT0 (hb : BuildT P t) : Opv P C ρ ⟨d, .build t #[], ty, pos, af, g⟩ (.agg [.slice none 0 0, .slice none 0 0, .slice none 0 0].toArray) :=
  opv_of_run fun w hw => by
    have := run_build (P := P) w t #[] _ hb.nil
    simp [execOp, this]
end
/-- Some of the objects, in another order (each number counts in what the ones before leave). -/
theorem Cl.pick {X : List Nat} {w0 w : World} {objs old rest : List Ob} (ks : List Nat) (h : Cl X w0 objs w) (hp : pull objs ks = some (old, rest)) : Cl X w0 old w :=
  (h.perm (pull_perm ks _ _ _ hp)).sub (List.sublist_append_left _ _)
end Go.Pw
/- Orientations found arc by arc: the program's and the reference's. -/
namespace Go.Proofs.YtdenkbephkfifaaGreat
open Go Go.RowKit Go.Pw
theorem en_s_RemoveEdge : Entry Tryz.prog 77 := ⟨_, Tryz.func77, by kernel_rfl, rfl⟩
set_option maxHeartbeats 1600000 in
theorem s_RemoveEdge_c (n : Nat) (gv : Value) (P : Nat → Nat → Bool) (v u : Nat) (w : World) (hr : Arr w gv (ints (gRows n P))) (h1 : 1 ≤ n) (hn : n ≤ 7) (hs : ∀ i u, P i u = P u i) (hi : ∀ i, P i i = false)
    (hv : v < n) (hu : u < n) (hvu : v ≠ u) :
    Gives Tryz.prog 77 #[.agg #[.int .i64 n, gv], .int .i64 v, .int .i64 u] w (fun x objs => ∃ sv', x = .tuple #[.agg #[.int .i64 n, sv'], .bool (P v u)] ∧ objs = [.row 3 sv' (ints (gRows n (remP P v u)))]) := by
  have hg := gRows_isG h1 hn hs hi
  have hlen : (gRows n P).length = n := gRows_length n P
  have hhas := gRows_has hn P hv hu
  have hvu' : (v : Int) ≠ u := by omega
  refine gives_enter (args := [_, _, _]) en_s_RemoveEdge Tryz.func77 rfl Tryz.ntmps77 rfl ?_
  cases hP : P v u with
  | true =>
    have hP2 : P u v = true := by rw [hs]; exact hP
    obtain ⟨p1, p2⟩ := gRows_del (P := P) hv hu hvu
    obtain ⟨_, m1⟩ := mask_del (f := P v) hn hu hP
    obtain ⟨_, m2⟩ := mask_del (f := P u) hn hv hP2
    have h7 : 2 ^ n ≤ 2 ^ 7 := Nat.pow_le_pow_right (by omega) hn
    have l1 := maskU_lt (fun x => P v x && !decide (x = u)) n
    have l2 := maskU_lt (fun x => P u x && !decide (x = v)) n
    have b1 : (gRows n P).getD v 0 - ishl 1 (u : Int) = ((maskU (fun x => P v x && !decide (x = u)) n : Nat) : Int) := by rw [gRows_get P hv]; exact m1
    have b2 : ((gRows n P).set v ((gRows n P).getD v 0 - ishl 1 (u : Int))).getD u 0 - ishl 1 (v : Int) = ((maskU (fun x => P u x && !decide (x = v)) n : Nat) : Int) := by rw [b1, p1]; exact m2
    repeat' (first | apply pwp_seq | apply pwp_region | (apply px_run; (first | (apply opv_move; first | exact hid_int rfl | exact hid_bool rfl) | (apply opv_assign; first | exact hid_bool rfl) | (apply opv_pick_f <;> rfl) | (apply opv_not <;> rfl) | (apply opv_sub_in; rfl; rfl; omega) | (apply opv_shl; rfl; rfl; omega) | (apply opv_field fld_G1; rfl) | (apply opv_load_blk 0; (first | with_reducible exact sc_int | with_reducible exact sc_ints); rfl; rfl; rfl) | (apply opv_load_ints sc_int; rfl; (first | exact rd_row 1 rfl); (first | omega | (simp only [List.length_set]; omega))) | (apply opv_index_nat (vs := ints _) el_int; (case hr => exact rd_row 1 rfl); (case hx => rfl); (case hy => rfl); (first | (simp only [ints_length]; omega) | (simp [ints]; omega))) | (apply opv_load_str 0 st_G; rfl; rfl; rfl) | (apply opv_load_str 1 st_G; rfl; rfl; rfl) | (apply opv_load_str 3 st_G; rfl; rfl; rfl) | (apply opv_call; rfl; rfl; exact Cl.stable _ _ _; exact fun w hw => s_l2Pair_c _ _ _ _ _ _ (by first | exact hw.arr (by assumption)) hg (by omega) (by omega) hvu') | (apply opv_call; rfl; rfl; exact Cl.stable _ _ _; exact fun w hw => s_l2Edge_c _ _ (gRows n P) _ _ _ (by first | exact hw.arr (by assumption)) (by omega) (by omega))); rfl; rfl) | apply px_nil | apply qseq_normal | apply qseq_ret | apply pwp_skip | apply pwp_ret | (apply pwp_region_any [0, 1, 2, 3, 4, 5, 6, 7, 8, 9, 10, 11] [12] 1 (Cl [] w [.blk _ [.int .i64 n, sc], .row 3 sc _, .blk _ _, .blk _ _]); kernel_rfl; decide +kernel; exact Cl.stable _ _ _; exact fun w h => h.sub (by repeat (first | exact List.Sublist.refl _))) | apply qlooks_normal | (apply qstep_out; decide +kernel) | (apply pxa_nil; decide +kernel) | (apply pxa_one 12; decide +kernel; rfl) | (apply pwp_cond_not; rfl; all_goals (intro hc; try (first | fail))) | (apply px_box; rfl; rfl; rfl; rfl; intro bk) | (apply px_alloc st_G; rfl; rfl; rfl; intro bk) | (apply px_store_str 0 st_G; rfl; rfl; rfl; rfl; rfl; (intro w hw; (first | refine all2 rfl ?_ ?_) <;> (first | rfl | exact stor_row 1 hw rfl)); rfl) | (apply px_store_str 2 st_G; rfl; rfl; rfl; rfl; rfl; (intro w hw; (first | refine all2 rfl ?_ ?_) <;> (first | rfl | exact stor_row 1 hw rfl)); rfl) | (apply px_store_int 1 co_int; rfl; rfl; rfl; (first | omega | (simp; omega)); rfl) | (apply px_gives; rfl; rfl; rfl; rfl; rfl; exact fun w hw => s_l2Copy_c _ _ (gRows n P) _ (by first | exact hw.arr (by assumption)) (by omega); rintro _ _ ⟨sc, rfl, rfl⟩))
    all_goals first
      | (exfalso; rw [show hasB ((gRows n P).getD (Int.toNat (v : Int)) 0) (u : Int) = P v u from hhas, hP] at hc; cases hc; done)
      | (refine qbody_cell_tmp 2 rfl st_G rfl rfl rfl rfl ⟨_, ⟨sc, rfl, rfl⟩, fun w' h => ?_⟩
         rw [b2, b1, p2] at h
         exact Cl.sub (by assumption) (by repeat (first | exact List.Sublist.slnil | exact List.Sublist.refl _ | apply List.Sublist.cons_cons | exact List.sublist_append_left _ _ | exact List.sublist_append_right _ _ | apply List.Sublist.cons)))
  | false =>
    have hk := gRows_keep (n := n) hP (by rw [hs]; exact hP)
    rw [← hk]
    repeat' (first | apply pwp_seq | apply pwp_region | (apply px_run; (first | (apply opv_move; first | exact hid_int rfl | exact hid_bool rfl) | (apply opv_assign; first | exact hid_bool rfl) | (apply opv_pick_f <;> rfl) | (apply opv_not <;> rfl) | (apply opv_shl; rfl; rfl; omega) | (apply opv_field fld_G1; rfl) | (apply opv_load_blk 0; (first | with_reducible exact sc_int | with_reducible exact sc_ints); rfl; rfl; rfl) | (apply opv_load_ints sc_int; rfl; (first | exact rd_row 1 rfl); (first | omega)) | (apply opv_index_nat (vs := ints _) el_int; rfl; rfl; (first | exact rd_row 1 rfl); (first | (simp only [ints_length]; omega))) | (apply opv_load_str 0 st_G; rfl; rfl; rfl) | (apply opv_load_str 1 st_G; rfl; rfl; rfl) | (apply opv_load_str 3 st_G; rfl; rfl; rfl) | (apply opv_call; rfl; rfl; exact Cl.stable _ _ _; exact fun w hw => s_l2Pair_c _ _ _ _ _ _ (by first | exact hw.arr (by assumption)) hg (by omega) (by omega) hvu') | (apply opv_call; rfl; rfl; exact Cl.stable _ _ _; exact fun w hw => s_l2Edge_c _ _ (gRows n P) _ _ _ (by first | exact hw.arr (by assumption)) (by omega) (by omega)) | (apply opv_sub <;> rfl)); rfl; rfl) | apply px_nil | apply qseq_normal | apply qseq_ret | apply pwp_skip | apply pwp_ret | (apply pwp_region_mix; kernel_rfl; decide +kernel; exact Cl.stable _ _ _) | (apply pwp_cond_not; rfl; all_goals (intro hc; try (first | fail))) | (apply px_box; rfl; rfl; rfl; rfl; intro bk) | (apply px_alloc st_G; rfl; rfl; rfl; intro bk) | (apply px_store_str 0 st_G; rfl; rfl; rfl; rfl; rfl; (intro w hw; (first | refine all2 rfl ?_ ?_) <;> (first | rfl | exact stor_row 1 hw rfl)); rfl) | (apply px_store_str 2 st_G; rfl; rfl; rfl; rfl; rfl; (intro w hw; (first | refine all2 rfl ?_ ?_) <;> (first | rfl | exact stor_row 1 hw rfl)); rfl) | (apply px_gives; rfl; rfl; rfl; rfl; rfl; exact fun w hw => s_l2Copy_c _ _ (gRows n P) _ (by first | exact hw.arr (by assumption)) (by omega); rintro _ _ ⟨sc, rfl, rfl⟩))
    all_goals first
      | (refine qbody_cell_tmp 2 rfl st_G rfl rfl rfl rfl ⟨_, ⟨sc, rfl, rfl⟩, fun w' h => ?_⟩
         exact Cl.sub (by assumption) (by repeat (first | exact List.Sublist.slnil | exact List.Sublist.refl _ | apply List.Sublist.cons_cons | exact List.sublist_append_left _ _ | exact List.sublist_append_right _ _ | apply List.Sublist.cons)))
      | (exfalso; rw [show hasB ((gRows n P).getD (Int.toNat (v : Int)) 0) (u : Int) = P v u from hhas, hP] at hc; cases hc; done)
end Go.Proofs.YtdenkbephkfifaaGreat
/- Draws: any graph, a set, and what the laws of modules draw. -/
namespace Go.Proofs.YtdenkbephkfifaaGreat
open Go Go.RowKit Go.Pw
/-- Some graph, not always a good one, beside the cursor. -/
def AnyG (cv : Value) (l : List Int) (cb : Nat) (v : Value) (new : List Ob) : Prop := ∃ n gv rows i h, (-1 ≤ n ∧ n ≤ 8) ∧ (1 ≤ rows.length ∧ rows.length ≤ 7) ∧ storable gv = true ∧ v = .agg #[.int .i64 n, gv] ∧ (0 ≤ i ∧ i ≤ (l.length : Int)) ∧ new = [.row 3 gv (ints rows), .blk cb (cells3 cv i h)]
theorem en_s_l2Any : Entry Tryz.prog 76 := ⟨_, Tryz.func76, by kernel_rfl, rfl⟩
set_option maxRecDepth 100000 in
set_option maxHeartbeats 3200000 in
theorem s_l2Any_c (cv : Value) (l : List Int) (cb : Nat) (i h : Int) (w : World) (hcp : CodeP w cv l) (hi : 0 ≤ i ∧ i ≤ (l.length : Int)) (ho : Own w [.blk cb (cells3 cv i h)]) :
    GivesU Tryz.prog 76 #[.pointer (some ⟨cb, 0, none⟩)] w [.blk cb (cells3 cv i h)] (fun v new => AnyG cv l cb v new) := by
  have hap := code_apart hcp ho
  refine givesU_enterX (X := [cb]) (args := [_]) rfl ho en_s_l2Any Tryz.func76 rfl Tryz.ntmps76 rfl ?_
  have hm4 : ∀ y ∈ [(0 : Int), -1, 8, 3], -1 ≤ y ∧ y ≤ 8 := by decide
  have hlenG : ∀ (n : Int) (P : Rel), 1 ≤ n ∧ n ≤ 6 → 1 ≤ (gRows n.toNat P).length ∧ (gRows n.toNat P).length ≤ 7 := fun n P hn => by rw [gRows_length]; omega
  repeat' (first | apply pwp_seq | apply pwp_region | (apply px_run; (first | (apply opv_move; first | exact hid_ptr rfl) | (apply opv_assign; first | exact hid_bool rfl) | (apply opv_eql <;> rfl) | (apply opv_field fld_G0; rfl) | (apply opv_field fld_G1; rfl) | (apply opv_load_blk 0; (first | with_reducible exact sc_ints); rfl; rfl; rfl) | (apply opv_index_nat (vs := ints _) el_int; rfl; rfl; (first | exact rd_row 3 rfl); (first | (simp [ints]; omega))) | (apply opv_load_str 1 st_G; rfl; rfl; rfl) | (apply opv_load_str 2 st_G; rfl; rfl; rfl)); rfl; rfl) | apply px_nil | apply qseq_normal | apply pwp_block | apply qblock_normal | apply pwp_skip | apply pwp_ret | (apply pwp_region_any [0, 1, 2] [6] 4 (Cl [cb] w [.blk _ [.int .i64 n, gv], .row _ gv (ints (gRows n.toNat P))]); kernel_rfl; decide +kernel; exact Cl.stable _ _ _; exact fun w h => h.sub (by repeat (first | apply List.Sublist.cons_cons | exact List.sublist_append_left _ _ | apply List.Sublist.cons))) | apply qlooks_normal | (apply qstep_out; decide +kernel) | (apply qstep_in; exact fun w h => h.sub (by repeat (first | apply List.Sublist.cons_cons | exact List.sublist_append_left _ _ | apply List.Sublist.cons))) | (apply pxa_nil; decide +kernel) | (apply pxa_one 3; decide +kernel; rfl) | (apply pxa_one 4; decide +kernel; rfl) | (apply pxa_one 5; decide +kernel; rfl) | (apply pxa_one 6; decide +kernel; rfl) | (apply pwp_cond_dec; rfl; all_goals (intro hc; try (first | fail))) | (apply px_givesV [1]; rfl; rfl; rfl; rfl; rfl; (exact fun w' hw ho' => s_l2Draw_c cv l cb _ _ w' (hcp.at hap hw) (by assumption) ho'); rintro _ _ ⟨n, hn, gv, P, ci, ch, hP, hgv, rfl, hi, rfl⟩) | (apply px_givesV [2]; rfl; rfl; rfl; rfl; rfl; (exact fun w' hw ho' => s_l1Below_c cv l cb _ _ _ w' (hcp.at hap hw) (by assumption) ho'); rintro _ _ ⟨x, hx, rfl, ⟨ci, ch, hi, rfl⟩⟩) | (apply px_givesV [1]; rfl; rfl; rfl; rfl; rfl; (exact fun w' hw ho' => s_l1PickInt_c cv _ l [0, -1, 8, 3] cb _ _ w' (hcp.at hap hw) (by assumption) ho' (hw.rowArr (k := 0) rfl) (hw.rowNe 0 0 rfl rfl) (by decide)); rintro _ _ ⟨y, hy, rfl, ⟨ci, ch, hi, rfl⟩⟩) | (apply px_givesV [1]; rfl; rfl; rfl; rfl; rfl; (exact fun w' hw ho' => s_l1PickInt_c cv _ l [-1, 1, 2, 128, 9223372036854775807] cb _ _ w' (hcp.at hap hw) (by assumption) ho' (hw.rowArr (k := 0) rfl) (hw.rowNe 0 0 rfl rfl) (by decide)); rintro _ _ ⟨y, hy, rfl, ⟨ci, ch, hi, rfl⟩⟩) | (apply px_lit4 ez_int; rfl; (intro w hw; rfl); rfl; (intro w hw; rfl); rfl; (intro w hw; rfl); rfl; (intro w hw; rfl); rfl; rfl; rfl; intro sv) | (apply px_lit5 ez_int; rfl; rfl; rfl; rfl; rfl; rfl; rfl; rfl; rfl; rfl; rfl; rfl; rfl; intro sv) | (apply px_alloc st_G; rfl; rfl; rfl; intro bk) | (apply px_store_str 0 st_G; rfl; rfl; rfl; rfl; rfl; (intro w hw; (first | refine all2 rfl ?_ ?_) <;> (first | rfl | assumption)); rfl) | (apply px_store_str 3 st_G; rfl; rfl; rfl; rfl; rfl; (intro w hw; (first | refine all2 rfl ?_ ?_) <;> (first | rfl | assumption)); rfl) | (apply px_store_str 4 st_G; rfl; rfl; rfl; rfl; rfl; (intro w hw; (first | refine all2 rfl ?_ ?_) <;> (first | rfl | assumption)); rfl) | (apply px_store_blk 2; (first | with_reducible exact co_int); rfl; rfl; rfl; (intro w hw; (first | rfl)); rfl; rfl) | (apply px_store_int 3 co_int; rfl; rfl; rfl; (first | (simp; omega)); rfl))
  all_goals first
    | (refine qbody_cell 0 rfl st_G rfl rfl rfl ⟨_, ⟨_, gv, _, ci, ch, ?_, ?_, hgv, rfl, hi, rfl⟩, fun w' hw => (by have h := hw; exact Cl.ofSel (by assumption) (by repeat (first | exact sel_nil | refine sel_cons 0 rfl ?_ | refine sel_cons 1 rfl ?_ | refine sel_cons 2 rfl ?_ | refine sel_cons 3 rfl ?_ | refine sel_cons 4 rfl ?_ | refine sel_cons 5 rfl ?_ | refine sel_cons 6 rfl ?_ | refine sel_cons 7 rfl ?_ | refine sel_cons 8 rfl ?_ | refine sel_cons 9 rfl ?_ | refine sel_cons 10 rfl ?_ | refine sel_cons 11 rfl ?_ | refine sel_cons 12 rfl ?_ | refine sel_cons 13 rfl ?_)))⟩
       · first | omega | exact hm4 _ hy
       · first | exact hlenG n P hn | (rw [List.length_set]; exact hlenG n P hn))
    | (refine qbody_cell 1 rfl st_G rfl rfl rfl ⟨_, ⟨_, gv, _, ci, ch, ?_, ?_, hgv, rfl, hi, rfl⟩, fun w' hw => (by have h := hw; exact Cl.ofSel (by assumption) (by repeat (first | exact sel_nil | refine sel_cons 0 rfl ?_ | refine sel_cons 1 rfl ?_ | refine sel_cons 2 rfl ?_ | refine sel_cons 3 rfl ?_ | refine sel_cons 4 rfl ?_ | refine sel_cons 5 rfl ?_ | refine sel_cons 6 rfl ?_ | refine sel_cons 7 rfl ?_ | refine sel_cons 8 rfl ?_ | refine sel_cons 9 rfl ?_ | refine sel_cons 10 rfl ?_ | refine sel_cons 11 rfl ?_ | refine sel_cons 12 rfl ?_ | refine sel_cons 13 rfl ?_)))⟩
       · first | omega | exact hm4 _ hy
       · first | exact hlenG n P hn | (rw [List.length_set]; exact hlenG n P hn))
    | (refine qbody_cell 2 rfl st_G rfl rfl rfl ⟨_, ⟨_, gv, _, ci, ch, ?_, ?_, hgv, rfl, hi, rfl⟩, fun w' hw => (by have h := hw; exact Cl.ofSel (by assumption) (by repeat (first | exact sel_nil | refine sel_cons 0 rfl ?_ | refine sel_cons 1 rfl ?_ | refine sel_cons 2 rfl ?_ | refine sel_cons 3 rfl ?_ | refine sel_cons 4 rfl ?_ | refine sel_cons 5 rfl ?_ | refine sel_cons 6 rfl ?_ | refine sel_cons 7 rfl ?_ | refine sel_cons 8 rfl ?_ | refine sel_cons 9 rfl ?_ | refine sel_cons 10 rfl ?_ | refine sel_cons 11 rfl ?_ | refine sel_cons 12 rfl ?_ | refine sel_cons 13 rfl ?_)))⟩
       · first | omega | exact hm4 _ hy
       · first | exact hlenG n P hn | (rw [List.length_set]; exact hlenG n P hn))
    | (refine qbody_cell 3 rfl st_G rfl rfl rfl ⟨_, ⟨_, gv, _, ci, ch, ?_, ?_, hgv, rfl, hi, rfl⟩, fun w' hw => (by have h := hw; exact Cl.ofSel (by assumption) (by repeat (first | exact sel_nil | refine sel_cons 0 rfl ?_ | refine sel_cons 1 rfl ?_ | refine sel_cons 2 rfl ?_ | refine sel_cons 3 rfl ?_ | refine sel_cons 4 rfl ?_ | refine sel_cons 5 rfl ?_ | refine sel_cons 6 rfl ?_ | refine sel_cons 7 rfl ?_ | refine sel_cons 8 rfl ?_ | refine sel_cons 9 rfl ?_ | refine sel_cons 10 rfl ?_ | refine sel_cons 11 rfl ?_ | refine sel_cons 12 rfl ?_ | refine sel_cons 13 rfl ?_)))⟩
       · first | omega | exact hm4 _ hy
       · first | exact hlenG n P hn | (rw [List.length_set]; exact hlenG n P hn))
    | (refine qbody_cell 4 rfl st_G rfl rfl rfl ⟨_, ⟨_, gv, _, ci, ch, ?_, ?_, hgv, rfl, hi, rfl⟩, fun w' hw => (by have h := hw; exact Cl.ofSel (by assumption) (by repeat (first | exact sel_nil | refine sel_cons 0 rfl ?_ | refine sel_cons 1 rfl ?_ | refine sel_cons 2 rfl ?_ | refine sel_cons 3 rfl ?_ | refine sel_cons 4 rfl ?_ | refine sel_cons 5 rfl ?_ | refine sel_cons 6 rfl ?_ | refine sel_cons 7 rfl ?_ | refine sel_cons 8 rfl ?_ | refine sel_cons 9 rfl ?_ | refine sel_cons 10 rfl ?_ | refine sel_cons 11 rfl ?_ | refine sel_cons 12 rfl ?_ | refine sel_cons 13 rfl ?_)))⟩
       · first | omega | exact hm4 _ hy
       · first | exact hlenG n P hn | (rw [List.length_set]; exact hlenG n P hn))
    | (refine qbody_cell 5 rfl st_G rfl rfl rfl ⟨_, ⟨_, gv, _, ci, ch, ?_, ?_, hgv, rfl, hi, rfl⟩, fun w' hw => (by have h := hw; exact Cl.ofSel (by assumption) (by repeat (first | exact sel_nil | refine sel_cons 0 rfl ?_ | refine sel_cons 1 rfl ?_ | refine sel_cons 2 rfl ?_ | refine sel_cons 3 rfl ?_ | refine sel_cons 4 rfl ?_ | refine sel_cons 5 rfl ?_ | refine sel_cons 6 rfl ?_ | refine sel_cons 7 rfl ?_ | refine sel_cons 8 rfl ?_ | refine sel_cons 9 rfl ?_ | refine sel_cons 10 rfl ?_ | refine sel_cons 11 rfl ?_ | refine sel_cons 12 rfl ?_ | refine sel_cons 13 rfl ?_)))⟩
       · first | omega | exact hm4 _ hy
       · first | exact hlenG n P hn | (rw [List.length_set]; exact hlenG n P hn))
    | (refine qbody_cell 6 rfl st_G rfl rfl rfl ⟨_, ⟨_, gv, _, ci, ch, ?_, ?_, hgv, rfl, hi, rfl⟩, fun w' hw => (by have h := hw; exact Cl.ofSel (by assumption) (by repeat (first | exact sel_nil | refine sel_cons 0 rfl ?_ | refine sel_cons 1 rfl ?_ | refine sel_cons 2 rfl ?_ | refine sel_cons 3 rfl ?_ | refine sel_cons 4 rfl ?_ | refine sel_cons 5 rfl ?_ | refine sel_cons 6 rfl ?_ | refine sel_cons 7 rfl ?_ | refine sel_cons 8 rfl ?_ | refine sel_cons 9 rfl ?_ | refine sel_cons 10 rfl ?_ | refine sel_cons 11 rfl ?_ | refine sel_cons 12 rfl ?_ | refine sel_cons 13 rfl ?_)))⟩
       · first | omega | exact hm4 _ hy
       · first | exact hlenG n P hn | (rw [List.length_set]; exact hlenG n P hn))
/-- Some graph that a draw hands back. -/
def DrG (n : Int) (gv : Value) (rows : List Int) : Prop := (-1 ≤ n ∧ n ≤ 8) ∧ (1 ≤ rows.length ∧ rows.length ≤ 7) ∧ storable gv = true
theorem nox {cv : Value} {l : List Int} : ∀ b off n c, cv = .slice (some ⟨b, off, none⟩) n c → b ∈ ([] : List Nat) → byts l = [] := fun _ _ _ _ _ h => absurd h List.not_mem_nil
end Go.Proofs.YtdenkbephkfifaaGreat
/- A literal of three values. -/
namespace Go.Pw
open Go Go.RowKit
section
variable {P : Program} {E : Env} {n : Nat} {d : Option Tmp} {t ty e : TypeId} {pos : String} {af : Array Edge} {g : Option (Nat × Bool)} {ops l : List Oper} {Q : Post} {X : List Nat} {w0 : World} {objs : List Ob}
theorem px_lit3 {md : Md} {zv : Value} {bytes : Nat} {x0 x1 x2 : Operand} {v0 v1 v2 : Value} (he : ElemZ P t e zv bytes) (h0 : ev E x0 = v0) (s0 : storable v0 = true) (h1 : ev E x1 = v1) (s1 : storable v1 = true) (h2 : ev E x2 = v2) (s2 : storable v2 = true) (hmd : mdOk md (.buildSlice t 3 #[(0, x0), (1, x1), (2, x2)]) = true) (hw : wantE ops E g = true) (hd : okDst d n = true)
    (h : ∀ sv, Px P n ops md l Q (updo E d sv) (Cl X w0 (.row e sv [v0, v1, v2] :: objs))) :
    Px P n ops md (⟨d, .buildSlice t 3 #[(0, x0), (1, x1), (2, x2)], ty, pos, af, g⟩ :: l) Q E (Cl X w0 objs) :=
  px_opN hmd hw hd fun w hC => by
    obtain ⟨i, hi, z1, z2, z3⟩ := info_parts he.info
    have hsz : ∀ w, (sizeOf e).run P w = .ok 1 w := fun w => by simp [sizeOf, typeInfo, hi, z2]
    have hzero : ∀ w, (zeroValue e).run P w = .ok zv w := fun w => by simp [zeroValue, typeInfo, hi, z1]
    have hcell := he.cell
    have c0 := storable_cells s0
    have c1 := storable_cells s1
    have c2 := storable_cells s2
    refine ⟨.slice (some ⟨w.heap.size, 0, Option.none⟩) 3 3, w.alloc (.cells #[v0, v1, v2] e), _, ?_, hC.push (below_alloc w _) (.row e (.slice (some ⟨w.heap.size, 0, Option.none⟩) 3 3) [v0, v1, v2]) (row_lit w e [v0, v1, v2] (by simp)) (fun k hk => by obtain rfl := Option.some.inj hk; exact Nat.le_refl _), fun w hw => hw.sub (List.sublist_cons_self _ _), h _⟩
    simp [execOp, Instr.buildSlice, Instr.fill, run_underlying he.und, hsz, hzero, hcell, newRow, h0, c0, h1, c1, h2, c2]
    rw [show Array.range 3 = #[0, 1, 2] by decide]
    simp
end
section
variable {P : Program} {C : Cls} {n : Nat} {E : Env} {Q : Post}
/-- A mark at a region: the walk stops ahead of it. -/
theorem pwp_here (k : Nat) {ops : List Oper} {d : Bool} (h : Pwp P n (.region k ops.toArray d) Q E C) : Pwp P n (.region k ops.toArray d) Q E C := h
/-- Code that leaves the world as it was, said once. -/
theorem pwp_keep {c : Code} (S : List (Nat × Nat)) (l : List (Nat × Value)) (h1 : Pwp P n c (qjoin S (fun _ : Unit => l) (fun _ => C) (fun _ => True) E) E C)
    (h2 : ∀ J : Env, Q .normal (upds l (junk S J E)) C) : Pwp P n c Q E C := pwp_join S _ _ _ h1 fun J _ _ => h2 J
end
theorem opv_neq_self {P : Program} {C : Cls} {ρ : Operand → Value} {x y : Operand} {t t' ty : TypeId} {d : Option Nat} {pos : String} {af : Array Edge} {g : Option (Nat × Bool)} {a : Bool} (ht : P.underlying t = some .bool) (hx : ρ x = .bool a) (hy : ρ y = .bool a) :
    Opv P C ρ ⟨d, .binOp .neq t x y t', ty, pos, af, g⟩ (.bool false) := by
  have h := opv_neq_bool (P := P) (C := C) (d := d) (t' := t') (ty := ty) (pos := pos) (af := af) (g := g) ht hx hy
  rwa [show (a != a) = false by simp] at h
theorem opv_neq_of {P : Program} {C : Cls} {ρ : Operand → Value} {x y : Operand} {t t' ty : TypeId} {d : Option Nat} {pos : String} {af : Array Edge} {g : Option (Nat × Bool)} {a b : Bool} (ht : P.underlying t = some .bool) (hx : ρ x = .bool a) (hy : ρ y = .bool b) (hab : a = b) :
    Opv P C ρ ⟨d, .binOp .neq t x y t', ty, pos, af, g⟩ (.bool false) := by
  subst hab
  exact opv_neq_self ht hx hy
theorem opv_eql_self {P : Program} {C : Cls} {ρ : Operand → Value} {x y : Operand} {t t' ty : TypeId} {d : Option Nat} {pos : String} {af : Array Edge} {g : Option (Nat × Bool)} {a : Bool} (ht : P.underlying t = some .bool) (hx : ρ x = .bool a) (hy : ρ y = .bool a) :
    Opv P C ρ ⟨d, .binOp .eql t x y t', ty, pos, af, g⟩ (.bool true) := by
  have h := opv_eql_bool (P := P) (C := C) (d := d) (t' := t') (ty := ty) (pos := pos) (af := af) (g := g) ht hx hy
  rwa [show (a == a) = true by simp] at h
end Go.Pw
/- Draws: lists, orders, split graphs and threshold graphs. -/
namespace Go.Proofs.YtdenkbephkfifaaGreat
open Go Go.RowKit Go.Pw
theorem ints_app (a b : List Int) : ints (a ++ b) = ints a ++ ints b := List.map_append ..
theorem bools_app (a b : List Bool) : bools (a ++ b) = bools a ++ bools b := List.map_append ..
/-- Some list beside the cursor. -/
def LstP (cv : Value) (l : List Int) (cb lo hi : Nat) (v : Value) (new : List Ob) : Prop := ∃ L i h, (lo ≤ L.length ∧ L.length ≤ hi) ∧ (0 ≤ i ∧ i ≤ (l.length : Int)) ∧ new = [.row 3 v (ints L), .blk cb (cells3 cv i h)]
/-- Some graph, good or not, beside the cursor. -/
def AnyH (cv : Value) (l : List Int) (cb : Nat) (v : Value) (new : List Ob) : Prop := ∃ n gv rows i h, v = .agg #[.int .i64 n, gv] ∧ (0 ≤ i ∧ i ≤ (l.length : Int)) ∧ new = [.row 3 gv (ints rows), .blk cb (cells3 cv i h)]
theorem en_s_l4List : Entry Tryz.prog 49 := ⟨_, Tryz.func49, by kernel_rfl, rfl⟩
set_option maxHeartbeats 3200000 in
theorem s_l4List_c (cv gv : Value) (l : List Int) (cb : Nat) (i h n : Int) (w : World) (hcp : CodeP w cv l) (hi : 0 ≤ i ∧ i ≤ (l.length : Int)) (ho : Own w [.blk cb (cells3 cv i h)]) :
    GivesU Tryz.prog 49 #[.pointer (some ⟨cb, 0, none⟩), .agg #[.int .i64 n, gv]] w [.blk cb (cells3 cv i h)] (fun v new => LstP cv l cb 0 6 v new) := by
  have hap := code_apart hcp ho
  refine givesU_enterX (X := [cb]) (args := [_, _]) rfl ho en_s_l4List Tryz.func49 rfl Tryz.ntmps49 rfl ?_
  have hm7 : 1 ≤ max 1 (min 7 n) := by omega
  repeat' (first | apply pwp_seq | apply pwp_region | (apply px_run; (first | (apply opv_move; first | exact hid_ptr rfl) | (apply opv_assign; first | exact hid_int rfl | rfl)); rfl; rfl) | apply px_nil | apply qseq_normal | apply pwp_block | (apply px_box; rfl; rfl; rfl; rfl; intro bk) | (apply px_givesV [2]; rfl; rfl; rfl; rfl; rfl; (exact fun w' hw ho' => s_l1Below_c cv l cb _ _ 6 w' (hcp.at hap hw) (by first | assumption) ho'); rintro _ _ ⟨x, hx, rfl, ⟨ci, ch, hi, rfl⟩⟩) | (apply px_lit0 ez_int; rfl; rfl; rfl; intro sv))
  refine pwp_loop (τ := Int × Value × List Int × Int × Int) [(5,6), (10,22)] (fun x => [(5, x.2.1), (6, .int .i64 x.1)]) (fun x => Cl [cb] w [.row 3 x.2.1 (ints x.2.2.1), .blk bk [.int .i64 n, gv], .blk cb (cells3 cv x.2.2.2.1 x.2.2.2.2)])
    (fun x => (0 ≤ x.1 ∧ x.1 + (x.2.2.1.length : Int) ≤ 5) ∧ (0 ≤ x.2.2.2.1 ∧ x.2.2.2.1 ≤ (l.length : Int))) (fun x => x.1.toNat) (x, sv, [], ci, ch)
    ⟨rfl, rfl, trivial⟩ ⟨⟨by dsimp only; omega, by simp; omega⟩, by assumption⟩ (fun w' hw => (by have h := hw; exact Cl.ofSel (by assumption) (by repeat (first | exact sel_nil | refine sel_cons 0 rfl ?_ | refine sel_cons 1 rfl ?_ | refine sel_cons 2 rfl ?_ | refine sel_cons 3 rfl ?_ | refine sel_cons 4 rfl ?_ | refine sel_cons 5 rfl ?_ | refine sel_cons 6 rfl ?_ | refine sel_cons 7 rfl ?_ | refine sel_cons 8 rfl ?_ | refine sel_cons 9 rfl ?_ | refine sel_cons 10 rfl ?_ | refine sel_cons 11 rfl ?_ | refine sel_cons 12 rfl ?_ | refine sel_cons 13 rfl ?_)))) (fun J y hy => ?_)
  obtain ⟨k, lv, L, i2, h2⟩ := y
  obtain ⟨⟨v1, v2⟩, v3⟩ := hy
  dsimp only at v1 v2 v3 ⊢
  by_cases hk : 0 < k
  · repeat' (first | apply pwp_seq | apply pwp_region | (apply px_run; (first | (apply opv_max; rfl; rfl) | (apply opv_min; rfl; rfl) | (apply opv_move; first | exact hid_int rfl | exact hid_ptr rfl | rfl) | (apply opv_assign; first | exact hid_int rfl | rfl) | (apply opv_gtr <;> rfl) | (apply opv_sub_in; rfl; rfl; omega) | (apply opv_field fld_G0; rfl) | (apply opv_load_blk 1; (first | with_reducible exact sc_int); rfl; rfl; rfl)); rfl; rfl) | apply px_nil | apply qseq_normal | apply pwp_block | apply qblock_normal | apply pwp_skip | (apply pwp_cond_dec; rfl; all_goals (intro hc; try (first | contradiction))) | (apply px_givesV [2]; rfl; rfl; rfl; rfl; rfl; (exact fun w' hw ho' => s_l1Below_c cv l cb _ _ _ w' (hcp.at hap hw) (by first | assumption) ho'); rintro _ _ ⟨x, hx, rfl, ⟨ci, ch, hi, rfl⟩⟩) | (apply px_lit1 ez_int; rfl; (intro w hw; (first | rfl)); rfl; rfl; rfl; intro sv) | (apply px_append 2 ez_int; rfl; rfl; rfl; (first | exact rd_row 0 rfl); (first | (intro _ _ u hu; simp at hu; subst hu; rfl)); (simp [ints]; omega); decide; rfl; rfl; intro sv))
    refine qround_normal ?_ ⟨(k - 1, _, L ++ [x], ci, ch), ⟨rfl, rfl, trivial⟩, ⟨⟨by dsimp only; omega, by simp; omega⟩, by assumption⟩, by dsimp only; omega, fun w' hw => (by have h := hw; (try dsimp only); rw [ints_app]; exact Cl.ofSel (by assumption) (by repeat (first | exact sel_nil | refine sel_cons 0 rfl ?_ | refine sel_cons 1 rfl ?_ | refine sel_cons 2 rfl ?_ | refine sel_cons 3 rfl ?_ | refine sel_cons 4 rfl ?_ | refine sel_cons 5 rfl ?_ | refine sel_cons 6 rfl ?_ | refine sel_cons 7 rfl ?_ | refine sel_cons 8 rfl ?_ | refine sel_cons 9 rfl ?_ | refine sel_cons 10 rfl ?_ | refine sel_cons 11 rfl ?_ | refine sel_cons 12 rfl ?_ | refine sel_cons 13 rfl ?_)))⟩
    repeat (first | exact same_refl | refine same_upd rfl ?_ | refine same_junk rfl ?_)
  · repeat' (first | apply pwp_seq | apply pwp_region | (apply px_run; (first | (apply opv_move; first | exact hid_int rfl | exact hid_ptr rfl | rfl) | (apply opv_assign; first | rfl) | (apply opv_gtr <;> rfl)); rfl; rfl) | apply px_nil | apply qseq_normal | apply qseq_exit | (apply qblock_exit_same; rfl) | apply pwp_skip | apply pwp_exit | apply pwp_ret | apply qround_exit | (apply pwp_cond_dec; rfl; all_goals (intro hc; try (first | contradiction))) | (apply pwp_cond; rfl; all_goals (intro hc; try (first | fail))) | (apply px_givesV [2]; rfl; rfl; rfl; rfl; rfl; (exact fun w' hw ho' => s_l1Once_c cv l cb _ _ _ w' (hcp.at hap hw) (by first | assumption) ho'); rintro _ _ ⟨b, rfl, ⟨ci, ch, hi, rfl⟩⟩) | (apply px_lit2 ez_int; rfl; (intro w hw; rfl); rfl; (intro w hw; rfl); rfl; rfl; rfl; intro sv) | (apply px_givesV [1]; rfl; rfl; rfl; rfl; rfl; (exact fun w' hw ho' => s_l1PickInt_c cv _ l [-1, 7] cb _ _ w' (hcp.at hap hw) (by first | assumption) ho' (hw.rowArr (k := 0) rfl) (hw.rowNe 0 0 rfl rfl) (by decide)); rintro _ _ ⟨y, hy, rfl, ⟨ci, ch, hi, rfl⟩⟩) | (apply px_lit1 ez_int; rfl; (intro w hw; (first | rfl)); rfl; rfl; rfl; intro sv) | (apply px_append 3 ez_int; rfl; rfl; rfl; (first | exact rd_row 0 rfl); (first | (intro _ _ u hu; simp at hu; subst hu; rfl)); (simp [ints]; omega); decide; rfl; rfl; intro sv))
    · refine qbody_ret1 rfl rfl ⟨_, ⟨L ++ [y], ci, ch, by simp; omega, by assumption, rfl⟩, fun w' hw => (by have h := hw; (try dsimp only); rw [ints_app]; exact Cl.ofSel (by assumption) (by repeat (first | exact sel_nil | refine sel_cons 0 rfl ?_ | refine sel_cons 1 rfl ?_ | refine sel_cons 2 rfl ?_ | refine sel_cons 3 rfl ?_ | refine sel_cons 4 rfl ?_ | refine sel_cons 5 rfl ?_ | refine sel_cons 6 rfl ?_ | refine sel_cons 7 rfl ?_ | refine sel_cons 8 rfl ?_ | refine sel_cons 9 rfl ?_ | refine sel_cons 10 rfl ?_ | refine sel_cons 11 rfl ?_ | refine sel_cons 12 rfl ?_ | refine sel_cons 13 rfl ?_)))⟩
    · refine qbody_ret1 rfl rfl ⟨_, ⟨L, _, _, by omega, by assumption, rfl⟩, fun w' hw => (by have h := hw; exact Cl.ofSel (by assumption) (by repeat (first | exact sel_nil | refine sel_cons 0 rfl ?_ | refine sel_cons 1 rfl ?_ | refine sel_cons 2 rfl ?_ | refine sel_cons 3 rfl ?_ | refine sel_cons 4 rfl ?_ | refine sel_cons 5 rfl ?_ | refine sel_cons 6 rfl ?_ | refine sel_cons 7 rfl ?_ | refine sel_cons 8 rfl ?_ | refine sel_cons 9 rfl ?_ | refine sel_cons 10 rfl ?_ | refine sel_cons 11 rfl ?_ | refine sel_cons 12 rfl ?_ | refine sel_cons 13 rfl ?_)))⟩
theorem en_s_l14Permutation : Entry Tryz.prog 41 := ⟨_, Tryz.func41, by kernel_rfl, rfl⟩
set_option maxHeartbeats 3200000 in
theorem s_l14Permutation_c (cv : Value) (l : List Int) (cb : Nat) (i h : Int) (w : World) (hcp : CodeP w cv l) (hi : 0 ≤ i ∧ i ≤ (l.length : Int)) (ho : Own w [.blk cb (cells3 cv i h)]) :
    GivesU Tryz.prog 41 #[.pointer (some ⟨cb, 0, none⟩)] w [.blk cb (cells3 cv i h)] (fun v new => LstP cv l cb 1 6 v new) := by
  have hap := code_apart hcp ho
  refine givesU_enterX (X := [cb]) (args := [_]) rfl ho en_s_l14Permutation Tryz.func41 rfl Tryz.ntmps41 rfl ?_
  repeat' (first | apply pwp_seq | apply pwp_region | (apply px_run; (first | (apply opv_move; first | exact hid_ptr rfl) | (apply opv_assign; first | exact hid_int rfl | rfl) | (apply opv_add_in; rfl; rfl; omega)); rfl; rfl) | apply px_nil | apply qseq_normal | apply pwp_block | (apply px_givesV [1]; rfl; rfl; rfl; rfl; rfl; (exact fun w' hw ho' => s_l1Below_c cv l cb _ _ 6 w' (hcp.at hap hw) (by first | assumption) ho'); rintro _ _ ⟨x, hx, rfl, ⟨ci, ch, hi, rfl⟩⟩) | (apply px_lit0 ez_int; rfl; rfl; rfl; intro sv))
  refine pwp_loop (τ := Int × Value × List Int × Int × Int) [(3,5), (10,31)] (fun x => [(3, x.2.1), (4, .int .i64 x.1)]) (fun x => Cl [cb] w [.row 3 x.2.1 (ints x.2.2.1), .blk cb (cells3 cv x.2.2.2.1 x.2.2.2.2)])
    (fun x => (0 ≤ x.1 ∧ 1 ≤ x.1 + (x.2.2.1.length : Int) ∧ x.1 + (x.2.2.1.length : Int) ≤ 6) ∧ (0 ≤ x.2.2.2.1 ∧ x.2.2.2.1 ≤ (l.length : Int))) (fun x => x.1.toNat) (1 + x, sv, [], ci, ch)
    ⟨rfl, rfl, trivial⟩ ⟨⟨by dsimp only; omega, by simp; omega, by simp; omega⟩, by assumption⟩ (fun w' hw => (by have h := hw; exact Cl.ofSel (by assumption) (by repeat (first | exact sel_nil | refine sel_cons 0 rfl ?_ | refine sel_cons 1 rfl ?_ | refine sel_cons 2 rfl ?_ | refine sel_cons 3 rfl ?_ | refine sel_cons 4 rfl ?_ | refine sel_cons 5 rfl ?_ | refine sel_cons 6 rfl ?_ | refine sel_cons 7 rfl ?_ | refine sel_cons 8 rfl ?_ | refine sel_cons 9 rfl ?_ | refine sel_cons 10 rfl ?_ | refine sel_cons 11 rfl ?_ | refine sel_cons 12 rfl ?_ | refine sel_cons 13 rfl ?_)))) (fun J y hy => ?_)
  obtain ⟨k, lv, L, i2, h2⟩ := y
  obtain ⟨⟨v1, v2, v4⟩, v3⟩ := hy
  dsimp only at v1 v2 v3 v4 ⊢
  by_cases hk : 0 < k
  · repeat' (first | apply pwp_seq | apply pwp_region | (apply px_run; (first | (apply opv_move; first | exact hid_int rfl | exact hid_ptr rfl | rfl) | (apply opv_assign; first | exact hid_int rfl | rfl) | (apply opv_gtr <;> rfl) | (apply opv_add_in; rfl; rfl; omega) | (apply opv_sub_in; rfl; rfl; omega) | (apply opv_len_ints el_int; rfl; (first | exact rd_row 0 rfl)) | (apply opv_drop el_int; rfl; rfl; (first | exact rd_row 0 rfl); (first | (simp only [ints_length]; omega))) | (apply opv_take el_int; rfl; rfl; (first | exact rd_row 0 rfl); (first | (simp only [ints_length]; omega)))); rfl; rfl) | apply px_nil | apply qseq_normal | apply pwp_block | apply qblock_normal | apply pwp_skip | (apply pwp_region_any [1, 2, 3, 5, 6, 9, 10, 11] [] 6 (Cl [cb] w [.row _ lv (ints L)]); kernel_rfl; decide +kernel; exact Cl.stable _ _ _; exact fun w h => h.sub (by repeat (first | exact List.sublist_append_right _ _))) | apply qlooks_normal | (apply qstep_in; exact fun w h => h.sub (by repeat (first | exact List.sublist_append_right _ _ | apply List.Sublist.cons))) | (apply pxa_nil; decide +kernel) | (apply pxa_one 0; decide +kernel; rfl) | (apply pxa_one 4; decide +kernel; rfl) | (apply pxa_one 7; decide +kernel; rfl) | (apply pxa_one 8; decide +kernel; rfl) | (apply pxa_one 12; decide +kernel; rfl) | (apply pxa_one 13; decide +kernel; rfl) | (apply pxa_two 0 7; decide +kernel; rfl; rfl) | (apply pxa_two 4 7; decide +kernel; rfl; rfl) | (apply pwp_cond_dec; rfl; all_goals (intro hc; try (first | contradiction))) | (apply px_givesV [1]; rfl; rfl; rfl; rfl; rfl; (exact fun w' hw ho' => s_l1Below_c cv l cb _ _ _ w' (hcp.at hap hw) (by first | assumption) ho'); rintro _ _ ⟨x, hx, rfl, ⟨ci, ch, hi, rfl⟩⟩; obtain ⟨kx, rfl⟩ := Int.eq_ofNat_of_zero_le (hx.2 (by omega)).1) | (apply px_lit0 ez_int; rfl; rfl; rfl; intro sv) | (apply px_lit1 ez_int; rfl; (intro w hw; (first | rfl)); rfl; rfl; rfl; intro sv) | (apply px_append 0 ez_int; rfl; rfl; rfl; (first | exact rd_row 1 rfl | exact rd_take (rd_row 2 rfl) (by omega) | exact rd_take (rd_row 3 rfl) (by omega) | exact rd_drop_ints (rd_row 3 rfl) (by omega)); (first | exact fun _ _ => stor_ints | (intro _ _ u hu; simp at hu; subst hu; rfl)); (simp [ints]; omega); decide; rfl; rfl; intro sv) | (apply px_append 1 ez_int; rfl; rfl; rfl; (first | exact rd_row 0 rfl | exact rd_take (rd_row 3 rfl) (by omega) | exact rd_drop_ints (rd_row 3 rfl) (by omega)); (first | exact fun _ _ => stor_ints | (intro _ _ u hu; simp at hu; subst hu; rfl)); (simp [ints]; omega); decide; rfl; rfl; intro sv))
    all_goals
      refine qround_normal ?_ ⟨(k - 1, _, L.take kx ++ [(L.length : Int)] ++ L.drop kx, ci, ch), ⟨rfl, rfl, trivial⟩, ⟨⟨by dsimp only; omega, by simp; omega, by simp; omega⟩, by assumption⟩, by dsimp only; omega, fun w' hw => (by have h := hw; (try dsimp only); rw [ints_app, ints_app]; exact Cl.ofSel (by assumption) (by repeat (first | exact sel_nil | refine sel_cons 0 rfl ?_ | refine sel_cons 1 rfl ?_ | refine sel_cons 2 rfl ?_ | refine sel_cons 3 rfl ?_ | refine sel_cons 4 rfl ?_ | refine sel_cons 5 rfl ?_ | refine sel_cons 6 rfl ?_ | refine sel_cons 7 rfl ?_ | refine sel_cons 8 rfl ?_ | refine sel_cons 9 rfl ?_ | refine sel_cons 10 rfl ?_ | refine sel_cons 11 rfl ?_ | refine sel_cons 12 rfl ?_ | refine sel_cons 13 rfl ?_)))⟩
      repeat (first | exact same_refl | refine same_upd rfl ?_ | refine same_junk rfl ?_)
  · repeat' (first | apply pwp_seq | apply pwp_region | (apply px_run; (first | (apply opv_move; first | exact hid_int rfl | exact hid_ptr rfl | rfl) | (apply opv_assign; first | rfl) | (apply opv_gtr <;> rfl) | (apply opv_index_nat (vs := ints _) el_int; rfl; rfl; (first | exact rd_row 2 rfl); (first | (simp only [ints_length]; omega)))); rfl; rfl) | apply px_nil | apply qseq_normal | apply qseq_exit | (apply qblock_exit_same; rfl) | apply pwp_skip | apply pwp_exit | apply pwp_ret | apply qround_exit | (apply pwp_cond_dec; rfl; all_goals (intro hc; try (first | contradiction))) | (apply pwp_cond; rfl; all_goals (intro hc; try (first | fail))) | (apply px_givesV [1]; rfl; rfl; rfl; rfl; rfl; (exact fun w' hw ho' => s_l1Once_c cv l cb _ _ _ w' (hcp.at hap hw) (by first | assumption) ho'); rintro _ _ ⟨b, rfl, ⟨ci, ch, hi, rfl⟩⟩) | (apply px_lit3 ez_int; rfl; rfl; rfl; rfl; rfl; rfl; rfl; rfl; rfl; intro sv) | (apply px_givesV [1]; rfl; rfl; rfl; rfl; rfl; (exact fun w' hw ho' => s_l1PickInt_c cv _ l [-1, 0, 7] cb _ _ w' (hcp.at hap hw) (by first | assumption) ho' (hw.rowArr (k := 0) rfl) (hw.rowNe 0 0 rfl rfl) (by decide)); rintro _ _ ⟨y, hy, rfl, ⟨ci, ch, hi, rfl⟩⟩) | (apply px_store_int 2 co_int; rfl; rfl; rfl; (first | (simp; omega)); rfl))
    · refine qbody_ret1 rfl rfl ⟨_, ⟨L.set 0 y, _, _, by rw [List.length_set]; omega, by assumption, rfl⟩, fun w' hw => (by have h := hw; exact Cl.ofSel (by assumption) (by repeat (first | exact sel_nil | refine sel_cons 0 rfl ?_ | refine sel_cons 1 rfl ?_ | refine sel_cons 2 rfl ?_ | refine sel_cons 3 rfl ?_ | refine sel_cons 4 rfl ?_ | refine sel_cons 5 rfl ?_ | refine sel_cons 6 rfl ?_ | refine sel_cons 7 rfl ?_ | refine sel_cons 8 rfl ?_ | refine sel_cons 9 rfl ?_ | refine sel_cons 10 rfl ?_ | refine sel_cons 11 rfl ?_ | refine sel_cons 12 rfl ?_ | refine sel_cons 13 rfl ?_)))⟩
    · refine qbody_ret1 rfl rfl ⟨_, ⟨L, _, _, by omega, by assumption, rfl⟩, fun w' hw => (by have h := hw; exact Cl.ofSel (by assumption) (by repeat (first | exact sel_nil | refine sel_cons 0 rfl ?_ | refine sel_cons 1 rfl ?_ | refine sel_cons 2 rfl ?_ | refine sel_cons 3 rfl ?_ | refine sel_cons 4 rfl ?_ | refine sel_cons 5 rfl ?_ | refine sel_cons 6 rfl ?_ | refine sel_cons 7 rfl ?_ | refine sel_cons 8 rfl ?_ | refine sel_cons 9 rfl ?_ | refine sel_cons 10 rfl ?_ | refine sel_cons 11 rfl ?_ | refine sel_cons 12 rfl ?_ | refine sel_cons 13 rfl ?_)))⟩
theorem s_AddEdge_g (n : Int) (gv : Value) (rows : List Int) (v u : Nat) (w : World) (hr : Arr w gv (ints rows)) (hg : IsG n rows) (hv : (v : Int) < n) (hu : u < v) :
    Gives Tryz.prog 45 #[.agg #[.int .i64 n, gv], .int .i64 v, .int .i64 u] w (fun x objs => ∃ sv' bb rows', IsG n rows' ∧ storable sv' = true ∧ x = .tuple #[.agg #[.int .i64 n, sv'], .bool bb] ∧ objs = [.row 3 sv' (ints rows')]) := by
  obtain ⟨m, rfl, hrl, h1, h7⟩ := isG_size hg
  have hb := bits_rows hg
  rw [hrl] at hb
  have hs := bits_sym hg
  have hi := bits_irr hg
  generalize bitsP rows = P at *
  subst hb
  have := s_AddEdge3_c m gv P v u w hr h1 h7 hs hi (by omega) (by omega) (by omega)
  refine ⟨this.entry, this.out.mono fun e w' ⟨x, objs, he, ⟨sv', bb, h3, hx, ho⟩, hc⟩ => ⟨x, objs, he, ⟨sv', bb, _, gRows_isG h1 h7 (P := pairAdd P v u) (fun x y => ?_) (fun x => ?_), h3, hx, ho⟩, hc⟩⟩
  · unfold pairAdd
    rw [hs x y]
    congr 1
    rw [Bool.or_comm]
    congr 1 <;> exact decide_eq_decide.2 ⟨fun h => ⟨h.2, h.1⟩, fun h => ⟨h.2, h.1⟩⟩
  · unfold pairAdd
    rw [hi x, Bool.false_or, Bool.or_eq_false_iff]
    exact ⟨decide_eq_false fun h => by omega, decide_eq_false fun h => by omega⟩
theorem s_RemoveEdge_g (n : Int) (gv : Value) (rows : List Int) (v u : Nat) (w : World) (hr : Arr w gv (ints rows)) (hg : IsG n rows) (hv : (v : Int) < n) (hu : u < v) :
    Gives Tryz.prog 77 #[.agg #[.int .i64 n, gv], .int .i64 v, .int .i64 u] w (fun x objs => ∃ sv' bb rows', IsG n rows' ∧ storable sv' = true ∧ x = .tuple #[.agg #[.int .i64 n, sv'], .bool bb] ∧ objs = [.row 3 sv' (ints rows')]) := by
  obtain ⟨m, rfl, hrl, h1, h7⟩ := isG_size hg
  have hb := bits_rows hg
  rw [hrl] at hb
  have hs := bits_sym hg
  have hi := bits_irr hg
  generalize bitsP rows = P at *
  subst hb
  have := s_RemoveEdge_c m gv P v u w hr h1 h7 hs hi (by omega) (by omega) (by omega)
  refine ⟨this.entry, this.out.mono fun e w' ⟨x, objs, he, ⟨sv', hx, ho⟩, hc⟩ => ⟨x, objs, he, ⟨sv', P v u, _, gRows_isG h1 h7 (P := remP P v u) (fun x y => ?_) (fun x => ?_), ?_, hx, ho⟩, hc⟩⟩
  · unfold remP
    rw [hs x y]
    congr 2
    rw [Bool.or_comm]
    congr 1 <;> exact decide_eq_decide.2 ⟨fun h => ⟨h.2, h.1⟩, fun h => ⟨h.2, h.1⟩⟩
  · unfold remP
    rw [hi x, Bool.false_and]
  · subst ho
    exact stor_arr (arr_of_row (hc.holds _ (List.mem_singleton_self _)))
theorem en_s_l18Graph : Entry Tryz.prog 59 := ⟨_, Tryz.func59, by kernel_rfl, rfl⟩
set_option maxHeartbeats 3200000 in
theorem s_l18Graph_c (cv : Value) (l : List Int) (cb : Nat) (i h : Int) (w : World) (hcp : CodeP w cv l) (hi : 0 ≤ i ∧ i ≤ (l.length : Int)) (ho : Own w [.blk cb (cells3 cv i h)]) :
    GivesU Tryz.prog 59 #[.pointer (some ⟨cb, 0, none⟩)] w [.blk cb (cells3 cv i h)] (fun v new => AnyH cv l cb v new) := by
  have hap := code_apart hcp ho
  refine givesU_enterX (X := [cb]) (args := [_]) rfl ho en_s_l18Graph Tryz.func59 rfl Tryz.ntmps59 rfl ?_
  repeat' (first | apply pwp_seq | apply pwp_region | (apply px_run; (first | (apply opv_move; first | exact hid_bool rfl | exact hid_ptr rfl) | (apply opv_assign; first | exact hid_int rfl) | (apply opv_pick_t <;> rfl) | (apply opv_pick_f <;> rfl) | (apply opv_not_dec <;> rfl) | (apply opv_add_in; rfl; rfl; omega) | (apply opv_field fld_G0; rfl) | (apply opv_load_blk 1; (first | with_reducible exact sc_int); rfl; rfl; rfl) | (apply opv_load_str 0 st_G; rfl; rfl; rfl) | (apply opv_load_str 1 st_G; rfl; rfl; rfl) | (apply opv_call; rfl; rfl; exact Cl.stable _ _ _; exact fun w hw => s_IsGraph_c _ _ rows _ (by first | exact hw.rowArr (k := 1) rfl))); rfl; rfl) | apply px_nil | (apply px_skip; rfl; rfl) | apply qseq_normal | apply qseq_ret | apply pwp_block | apply pwp_skip | apply pwp_ret | (apply pwp_cond_t; rfl) | (apply px_guard_ndec; rfl; rfl; rfl; all_goals (intro hc; try (first | fail))) | (apply pwp_cond; rfl; all_goals (intro hc; try (first | fail))) | (apply px_givesV [1]; rfl; rfl; rfl; rfl; rfl; (exact fun w' hw ho' => s_l2Any_c cv l cb _ _ w' (hcp.at hap hw) (by first | assumption) ho'); rintro _ _ ⟨n, gv, rows, ci, ch, hn, hrl, hgv, rfl, hi, rfl⟩) | (apply px_givesV [2]; rfl; rfl; rfl; rfl; rfl; (exact fun w' hw ho' => s_l1Once_c cv l cb _ _ _ w' (hcp.at hap hw) (by first | assumption) ho'); rintro _ _ ⟨b, rfl, ⟨ci, ch, hi, rfl⟩⟩) | (apply px_givesV [0]; rfl; rfl; rfl; rfl; rfl; (exact fun w' hw ho' => s_l1Below_c cv l cb _ _ _ w' (hcp.at hap hw) (by first | assumption) ho'); rintro _ _ ⟨x, hx, rfl, ⟨ci, ch, hi, rfl⟩⟩) | (apply px_alloc st_G; rfl; rfl; rfl; intro bk) | (apply px_store_str 0 st_G; rfl; rfl; rfl; rfl; rfl; (intro w hw; (first | refine all2 rfl ?_ ?_) <;> (first | rfl | assumption)); rfl) | (apply px_store_str 3 st_G; rfl; rfl; rfl; rfl; rfl; (intro w hw; (first | refine all2 rfl ?_ ?_) <;> (first | rfl | assumption)); rfl))
  · first
    | refine qbody_cell 0 rfl st_G rfl rfl rfl ⟨_, ⟨n, gv, rows, ci, ch, rfl, hi, rfl⟩, fun w' hw => (by have h := hw; exact Cl.ofSel (by assumption) (by repeat (first | exact sel_nil | refine sel_cons 0 rfl ?_ | refine sel_cons 1 rfl ?_ | refine sel_cons 2 rfl ?_ | refine sel_cons 3 rfl ?_ | refine sel_cons 4 rfl ?_ | refine sel_cons 5 rfl ?_ | refine sel_cons 6 rfl ?_ | refine sel_cons 7 rfl ?_ | refine sel_cons 8 rfl ?_ | refine sel_cons 9 rfl ?_ | refine sel_cons 10 rfl ?_ | refine sel_cons 11 rfl ?_ | refine sel_cons 12 rfl ?_ | refine sel_cons 13 rfl ?_)))⟩
    | refine qbody_cell 1 rfl st_G rfl rfl rfl ⟨_, ⟨n, gv, rows, ci, ch, rfl, hi, rfl⟩, fun w' hw => (by have h := hw; exact Cl.ofSel (by assumption) (by repeat (first | exact sel_nil | refine sel_cons 0 rfl ?_ | refine sel_cons 1 rfl ?_ | refine sel_cons 2 rfl ?_ | refine sel_cons 3 rfl ?_ | refine sel_cons 4 rfl ?_ | refine sel_cons 5 rfl ?_ | refine sel_cons 6 rfl ?_ | refine sel_cons 7 rfl ?_ | refine sel_cons 8 rfl ?_ | refine sel_cons 9 rfl ?_ | refine sel_cons 10 rfl ?_ | refine sel_cons 11 rfl ?_ | refine sel_cons 12 rfl ?_ | refine sel_cons 13 rfl ?_)))⟩
    | refine qbody_cell 2 rfl st_G rfl rfl rfl ⟨_, ⟨n, gv, rows, ci, ch, rfl, hi, rfl⟩, fun w' hw => (by have h := hw; exact Cl.ofSel (by assumption) (by repeat (first | exact sel_nil | refine sel_cons 0 rfl ?_ | refine sel_cons 1 rfl ?_ | refine sel_cons 2 rfl ?_ | refine sel_cons 3 rfl ?_ | refine sel_cons 4 rfl ?_ | refine sel_cons 5 rfl ?_ | refine sel_cons 6 rfl ?_ | refine sel_cons 7 rfl ?_ | refine sel_cons 8 rfl ?_ | refine sel_cons 9 rfl ?_ | refine sel_cons 10 rfl ?_ | refine sel_cons 11 rfl ?_ | refine sel_cons 12 rfl ?_ | refine sel_cons 13 rfl ?_)))⟩
    | refine qbody_cell 3 rfl st_G rfl rfl rfl ⟨_, ⟨n, gv, rows, ci, ch, rfl, hi, rfl⟩, fun w' hw => (by have h := hw; exact Cl.ofSel (by assumption) (by repeat (first | exact sel_nil | refine sel_cons 0 rfl ?_ | refine sel_cons 1 rfl ?_ | refine sel_cons 2 rfl ?_ | refine sel_cons 3 rfl ?_ | refine sel_cons 4 rfl ?_ | refine sel_cons 5 rfl ?_ | refine sel_cons 6 rfl ?_ | refine sel_cons 7 rfl ?_ | refine sel_cons 8 rfl ?_ | refine sel_cons 9 rfl ?_ | refine sel_cons 10 rfl ?_ | refine sel_cons 11 rfl ?_ | refine sel_cons 12 rfl ?_ | refine sel_cons 13 rfl ?_)))⟩
    | refine qbody_cell 4 rfl st_G rfl rfl rfl ⟨_, ⟨n, gv, rows, ci, ch, rfl, hi, rfl⟩, fun w' hw => (by have h := hw; exact Cl.ofSel (by assumption) (by repeat (first | exact sel_nil | refine sel_cons 0 rfl ?_ | refine sel_cons 1 rfl ?_ | refine sel_cons 2 rfl ?_ | refine sel_cons 3 rfl ?_ | refine sel_cons 4 rfl ?_ | refine sel_cons 5 rfl ?_ | refine sel_cons 6 rfl ?_ | refine sel_cons 7 rfl ?_ | refine sel_cons 8 rfl ?_ | refine sel_cons 9 rfl ?_ | refine sel_cons 10 rfl ?_ | refine sel_cons 11 rfl ?_ | refine sel_cons 12 rfl ?_ | refine sel_cons 13 rfl ?_)))⟩
    | refine qbody_cell 5 rfl st_G rfl rfl rfl ⟨_, ⟨n, gv, rows, ci, ch, rfl, hi, rfl⟩, fun w' hw => (by have h := hw; exact Cl.ofSel (by assumption) (by repeat (first | exact sel_nil | refine sel_cons 0 rfl ?_ | refine sel_cons 1 rfl ?_ | refine sel_cons 2 rfl ?_ | refine sel_cons 3 rfl ?_ | refine sel_cons 4 rfl ?_ | refine sel_cons 5 rfl ?_ | refine sel_cons 6 rfl ?_ | refine sel_cons 7 rfl ?_ | refine sel_cons 8 rfl ?_ | refine sel_cons 9 rfl ?_ | refine sel_cons 10 rfl ?_ | refine sel_cons 11 rfl ?_ | refine sel_cons 12 rfl ?_ | refine sel_cons 13 rfl ?_)))⟩
    | refine qbody_cell 6 rfl st_G rfl rfl rfl ⟨_, ⟨n, gv, rows, ci, ch, rfl, hi, rfl⟩, fun w' hw => (by have h := hw; exact Cl.ofSel (by assumption) (by repeat (first | exact sel_nil | refine sel_cons 0 rfl ?_ | refine sel_cons 1 rfl ?_ | refine sel_cons 2 rfl ?_ | refine sel_cons 3 rfl ?_ | refine sel_cons 4 rfl ?_ | refine sel_cons 5 rfl ?_ | refine sel_cons 6 rfl ?_ | refine sel_cons 7 rfl ?_ | refine sel_cons 8 rfl ?_ | refine sel_cons 9 rfl ?_ | refine sel_cons 10 rfl ?_ | refine sel_cons 11 rfl ?_ | refine sel_cons 12 rfl ?_ | refine sel_cons 13 rfl ?_)))⟩
    | refine qbody_cell 7 rfl st_G rfl rfl rfl ⟨_, ⟨n, gv, rows, ci, ch, rfl, hi, rfl⟩, fun w' hw => (by have h := hw; exact Cl.ofSel (by assumption) (by repeat (first | exact sel_nil | refine sel_cons 0 rfl ?_ | refine sel_cons 1 rfl ?_ | refine sel_cons 2 rfl ?_ | refine sel_cons 3 rfl ?_ | refine sel_cons 4 rfl ?_ | refine sel_cons 5 rfl ?_ | refine sel_cons 6 rfl ?_ | refine sel_cons 7 rfl ?_ | refine sel_cons 8 rfl ?_ | refine sel_cons 9 rfl ?_ | refine sel_cons 10 rfl ?_ | refine sel_cons 11 rfl ?_ | refine sel_cons 12 rfl ?_ | refine sel_cons 13 rfl ?_)))⟩
  · first
    | refine qbody_cell 0 rfl st_G rfl rfl rfl ⟨_, ⟨n, gv, rows, ci, ch, rfl, hi, rfl⟩, fun w' hw => (by have h := hw; exact Cl.ofSel (by assumption) (by repeat (first | exact sel_nil | refine sel_cons 0 rfl ?_ | refine sel_cons 1 rfl ?_ | refine sel_cons 2 rfl ?_ | refine sel_cons 3 rfl ?_ | refine sel_cons 4 rfl ?_ | refine sel_cons 5 rfl ?_ | refine sel_cons 6 rfl ?_ | refine sel_cons 7 rfl ?_ | refine sel_cons 8 rfl ?_ | refine sel_cons 9 rfl ?_ | refine sel_cons 10 rfl ?_ | refine sel_cons 11 rfl ?_ | refine sel_cons 12 rfl ?_ | refine sel_cons 13 rfl ?_)))⟩
    | refine qbody_cell 1 rfl st_G rfl rfl rfl ⟨_, ⟨n, gv, rows, ci, ch, rfl, hi, rfl⟩, fun w' hw => (by have h := hw; exact Cl.ofSel (by assumption) (by repeat (first | exact sel_nil | refine sel_cons 0 rfl ?_ | refine sel_cons 1 rfl ?_ | refine sel_cons 2 rfl ?_ | refine sel_cons 3 rfl ?_ | refine sel_cons 4 rfl ?_ | refine sel_cons 5 rfl ?_ | refine sel_cons 6 rfl ?_ | refine sel_cons 7 rfl ?_ | refine sel_cons 8 rfl ?_ | refine sel_cons 9 rfl ?_ | refine sel_cons 10 rfl ?_ | refine sel_cons 11 rfl ?_ | refine sel_cons 12 rfl ?_ | refine sel_cons 13 rfl ?_)))⟩
    | refine qbody_cell 2 rfl st_G rfl rfl rfl ⟨_, ⟨n, gv, rows, ci, ch, rfl, hi, rfl⟩, fun w' hw => (by have h := hw; exact Cl.ofSel (by assumption) (by repeat (first | exact sel_nil | refine sel_cons 0 rfl ?_ | refine sel_cons 1 rfl ?_ | refine sel_cons 2 rfl ?_ | refine sel_cons 3 rfl ?_ | refine sel_cons 4 rfl ?_ | refine sel_cons 5 rfl ?_ | refine sel_cons 6 rfl ?_ | refine sel_cons 7 rfl ?_ | refine sel_cons 8 rfl ?_ | refine sel_cons 9 rfl ?_ | refine sel_cons 10 rfl ?_ | refine sel_cons 11 rfl ?_ | refine sel_cons 12 rfl ?_ | refine sel_cons 13 rfl ?_)))⟩
    | refine qbody_cell 3 rfl st_G rfl rfl rfl ⟨_, ⟨n, gv, rows, ci, ch, rfl, hi, rfl⟩, fun w' hw => (by have h := hw; exact Cl.ofSel (by assumption) (by repeat (first | exact sel_nil | refine sel_cons 0 rfl ?_ | refine sel_cons 1 rfl ?_ | refine sel_cons 2 rfl ?_ | refine sel_cons 3 rfl ?_ | refine sel_cons 4 rfl ?_ | refine sel_cons 5 rfl ?_ | refine sel_cons 6 rfl ?_ | refine sel_cons 7 rfl ?_ | refine sel_cons 8 rfl ?_ | refine sel_cons 9 rfl ?_ | refine sel_cons 10 rfl ?_ | refine sel_cons 11 rfl ?_ | refine sel_cons 12 rfl ?_ | refine sel_cons 13 rfl ?_)))⟩
    | refine qbody_cell 4 rfl st_G rfl rfl rfl ⟨_, ⟨n, gv, rows, ci, ch, rfl, hi, rfl⟩, fun w' hw => (by have h := hw; exact Cl.ofSel (by assumption) (by repeat (first | exact sel_nil | refine sel_cons 0 rfl ?_ | refine sel_cons 1 rfl ?_ | refine sel_cons 2 rfl ?_ | refine sel_cons 3 rfl ?_ | refine sel_cons 4 rfl ?_ | refine sel_cons 5 rfl ?_ | refine sel_cons 6 rfl ?_ | refine sel_cons 7 rfl ?_ | refine sel_cons 8 rfl ?_ | refine sel_cons 9 rfl ?_ | refine sel_cons 10 rfl ?_ | refine sel_cons 11 rfl ?_ | refine sel_cons 12 rfl ?_ | refine sel_cons 13 rfl ?_)))⟩
    | refine qbody_cell 5 rfl st_G rfl rfl rfl ⟨_, ⟨n, gv, rows, ci, ch, rfl, hi, rfl⟩, fun w' hw => (by have h := hw; exact Cl.ofSel (by assumption) (by repeat (first | exact sel_nil | refine sel_cons 0 rfl ?_ | refine sel_cons 1 rfl ?_ | refine sel_cons 2 rfl ?_ | refine sel_cons 3 rfl ?_ | refine sel_cons 4 rfl ?_ | refine sel_cons 5 rfl ?_ | refine sel_cons 6 rfl ?_ | refine sel_cons 7 rfl ?_ | refine sel_cons 8 rfl ?_ | refine sel_cons 9 rfl ?_ | refine sel_cons 10 rfl ?_ | refine sel_cons 11 rfl ?_ | refine sel_cons 12 rfl ?_ | refine sel_cons 13 rfl ?_)))⟩
    | refine qbody_cell 6 rfl st_G rfl rfl rfl ⟨_, ⟨n, gv, rows, ci, ch, rfl, hi, rfl⟩, fun w' hw => (by have h := hw; exact Cl.ofSel (by assumption) (by repeat (first | exact sel_nil | refine sel_cons 0 rfl ?_ | refine sel_cons 1 rfl ?_ | refine sel_cons 2 rfl ?_ | refine sel_cons 3 rfl ?_ | refine sel_cons 4 rfl ?_ | refine sel_cons 5 rfl ?_ | refine sel_cons 6 rfl ?_ | refine sel_cons 7 rfl ?_ | refine sel_cons 8 rfl ?_ | refine sel_cons 9 rfl ?_ | refine sel_cons 10 rfl ?_ | refine sel_cons 11 rfl ?_ | refine sel_cons 12 rfl ?_ | refine sel_cons 13 rfl ?_)))⟩
    | refine qbody_cell 7 rfl st_G rfl rfl rfl ⟨_, ⟨n, gv, rows, ci, ch, rfl, hi, rfl⟩, fun w' hw => (by have h := hw; exact Cl.ofSel (by assumption) (by repeat (first | exact sel_nil | refine sel_cons 0 rfl ?_ | refine sel_cons 1 rfl ?_ | refine sel_cons 2 rfl ?_ | refine sel_cons 3 rfl ?_ | refine sel_cons 4 rfl ?_ | refine sel_cons 5 rfl ?_ | refine sel_cons 6 rfl ?_ | refine sel_cons 7 rfl ?_ | refine sel_cons 8 rfl ?_ | refine sel_cons 9 rfl ?_ | refine sel_cons 10 rfl ?_ | refine sel_cons 11 rfl ?_ | refine sel_cons 12 rfl ?_ | refine sel_cons 13 rfl ?_)))⟩
  rename_i i0 b2 c1 d1 e1 hgG c2 d2 e2
  refine pwp_loop (τ := Nat × Value × List Int) [(5,6), (22,52)] (fun y => [(5, .int .i64 (y.1 : Nat))]) (fun y => Cl [cb] w [.blk cb (cells3 cv ci ch), .blk bk [.int .i64 n, y.2.1], .row 3 y.2.1 (ints y.2.2), .blk b2 [.int .i64 0, .slice none 0 0]])
    (fun y => (y.1 : Int) ≤ n ∧ IsG n y.2.2 ∧ storable y.2.1 = true) (fun y => n.toNat - y.1) (0, gv, rows)
    ⟨rfl, trivial⟩ ⟨by have := hgG.1; dsimp only; omega, hgG, hgv⟩ (fun w' hw => (by have h := hw; exact Cl.ofSel (by assumption) (by repeat (first | exact sel_nil | refine sel_cons 0 rfl ?_ | refine sel_cons 1 rfl ?_ | refine sel_cons 2 rfl ?_ | refine sel_cons 3 rfl ?_ | refine sel_cons 4 rfl ?_ | refine sel_cons 5 rfl ?_ | refine sel_cons 6 rfl ?_ | refine sel_cons 7 rfl ?_ | refine sel_cons 8 rfl ?_ | refine sel_cons 9 rfl ?_ | refine sel_cons 10 rfl ?_ | refine sel_cons 11 rfl ?_ | refine sel_cons 12 rfl ?_ | refine sel_cons 13 rfl ?_)))) (fun J y hy => ?_)
  obtain ⟨v, g1, r1⟩ := y
  obtain ⟨v1, v2, v3⟩ := hy
  dsimp only at v1 v2 v3 ⊢
  by_cases hvn : (v : Int) < n
  · repeat' (first | apply pwp_seq | apply pwp_region | (apply px_run; (first | (apply opv_move; first | exact hid_int rfl) | (apply opv_assign; first | exact hid_int rfl) | (apply opv_lss <;> rfl) | (apply opv_field fld_G0; rfl) | (apply opv_load_blk 1; (first | with_reducible exact sc_int); rfl; rfl; rfl)); rfl; rfl) | apply px_nil | apply qseq_normal | apply pwp_block | apply pwp_skip | (apply pwp_cond_dec; rfl; all_goals (intro hc; try (first | contradiction))))
    refine pwp_loop (τ := Nat × Value × List Int) [(6,6), (28,52)] (fun y => [(6, .int .i64 (y.1 : Nat))]) (fun y => Cl [cb] w [.blk cb (cells3 cv ci ch), .blk bk [.int .i64 n, y.2.1], .row 3 y.2.1 (ints y.2.2), .blk b2 [.int .i64 0, .slice none 0 0]])
      (fun y => y.1 ≤ v ∧ IsG n y.2.2 ∧ storable y.2.1 = true) (fun y => v - y.1) (0, g1, r1)
      ⟨rfl, trivial⟩ ⟨Nat.zero_le _, v2, v3⟩ (fun w' hw => (by have h := hw; exact Cl.ofSel (by assumption) (by repeat (first | exact sel_nil | refine sel_cons 0 rfl ?_ | refine sel_cons 1 rfl ?_ | refine sel_cons 2 rfl ?_ | refine sel_cons 3 rfl ?_ | refine sel_cons 4 rfl ?_ | refine sel_cons 5 rfl ?_ | refine sel_cons 6 rfl ?_ | refine sel_cons 7 rfl ?_ | refine sel_cons 8 rfl ?_ | refine sel_cons 9 rfl ?_ | refine sel_cons 10 rfl ?_ | refine sel_cons 11 rfl ?_ | refine sel_cons 12 rfl ?_ | refine sel_cons 13 rfl ?_)))) (fun J2 y hy => ?_)
    obtain ⟨u, g2, r2⟩ := y
    obtain ⟨u1, u2, u3⟩ := hy
    dsimp only at u1 u2 u3 ⊢
    by_cases huv : u < v
    · have kA := fun w' ha => s_AddEdge_g n g2 r2 v u w' ha u2 hvn huv
      have kR := fun w' ha => s_RemoveEdge_g n g2 r2 v u w' ha u2 hvn huv
      repeat' (first | apply pwp_seq | apply pwp_region | (apply px_run; (first | (apply opv_move; first | exact hid_int rfl | rfl) | (apply opv_assign; first | exact hid_int rfl) | (apply opv_lss <;> rfl) | (apply opv_geq <;> rfl) | (apply opv_add_in; rfl; rfl; omega) | (apply opv_load_str 1 st_G; rfl; rfl; rfl) | (apply opv_extract; rfl; rfl)); rfl; rfl) | apply px_nil | apply qseq_normal | apply pwp_block | apply qblock_normal | apply pwp_skip | (apply pwp_cond_dec; rfl; all_goals (intro hc; try (first | (exfalso; omega)))) | (apply px_store_str 2 st_G; rfl; rfl; rfl; rfl; rfl; (intro w hw; (first | refine all2 rfl ?_ ?_) <;> (first | rfl | assumption)); rfl) | (apply px_gives; rfl; rfl; rfl; rfl; rfl; exact fun w hw => kA _ (by first | exact hw.rowArr (k := 2) rfl); rintro _ _ ⟨sc, bb, r3, hg3, hsc, rfl, rfl⟩) | (apply px_gives; rfl; rfl; rfl; rfl; rfl; exact fun w hw => kR _ (by first | exact hw.rowArr (k := 2) rfl); rintro _ _ ⟨sc, bb, r3, hg3, hsc, rfl, rfl⟩))
      all_goals first
        | (refine qround_normal ?_ ⟨(u + 1, g2, r2), ⟨rfl, trivial⟩, ⟨by dsimp only; omega, u2, u3⟩, by dsimp only; omega, fun w' hw => ?_⟩
           rotate_left
           (refine Cl.ofSel hw ?_)
           (repeat (first | exact sel_nil | refine sel_cons 0 rfl ?_ | refine sel_cons 1 rfl ?_ | refine sel_cons 2 rfl ?_ | refine sel_cons 3 rfl ?_ | refine sel_cons 4 rfl ?_ | refine sel_cons 5 rfl ?_ | refine sel_cons 6 rfl ?_ | refine sel_cons 7 rfl ?_ | refine sel_cons 8 rfl ?_))
           (repeat (first | exact same_refl | refine same_upd rfl ?_ | refine same_junk rfl ?_))
           done)
        | (refine qround_normal ?_ ⟨(u + 1, sc, r3), ⟨rfl, trivial⟩, ⟨by dsimp only; omega, hg3, hsc⟩, by dsimp only; omega, fun w' hw => ?_⟩
           rotate_left
           (refine Cl.ofSel hw ?_)
           (repeat (first | exact sel_nil | refine sel_cons 0 rfl ?_ | refine sel_cons 1 rfl ?_ | refine sel_cons 2 rfl ?_ | refine sel_cons 3 rfl ?_ | refine sel_cons 4 rfl ?_ | refine sel_cons 5 rfl ?_ | refine sel_cons 6 rfl ?_ | refine sel_cons 7 rfl ?_ | refine sel_cons 8 rfl ?_))
           (repeat (first | exact same_refl | refine same_upd rfl ?_ | refine same_junk rfl ?_))
           done)
    · obtain rfl : u = v := by omega
      repeat' (first | apply pwp_seq | apply pwp_region | (apply px_run; (first | (apply opv_move; first | exact hid_int rfl) | (apply opv_assign; first | exact hid_int rfl) | (apply opv_lss <;> rfl) | (apply opv_add_in; rfl; rfl; omega)); rfl; rfl) | apply px_nil | apply qseq_normal | apply qseq_exit | apply qblock_normal | (apply qblock_exit_same; rfl) | apply pwp_exit | apply qround_exit | (apply pwp_cond_dec; rfl; all_goals (intro hc; try (first | (exfalso; omega)))))
      refine qround_normal ?_ ⟨(u + 1, g2, r2), ⟨rfl, trivial⟩, ⟨by dsimp only; omega, u2, u3⟩, by dsimp only; omega, fun w' hw => (by have h := hw; exact Cl.ofSel (by assumption) (by repeat (first | exact sel_nil | refine sel_cons 0 rfl ?_ | refine sel_cons 1 rfl ?_ | refine sel_cons 2 rfl ?_ | refine sel_cons 3 rfl ?_ | refine sel_cons 4 rfl ?_ | refine sel_cons 5 rfl ?_ | refine sel_cons 6 rfl ?_ | refine sel_cons 7 rfl ?_ | refine sel_cons 8 rfl ?_ | refine sel_cons 9 rfl ?_ | refine sel_cons 10 rfl ?_ | refine sel_cons 11 rfl ?_ | refine sel_cons 12 rfl ?_ | refine sel_cons 13 rfl ?_)))⟩
      repeat (first | exact same_refl | refine same_upd rfl ?_ | refine same_junk rfl ?_)
  · repeat' (first | apply pwp_seq | apply pwp_region | (apply px_run; (first | (apply opv_move; first | exact hid_int rfl) | (apply opv_lss <;> rfl) | (apply opv_field fld_G0; rfl) | (apply opv_load_blk 1; (first | with_reducible exact sc_int); rfl; rfl; rfl) | (apply opv_load_str 1 st_G; rfl; rfl; rfl)); rfl; rfl) | apply px_nil | apply qseq_normal | apply qseq_exit | (apply qblock_exit_same; rfl) | apply pwp_exit | apply pwp_ret | apply qround_exit | (apply pwp_cond_dec; rfl; all_goals (intro hc; try (first | contradiction))) | (apply px_store_str 3 st_G; rfl; rfl; rfl; rfl; rfl; (intro w hw; (first | refine all2 rfl ?_ ?_) <;> (first | rfl | assumption)); rfl))
    first
      | refine qbody_cell 0 rfl st_G rfl rfl rfl ⟨_, ⟨n, g1, r1, ci, ch, rfl, hi, rfl⟩, fun w' hw => (by have h := hw; exact Cl.ofSel (by assumption) (by repeat (first | exact sel_nil | refine sel_cons 0 rfl ?_ | refine sel_cons 1 rfl ?_ | refine sel_cons 2 rfl ?_ | refine sel_cons 3 rfl ?_ | refine sel_cons 4 rfl ?_ | refine sel_cons 5 rfl ?_ | refine sel_cons 6 rfl ?_ | refine sel_cons 7 rfl ?_ | refine sel_cons 8 rfl ?_ | refine sel_cons 9 rfl ?_ | refine sel_cons 10 rfl ?_ | refine sel_cons 11 rfl ?_ | refine sel_cons 12 rfl ?_ | refine sel_cons 13 rfl ?_)))⟩
      | refine qbody_cell 1 rfl st_G rfl rfl rfl ⟨_, ⟨n, g1, r1, ci, ch, rfl, hi, rfl⟩, fun w' hw => (by have h := hw; exact Cl.ofSel (by assumption) (by repeat (first | exact sel_nil | refine sel_cons 0 rfl ?_ | refine sel_cons 1 rfl ?_ | refine sel_cons 2 rfl ?_ | refine sel_cons 3 rfl ?_ | refine sel_cons 4 rfl ?_ | refine sel_cons 5 rfl ?_ | refine sel_cons 6 rfl ?_ | refine sel_cons 7 rfl ?_ | refine sel_cons 8 rfl ?_ | refine sel_cons 9 rfl ?_ | refine sel_cons 10 rfl ?_ | refine sel_cons 11 rfl ?_ | refine sel_cons 12 rfl ?_ | refine sel_cons 13 rfl ?_)))⟩
      | refine qbody_cell 2 rfl st_G rfl rfl rfl ⟨_, ⟨n, g1, r1, ci, ch, rfl, hi, rfl⟩, fun w' hw => (by have h := hw; exact Cl.ofSel (by assumption) (by repeat (first | exact sel_nil | refine sel_cons 0 rfl ?_ | refine sel_cons 1 rfl ?_ | refine sel_cons 2 rfl ?_ | refine sel_cons 3 rfl ?_ | refine sel_cons 4 rfl ?_ | refine sel_cons 5 rfl ?_ | refine sel_cons 6 rfl ?_ | refine sel_cons 7 rfl ?_ | refine sel_cons 8 rfl ?_ | refine sel_cons 9 rfl ?_ | refine sel_cons 10 rfl ?_ | refine sel_cons 11 rfl ?_ | refine sel_cons 12 rfl ?_ | refine sel_cons 13 rfl ?_)))⟩
      | refine qbody_cell 3 rfl st_G rfl rfl rfl ⟨_, ⟨n, g1, r1, ci, ch, rfl, hi, rfl⟩, fun w' hw => (by have h := hw; exact Cl.ofSel (by assumption) (by repeat (first | exact sel_nil | refine sel_cons 0 rfl ?_ | refine sel_cons 1 rfl ?_ | refine sel_cons 2 rfl ?_ | refine sel_cons 3 rfl ?_ | refine sel_cons 4 rfl ?_ | refine sel_cons 5 rfl ?_ | refine sel_cons 6 rfl ?_ | refine sel_cons 7 rfl ?_ | refine sel_cons 8 rfl ?_ | refine sel_cons 9 rfl ?_ | refine sel_cons 10 rfl ?_ | refine sel_cons 11 rfl ?_ | refine sel_cons 12 rfl ?_ | refine sel_cons 13 rfl ?_)))⟩
      | refine qbody_cell 4 rfl st_G rfl rfl rfl ⟨_, ⟨n, g1, r1, ci, ch, rfl, hi, rfl⟩, fun w' hw => (by have h := hw; exact Cl.ofSel (by assumption) (by repeat (first | exact sel_nil | refine sel_cons 0 rfl ?_ | refine sel_cons 1 rfl ?_ | refine sel_cons 2 rfl ?_ | refine sel_cons 3 rfl ?_ | refine sel_cons 4 rfl ?_ | refine sel_cons 5 rfl ?_ | refine sel_cons 6 rfl ?_ | refine sel_cons 7 rfl ?_ | refine sel_cons 8 rfl ?_ | refine sel_cons 9 rfl ?_ | refine sel_cons 10 rfl ?_ | refine sel_cons 11 rfl ?_ | refine sel_cons 12 rfl ?_ | refine sel_cons 13 rfl ?_)))⟩
      | refine qbody_cell 5 rfl st_G rfl rfl rfl ⟨_, ⟨n, g1, r1, ci, ch, rfl, hi, rfl⟩, fun w' hw => (by have h := hw; exact Cl.ofSel (by assumption) (by repeat (first | exact sel_nil | refine sel_cons 0 rfl ?_ | refine sel_cons 1 rfl ?_ | refine sel_cons 2 rfl ?_ | refine sel_cons 3 rfl ?_ | refine sel_cons 4 rfl ?_ | refine sel_cons 5 rfl ?_ | refine sel_cons 6 rfl ?_ | refine sel_cons 7 rfl ?_ | refine sel_cons 8 rfl ?_ | refine sel_cons 9 rfl ?_ | refine sel_cons 10 rfl ?_ | refine sel_cons 11 rfl ?_ | refine sel_cons 12 rfl ?_ | refine sel_cons 13 rfl ?_)))⟩
      | refine qbody_cell 6 rfl st_G rfl rfl rfl ⟨_, ⟨n, g1, r1, ci, ch, rfl, hi, rfl⟩, fun w' hw => (by have h := hw; exact Cl.ofSel (by assumption) (by repeat (first | exact sel_nil | refine sel_cons 0 rfl ?_ | refine sel_cons 1 rfl ?_ | refine sel_cons 2 rfl ?_ | refine sel_cons 3 rfl ?_ | refine sel_cons 4 rfl ?_ | refine sel_cons 5 rfl ?_ | refine sel_cons 6 rfl ?_ | refine sel_cons 7 rfl ?_ | refine sel_cons 8 rfl ?_ | refine sel_cons 9 rfl ?_ | refine sel_cons 10 rfl ?_ | refine sel_cons 11 rfl ?_ | refine sel_cons 12 rfl ?_ | refine sel_cons 13 rfl ?_)))⟩
      | refine qbody_cell 7 rfl st_G rfl rfl rfl ⟨_, ⟨n, g1, r1, ci, ch, rfl, hi, rfl⟩, fun w' hw => (by have h := hw; exact Cl.ofSel (by assumption) (by repeat (first | exact sel_nil | refine sel_cons 0 rfl ?_ | refine sel_cons 1 rfl ?_ | refine sel_cons 2 rfl ?_ | refine sel_cons 3 rfl ?_ | refine sel_cons 4 rfl ?_ | refine sel_cons 5 rfl ?_ | refine sel_cons 6 rfl ?_ | refine sel_cons 7 rfl ?_ | refine sel_cons 8 rfl ?_ | refine sel_cons 9 rfl ?_ | refine sel_cons 10 rfl ?_ | refine sel_cons 11 rfl ?_ | refine sel_cons 12 rfl ?_ | refine sel_cons 13 rfl ?_)))⟩
theorem en_s_l19Graph : Entry Tryz.prog 27 := ⟨_, Tryz.func27, by kernel_rfl, rfl⟩
set_option maxHeartbeats 3200000 in
theorem s_l19Graph_c (cv : Value) (l : List Int) (cb : Nat) (i h : Int) (w : World) (hcp : CodeP w cv l) (hi : 0 ≤ i ∧ i ≤ (l.length : Int)) (ho : Own w [.blk cb (cells3 cv i h)]) :
    GivesU Tryz.prog 27 #[.pointer (some ⟨cb, 0, none⟩)] w [.blk cb (cells3 cv i h)] (fun v new => AnyH cv l cb v new) := by
  have hap := code_apart hcp ho
  refine givesU_enterX (X := [cb]) (args := [_]) rfl ho en_s_l19Graph Tryz.func27 rfl Tryz.ntmps27 rfl ?_
  repeat' (first | apply pwp_seq | apply pwp_region | (apply px_run; (first | (apply opv_move; first | exact hid_ptr rfl) | (apply opv_assign; first | exact hid_int rfl | rfl)); rfl; rfl) | apply px_nil | apply qseq_normal | apply qseq_ret | apply pwp_block | apply pwp_skip | apply pwp_ret | (apply pwp_cond; rfl; all_goals (intro hc; try (first | fail))) | (apply px_givesV [1]; rfl; rfl; rfl; rfl; rfl; (exact fun w' hw ho' => s_l1Once_c cv l cb _ _ _ w' (hcp.at hap hw) (by first | assumption) ho'); rintro _ _ ⟨b, rfl, ⟨ci, ch, hi, rfl⟩⟩) | (apply px_givesV [0]; rfl; rfl; rfl; rfl; rfl; (exact fun w' hw ho' => s_l18Graph_c cv l cb _ _ w' (hcp.at hap hw) (by first | assumption) ho'); rintro _ _ ⟨n, gv, rows, ci, ch, rfl, hi, rfl⟩) | (apply px_givesV [0]; rfl; rfl; rfl; rfl; rfl; (exact fun w' hw ho' => s_l14Permutation_c cv l cb _ _ w' (hcp.at hap hw) (by first | assumption) ho'); rintro _ _ ⟨pL, ci, ch, hpl, hi, rfl⟩; rename_i pv) | (apply px_alloc st_G; rfl; rfl; rfl; intro bk) | (apply px_store_str 2 st_G; rfl; rfl; rfl; rfl; rfl; (intro w hw; (first | refine all2 rfl ?_ ?_) <;> (first | rfl | exact stor_row 0 hw rfl)); rfl) | (apply px_lit0 ez_bool; rfl; rfl; rfl; intro sv))
  · first
    | refine qbody_cell 0 rfl st_G rfl rfl rfl ⟨_, ⟨n, gv, rows, ci, ch, rfl, hi, rfl⟩, fun w' hw => (by have h := hw; exact Cl.ofSel (by assumption) (by repeat (first | exact sel_nil | refine sel_cons 0 rfl ?_ | refine sel_cons 1 rfl ?_ | refine sel_cons 2 rfl ?_ | refine sel_cons 3 rfl ?_ | refine sel_cons 4 rfl ?_ | refine sel_cons 5 rfl ?_ | refine sel_cons 6 rfl ?_ | refine sel_cons 7 rfl ?_ | refine sel_cons 8 rfl ?_ | refine sel_cons 9 rfl ?_ | refine sel_cons 10 rfl ?_ | refine sel_cons 11 rfl ?_ | refine sel_cons 12 rfl ?_ | refine sel_cons 13 rfl ?_)))⟩
    | refine qbody_cell 1 rfl st_G rfl rfl rfl ⟨_, ⟨n, gv, rows, ci, ch, rfl, hi, rfl⟩, fun w' hw => (by have h := hw; exact Cl.ofSel (by assumption) (by repeat (first | exact sel_nil | refine sel_cons 0 rfl ?_ | refine sel_cons 1 rfl ?_ | refine sel_cons 2 rfl ?_ | refine sel_cons 3 rfl ?_ | refine sel_cons 4 rfl ?_ | refine sel_cons 5 rfl ?_ | refine sel_cons 6 rfl ?_ | refine sel_cons 7 rfl ?_ | refine sel_cons 8 rfl ?_ | refine sel_cons 9 rfl ?_ | refine sel_cons 10 rfl ?_ | refine sel_cons 11 rfl ?_ | refine sel_cons 12 rfl ?_ | refine sel_cons 13 rfl ?_)))⟩
    | refine qbody_cell 2 rfl st_G rfl rfl rfl ⟨_, ⟨n, gv, rows, ci, ch, rfl, hi, rfl⟩, fun w' hw => (by have h := hw; exact Cl.ofSel (by assumption) (by repeat (first | exact sel_nil | refine sel_cons 0 rfl ?_ | refine sel_cons 1 rfl ?_ | refine sel_cons 2 rfl ?_ | refine sel_cons 3 rfl ?_ | refine sel_cons 4 rfl ?_ | refine sel_cons 5 rfl ?_ | refine sel_cons 6 rfl ?_ | refine sel_cons 7 rfl ?_ | refine sel_cons 8 rfl ?_ | refine sel_cons 9 rfl ?_ | refine sel_cons 10 rfl ?_ | refine sel_cons 11 rfl ?_ | refine sel_cons 12 rfl ?_ | refine sel_cons 13 rfl ?_)))⟩
    | refine qbody_cell 3 rfl st_G rfl rfl rfl ⟨_, ⟨n, gv, rows, ci, ch, rfl, hi, rfl⟩, fun w' hw => (by have h := hw; exact Cl.ofSel (by assumption) (by repeat (first | exact sel_nil | refine sel_cons 0 rfl ?_ | refine sel_cons 1 rfl ?_ | refine sel_cons 2 rfl ?_ | refine sel_cons 3 rfl ?_ | refine sel_cons 4 rfl ?_ | refine sel_cons 5 rfl ?_ | refine sel_cons 6 rfl ?_ | refine sel_cons 7 rfl ?_ | refine sel_cons 8 rfl ?_ | refine sel_cons 9 rfl ?_ | refine sel_cons 10 rfl ?_ | refine sel_cons 11 rfl ?_ | refine sel_cons 12 rfl ?_ | refine sel_cons 13 rfl ?_)))⟩
    | refine qbody_cell 4 rfl st_G rfl rfl rfl ⟨_, ⟨n, gv, rows, ci, ch, rfl, hi, rfl⟩, fun w' hw => (by have h := hw; exact Cl.ofSel (by assumption) (by repeat (first | exact sel_nil | refine sel_cons 0 rfl ?_ | refine sel_cons 1 rfl ?_ | refine sel_cons 2 rfl ?_ | refine sel_cons 3 rfl ?_ | refine sel_cons 4 rfl ?_ | refine sel_cons 5 rfl ?_ | refine sel_cons 6 rfl ?_ | refine sel_cons 7 rfl ?_ | refine sel_cons 8 rfl ?_ | refine sel_cons 9 rfl ?_ | refine sel_cons 10 rfl ?_ | refine sel_cons 11 rfl ?_ | refine sel_cons 12 rfl ?_ | refine sel_cons 13 rfl ?_)))⟩
    | refine qbody_cell 5 rfl st_G rfl rfl rfl ⟨_, ⟨n, gv, rows, ci, ch, rfl, hi, rfl⟩, fun w' hw => (by have h := hw; exact Cl.ofSel (by assumption) (by repeat (first | exact sel_nil | refine sel_cons 0 rfl ?_ | refine sel_cons 1 rfl ?_ | refine sel_cons 2 rfl ?_ | refine sel_cons 3 rfl ?_ | refine sel_cons 4 rfl ?_ | refine sel_cons 5 rfl ?_ | refine sel_cons 6 rfl ?_ | refine sel_cons 7 rfl ?_ | refine sel_cons 8 rfl ?_ | refine sel_cons 9 rfl ?_ | refine sel_cons 10 rfl ?_ | refine sel_cons 11 rfl ?_ | refine sel_cons 12 rfl ?_ | refine sel_cons 13 rfl ?_)))⟩
    | refine qbody_cell 6 rfl st_G rfl rfl rfl ⟨_, ⟨n, gv, rows, ci, ch, rfl, hi, rfl⟩, fun w' hw => (by have h := hw; exact Cl.ofSel (by assumption) (by repeat (first | exact sel_nil | refine sel_cons 0 rfl ?_ | refine sel_cons 1 rfl ?_ | refine sel_cons 2 rfl ?_ | refine sel_cons 3 rfl ?_ | refine sel_cons 4 rfl ?_ | refine sel_cons 5 rfl ?_ | refine sel_cons 6 rfl ?_ | refine sel_cons 7 rfl ?_ | refine sel_cons 8 rfl ?_ | refine sel_cons 9 rfl ?_ | refine sel_cons 10 rfl ?_ | refine sel_cons 11 rfl ?_ | refine sel_cons 12 rfl ?_ | refine sel_cons 13 rfl ?_)))⟩
    | refine qbody_cell 7 rfl st_G rfl rfl rfl ⟨_, ⟨n, gv, rows, ci, ch, rfl, hi, rfl⟩, fun w' hw => (by have h := hw; exact Cl.ofSel (by assumption) (by repeat (first | exact sel_nil | refine sel_cons 0 rfl ?_ | refine sel_cons 1 rfl ?_ | refine sel_cons 2 rfl ?_ | refine sel_cons 3 rfl ?_ | refine sel_cons 4 rfl ?_ | refine sel_cons 5 rfl ?_ | refine sel_cons 6 rfl ?_ | refine sel_cons 7 rfl ?_ | refine sel_cons 8 rfl ?_ | refine sel_cons 9 rfl ?_ | refine sel_cons 10 rfl ?_ | refine sel_cons 11 rfl ?_ | refine sel_cons 12 rfl ?_ | refine sel_cons 13 rfl ?_)))⟩
  refine pwp_loop (τ := Nat × Value × List Bool × Int × Int) [(4,5), (15,25)] (fun y => [(4, y.2.1), (5, .int .i64 (y.1 : Nat))]) (fun y => Cl [cb] w [.row 4 y.2.1 (bools y.2.2.1), .row 3 pv (ints pL), .blk cb (cells3 cv y.2.2.2.1 y.2.2.2.2), .blk bk [.int .i64 0, .slice none 0 0]])
    (fun y => (y.1 ≤ pL.length ∧ y.2.2.1.length ≤ y.1) ∧ (0 ≤ y.2.2.2.1 ∧ y.2.2.2.1 ≤ (l.length : Int))) (fun y => pL.length - y.1) (0, sv, [], ci, ch)
    ⟨rfl, rfl, trivial⟩ ⟨⟨Nat.zero_le _, Nat.le_refl _⟩, hi⟩ (fun w' hw => (by have h := hw; exact Cl.ofSel (by assumption) (by repeat (first | exact sel_nil | refine sel_cons 0 rfl ?_ | refine sel_cons 1 rfl ?_ | refine sel_cons 2 rfl ?_ | refine sel_cons 3 rfl ?_ | refine sel_cons 4 rfl ?_ | refine sel_cons 5 rfl ?_ | refine sel_cons 6 rfl ?_ | refine sel_cons 7 rfl ?_ | refine sel_cons 8 rfl ?_ | refine sel_cons 9 rfl ?_ | refine sel_cons 10 rfl ?_ | refine sel_cons 11 rfl ?_ | refine sel_cons 12 rfl ?_ | refine sel_cons 13 rfl ?_)))) (fun J y hy => ?_)
  obtain ⟨k, jv, jL, i2, h2⟩ := y
  obtain ⟨⟨v1, v2⟩, v3⟩ := hy
  dsimp only at v1 v2 v3 ⊢
  by_cases hk : k < pL.length
  · repeat' (first | apply pwp_seq | apply pwp_region | (apply px_run; (first | (apply opv_move; first | exact hid_int rfl | exact hid_ptr rfl | rfl) | (apply opv_assign; first | exact hid_int rfl | rfl) | (apply opv_lss <;> rfl) | (apply opv_add_in; rfl; rfl; omega) | (apply opv_len_ints el_int; rfl; (first | exact rd_row 1 rfl))); rfl; rfl) | apply px_nil | apply qseq_normal | apply pwp_block | apply qblock_normal | apply pwp_skip | (apply pwp_cond_dec; rfl; all_goals (intro hc; try (first | (exfalso; omega)))) | (apply px_givesV [2]; rfl; rfl; rfl; rfl; rfl; (exact fun w' hw ho' => s_l1Once_c cv l cb _ _ _ w' (hcp.at hap hw) (by first | assumption) ho'); rintro _ _ ⟨b, rfl, ⟨ci, ch, hi, rfl⟩⟩) | (apply px_lit1 ez_bool; rfl; (intro w hw; (first | rfl)); rfl; rfl; rfl; intro sv) | (apply px_append 2 ez_bool; rfl; rfl; rfl; (first | exact rd_row 0 rfl); (first | (intro _ _ u hu; simp at hu; subst hu; rfl)); (simp [bools]; omega); decide; rfl; rfl; intro sv))
    refine qround_normal ?_ ⟨(k + 1, _, jL ++ [b], ci, ch), ⟨rfl, rfl, trivial⟩, ⟨⟨by dsimp only; omega, by simp; omega⟩, hi⟩, by dsimp only; omega, fun w' hw => (by have h := hw; (try dsimp only); rw [bools_app]; exact Cl.ofSel (by assumption) (by repeat (first | exact sel_nil | refine sel_cons 0 rfl ?_ | refine sel_cons 1 rfl ?_ | refine sel_cons 2 rfl ?_ | refine sel_cons 3 rfl ?_ | refine sel_cons 4 rfl ?_ | refine sel_cons 5 rfl ?_ | refine sel_cons 6 rfl ?_ | refine sel_cons 7 rfl ?_ | refine sel_cons 8 rfl ?_ | refine sel_cons 9 rfl ?_ | refine sel_cons 10 rfl ?_ | refine sel_cons 11 rfl ?_ | refine sel_cons 12 rfl ?_ | refine sel_cons 13 rfl ?_)))⟩
    repeat (first | exact same_refl | refine same_upd rfl ?_ | refine same_junk rfl ?_)
  · repeat' (first | apply pwp_seq | apply pwp_region | (apply px_run; (first | (apply opv_move; first | exact hid_int rfl | rfl) | (apply opv_assign; first | exact hid_bool rfl) | (apply opv_lss <;> rfl) | (apply opv_len_ints el_int; rfl; (first | exact rd_row 1 rfl)) | (apply opv_load_str 0 st_G; rfl; rfl; rfl) | (apply opv_extract; rfl; rfl)); rfl; rfl) | apply px_nil | apply qseq_normal | apply qseq_exit | (apply qblock_exit_same; rfl) | apply pwp_exit | apply pwp_ret | apply qround_exit | (apply pwp_cond_dec; rfl; all_goals (intro hc; try (first | (exfalso; omega)))) | (apply px_alloc st_G; rfl; rfl; rfl; intro bk) | (apply px_store_str 0 st_G; rfl; rfl; rfl; rfl; rfl; (intro w hw; (first | refine all2 rfl ?_ ?_) <;> (first | rfl | exact stor_row 1 hw rfl)); rfl) | (apply px_store_str 5 st_G; rfl; rfl; rfl; rfl; rfl; (intro w hw; (first | refine all2 rfl ?_ ?_) <;> (first | rfl | exact stor_row 1 hw rfl)); rfl) | (apply px_gives; rfl; rfl; rfl; rfl; rfl; exact fun w hw => s_GraphOfThreshold_c _ _ pL jL _ (by first | exact hw.rowArr (k := 1) rfl) (by first | exact hw.rowArr (k := 0) rfl); rintro _ _ ⟨sg, rfl, rfl⟩))
    first
      | refine qbody_cell 0 rfl st_G rfl rfl rfl ⟨_, ⟨_, _, _, i2, h2, rfl, v3, rfl⟩, fun w' hw => (by have h := hw; exact Cl.ofSel (by assumption) (by repeat (first | exact sel_nil | refine sel_cons 0 rfl ?_ | refine sel_cons 1 rfl ?_ | refine sel_cons 2 rfl ?_ | refine sel_cons 3 rfl ?_ | refine sel_cons 4 rfl ?_ | refine sel_cons 5 rfl ?_ | refine sel_cons 6 rfl ?_ | refine sel_cons 7 rfl ?_ | refine sel_cons 8 rfl ?_ | refine sel_cons 9 rfl ?_ | refine sel_cons 10 rfl ?_ | refine sel_cons 11 rfl ?_ | refine sel_cons 12 rfl ?_ | refine sel_cons 13 rfl ?_)))⟩
      | refine qbody_cell 1 rfl st_G rfl rfl rfl ⟨_, ⟨_, _, _, i2, h2, rfl, v3, rfl⟩, fun w' hw => (by have h := hw; exact Cl.ofSel (by assumption) (by repeat (first | exact sel_nil | refine sel_cons 0 rfl ?_ | refine sel_cons 1 rfl ?_ | refine sel_cons 2 rfl ?_ | refine sel_cons 3 rfl ?_ | refine sel_cons 4 rfl ?_ | refine sel_cons 5 rfl ?_ | refine sel_cons 6 rfl ?_ | refine sel_cons 7 rfl ?_ | refine sel_cons 8 rfl ?_ | refine sel_cons 9 rfl ?_ | refine sel_cons 10 rfl ?_ | refine sel_cons 11 rfl ?_ | refine sel_cons 12 rfl ?_ | refine sel_cons 13 rfl ?_)))⟩
      | refine qbody_cell 2 rfl st_G rfl rfl rfl ⟨_, ⟨_, _, _, i2, h2, rfl, v3, rfl⟩, fun w' hw => (by have h := hw; exact Cl.ofSel (by assumption) (by repeat (first | exact sel_nil | refine sel_cons 0 rfl ?_ | refine sel_cons 1 rfl ?_ | refine sel_cons 2 rfl ?_ | refine sel_cons 3 rfl ?_ | refine sel_cons 4 rfl ?_ | refine sel_cons 5 rfl ?_ | refine sel_cons 6 rfl ?_ | refine sel_cons 7 rfl ?_ | refine sel_cons 8 rfl ?_ | refine sel_cons 9 rfl ?_ | refine sel_cons 10 rfl ?_ | refine sel_cons 11 rfl ?_ | refine sel_cons 12 rfl ?_ | refine sel_cons 13 rfl ?_)))⟩
      | refine qbody_cell 3 rfl st_G rfl rfl rfl ⟨_, ⟨_, _, _, i2, h2, rfl, v3, rfl⟩, fun w' hw => (by have h := hw; exact Cl.ofSel (by assumption) (by repeat (first | exact sel_nil | refine sel_cons 0 rfl ?_ | refine sel_cons 1 rfl ?_ | refine sel_cons 2 rfl ?_ | refine sel_cons 3 rfl ?_ | refine sel_cons 4 rfl ?_ | refine sel_cons 5 rfl ?_ | refine sel_cons 6 rfl ?_ | refine sel_cons 7 rfl ?_ | refine sel_cons 8 rfl ?_ | refine sel_cons 9 rfl ?_ | refine sel_cons 10 rfl ?_ | refine sel_cons 11 rfl ?_ | refine sel_cons 12 rfl ?_ | refine sel_cons 13 rfl ?_)))⟩
      | refine qbody_cell 4 rfl st_G rfl rfl rfl ⟨_, ⟨_, _, _, i2, h2, rfl, v3, rfl⟩, fun w' hw => (by have h := hw; exact Cl.ofSel (by assumption) (by repeat (first | exact sel_nil | refine sel_cons 0 rfl ?_ | refine sel_cons 1 rfl ?_ | refine sel_cons 2 rfl ?_ | refine sel_cons 3 rfl ?_ | refine sel_cons 4 rfl ?_ | refine sel_cons 5 rfl ?_ | refine sel_cons 6 rfl ?_ | refine sel_cons 7 rfl ?_ | refine sel_cons 8 rfl ?_ | refine sel_cons 9 rfl ?_ | refine sel_cons 10 rfl ?_ | refine sel_cons 11 rfl ?_ | refine sel_cons 12 rfl ?_ | refine sel_cons 13 rfl ?_)))⟩
      | refine qbody_cell 5 rfl st_G rfl rfl rfl ⟨_, ⟨_, _, _, i2, h2, rfl, v3, rfl⟩, fun w' hw => (by have h := hw; exact Cl.ofSel (by assumption) (by repeat (first | exact sel_nil | refine sel_cons 0 rfl ?_ | refine sel_cons 1 rfl ?_ | refine sel_cons 2 rfl ?_ | refine sel_cons 3 rfl ?_ | refine sel_cons 4 rfl ?_ | refine sel_cons 5 rfl ?_ | refine sel_cons 6 rfl ?_ | refine sel_cons 7 rfl ?_ | refine sel_cons 8 rfl ?_ | refine sel_cons 9 rfl ?_ | refine sel_cons 10 rfl ?_ | refine sel_cons 11 rfl ?_ | refine sel_cons 12 rfl ?_ | refine sel_cons 13 rfl ?_)))⟩
      | refine qbody_cell 6 rfl st_G rfl rfl rfl ⟨_, ⟨_, _, _, i2, h2, rfl, v3, rfl⟩, fun w' hw => (by have h := hw; exact Cl.ofSel (by assumption) (by repeat (first | exact sel_nil | refine sel_cons 0 rfl ?_ | refine sel_cons 1 rfl ?_ | refine sel_cons 2 rfl ?_ | refine sel_cons 3 rfl ?_ | refine sel_cons 4 rfl ?_ | refine sel_cons 5 rfl ?_ | refine sel_cons 6 rfl ?_ | refine sel_cons 7 rfl ?_ | refine sel_cons 8 rfl ?_ | refine sel_cons 9 rfl ?_ | refine sel_cons 10 rfl ?_ | refine sel_cons 11 rfl ?_ | refine sel_cons 12 rfl ?_ | refine sel_cons 13 rfl ?_)))⟩
      | refine qbody_cell 7 rfl st_G rfl rfl rfl ⟨_, ⟨_, _, _, i2, h2, rfl, v3, rfl⟩, fun w' hw => (by have h := hw; exact Cl.ofSel (by assumption) (by repeat (first | exact sel_nil | refine sel_cons 0 rfl ?_ | refine sel_cons 1 rfl ?_ | refine sel_cons 2 rfl ?_ | refine sel_cons 3 rfl ?_ | refine sel_cons 4 rfl ?_ | refine sel_cons 5 rfl ?_ | refine sel_cons 6 rfl ?_ | refine sel_cons 7 rfl ?_ | refine sel_cons 8 rfl ?_ | refine sel_cons 9 rfl ?_ | refine sel_cons 10 rfl ?_ | refine sel_cons 11 rfl ?_ | refine sel_cons 12 rfl ?_ | refine sel_cons 13 rfl ?_)))⟩
theorem en_s_DrawThresholdOrder : Entry Tryz.prog 5 := ⟨_, Tryz.func5, by kernel_rfl, rfl⟩
theorem s_DrawThresholdOrder_c (cv : Value) (l : List Int) (w : World) (hcp : CodeP w cv l) :
    Gives Tryz.prog 5 #[cv] w (fun v objs => ∃ n gv rows, v = .agg #[.int .i64 n, gv] ∧ objs = [.row 3 gv (ints rows)]) := by
  refine gives_enter (args := [_]) en_s_DrawThresholdOrder Tryz.func5 rfl Tryz.ntmps5 rfl ?_
  have hap := nox (cv := cv) (l := l)
  repeat' (first | apply pwp_seq | apply pwp_region | (apply px_run; (first | (apply opv_move; first | rfl)); rfl; rfl) | apply px_nil | apply qseq_normal | apply pwp_ret | (apply px_givesV [0]; rfl; rfl; rfl; rfl; rfl; (exact fun w' hw ho' => s_l19Graph_c cv l cb _ _ w' (hcp.at hap hw) (by first | exact ⟨by omega, by omega⟩) ho'); rintro _ _ ⟨n, gv, rows, ci, ch, rfl, hi, rfl⟩) | (apply px_alloc st_G; rfl; rfl; rfl; intro bk) | (apply px_store_str 2 st_G; rfl; rfl; rfl; rfl; rfl; (intro w hw; (first | refine all2 rfl ?_ ?_) <;> (first | rfl | exact stor_row 0 hw rfl)); rfl) | (apply px_gives; rfl; rfl; rfl; rfl; rfl; exact fun w hw => s_l1New_c cv l _ (hcp.at hap hw); rintro _ _ ⟨cb, h, rfl, rfl⟩))
  first
    | refine qbody_cell 0 rfl st_G rfl rfl rfl ⟨_, ⟨n, gv, rows, rfl, rfl⟩, fun w' hw => (by have h := hw; exact Cl.ofSel (by assumption) (by repeat (first | exact sel_nil | refine sel_cons 0 rfl ?_ | refine sel_cons 1 rfl ?_ | refine sel_cons 2 rfl ?_ | refine sel_cons 3 rfl ?_ | refine sel_cons 4 rfl ?_ | refine sel_cons 5 rfl ?_ | refine sel_cons 6 rfl ?_ | refine sel_cons 7 rfl ?_ | refine sel_cons 8 rfl ?_ | refine sel_cons 9 rfl ?_ | refine sel_cons 10 rfl ?_ | refine sel_cons 11 rfl ?_ | refine sel_cons 12 rfl ?_ | refine sel_cons 13 rfl ?_)))⟩
    | refine qbody_cell 1 rfl st_G rfl rfl rfl ⟨_, ⟨n, gv, rows, rfl, rfl⟩, fun w' hw => (by have h := hw; exact Cl.ofSel (by assumption) (by repeat (first | exact sel_nil | refine sel_cons 0 rfl ?_ | refine sel_cons 1 rfl ?_ | refine sel_cons 2 rfl ?_ | refine sel_cons 3 rfl ?_ | refine sel_cons 4 rfl ?_ | refine sel_cons 5 rfl ?_ | refine sel_cons 6 rfl ?_ | refine sel_cons 7 rfl ?_ | refine sel_cons 8 rfl ?_ | refine sel_cons 9 rfl ?_ | refine sel_cons 10 rfl ?_ | refine sel_cons 11 rfl ?_ | refine sel_cons 12 rfl ?_ | refine sel_cons 13 rfl ?_)))⟩
    | refine qbody_cell 2 rfl st_G rfl rfl rfl ⟨_, ⟨n, gv, rows, rfl, rfl⟩, fun w' hw => (by have h := hw; exact Cl.ofSel (by assumption) (by repeat (first | exact sel_nil | refine sel_cons 0 rfl ?_ | refine sel_cons 1 rfl ?_ | refine sel_cons 2 rfl ?_ | refine sel_cons 3 rfl ?_ | refine sel_cons 4 rfl ?_ | refine sel_cons 5 rfl ?_ | refine sel_cons 6 rfl ?_ | refine sel_cons 7 rfl ?_ | refine sel_cons 8 rfl ?_ | refine sel_cons 9 rfl ?_ | refine sel_cons 10 rfl ?_ | refine sel_cons 11 rfl ?_ | refine sel_cons 12 rfl ?_ | refine sel_cons 13 rfl ?_)))⟩
    | refine qbody_cell 3 rfl st_G rfl rfl rfl ⟨_, ⟨n, gv, rows, rfl, rfl⟩, fun w' hw => (by have h := hw; exact Cl.ofSel (by assumption) (by repeat (first | exact sel_nil | refine sel_cons 0 rfl ?_ | refine sel_cons 1 rfl ?_ | refine sel_cons 2 rfl ?_ | refine sel_cons 3 rfl ?_ | refine sel_cons 4 rfl ?_ | refine sel_cons 5 rfl ?_ | refine sel_cons 6 rfl ?_ | refine sel_cons 7 rfl ?_ | refine sel_cons 8 rfl ?_ | refine sel_cons 9 rfl ?_ | refine sel_cons 10 rfl ?_ | refine sel_cons 11 rfl ?_ | refine sel_cons 12 rfl ?_ | refine sel_cons 13 rfl ?_)))⟩
    | refine qbody_cell 4 rfl st_G rfl rfl rfl ⟨_, ⟨n, gv, rows, rfl, rfl⟩, fun w' hw => (by have h := hw; exact Cl.ofSel (by assumption) (by repeat (first | exact sel_nil | refine sel_cons 0 rfl ?_ | refine sel_cons 1 rfl ?_ | refine sel_cons 2 rfl ?_ | refine sel_cons 3 rfl ?_ | refine sel_cons 4 rfl ?_ | refine sel_cons 5 rfl ?_ | refine sel_cons 6 rfl ?_ | refine sel_cons 7 rfl ?_ | refine sel_cons 8 rfl ?_ | refine sel_cons 9 rfl ?_ | refine sel_cons 10 rfl ?_ | refine sel_cons 11 rfl ?_ | refine sel_cons 12 rfl ?_ | refine sel_cons 13 rfl ?_)))⟩
    | refine qbody_cell 5 rfl st_G rfl rfl rfl ⟨_, ⟨n, gv, rows, rfl, rfl⟩, fun w' hw => (by have h := hw; exact Cl.ofSel (by assumption) (by repeat (first | exact sel_nil | refine sel_cons 0 rfl ?_ | refine sel_cons 1 rfl ?_ | refine sel_cons 2 rfl ?_ | refine sel_cons 3 rfl ?_ | refine sel_cons 4 rfl ?_ | refine sel_cons 5 rfl ?_ | refine sel_cons 6 rfl ?_ | refine sel_cons 7 rfl ?_ | refine sel_cons 8 rfl ?_ | refine sel_cons 9 rfl ?_ | refine sel_cons 10 rfl ?_ | refine sel_cons 11 rfl ?_ | refine sel_cons 12 rfl ?_ | refine sel_cons 13 rfl ?_)))⟩
    | refine qbody_cell 6 rfl st_G rfl rfl rfl ⟨_, ⟨n, gv, rows, rfl, rfl⟩, fun w' hw => (by have h := hw; exact Cl.ofSel (by assumption) (by repeat (first | exact sel_nil | refine sel_cons 0 rfl ?_ | refine sel_cons 1 rfl ?_ | refine sel_cons 2 rfl ?_ | refine sel_cons 3 rfl ?_ | refine sel_cons 4 rfl ?_ | refine sel_cons 5 rfl ?_ | refine sel_cons 6 rfl ?_ | refine sel_cons 7 rfl ?_ | refine sel_cons 8 rfl ?_ | refine sel_cons 9 rfl ?_ | refine sel_cons 10 rfl ?_ | refine sel_cons 11 rfl ?_ | refine sel_cons 12 rfl ?_ | refine sel_cons 13 rfl ?_)))⟩
theorem en_s_DrawThresholdObstacle : Entry Tryz.prog 19 := ⟨_, Tryz.func19, by kernel_rfl, rfl⟩
theorem s_DrawThresholdObstacle_c (cv : Value) (l : List Int) (w : World) (hcp : CodeP w cv l) :
    Gives Tryz.prog 19 #[cv] w (fun v objs => ∃ n gv rows, v = .agg #[.int .i64 n, gv] ∧ objs = [.row 3 gv (ints rows)]) := by
  refine gives_enter (args := [_]) en_s_DrawThresholdObstacle Tryz.func19 rfl Tryz.ntmps19 rfl ?_
  have hap := nox (cv := cv) (l := l)
  repeat' (first | apply pwp_seq | apply pwp_region | (apply px_run; (first | (apply opv_move; first | rfl)); rfl; rfl) | apply px_nil | apply qseq_normal | apply pwp_ret | (apply px_givesV [0]; rfl; rfl; rfl; rfl; rfl; (exact fun w' hw ho' => s_l19Graph_c cv l cb _ _ w' (hcp.at hap hw) (by first | exact ⟨by omega, by omega⟩) ho'); rintro _ _ ⟨n, gv, rows, ci, ch, rfl, hi, rfl⟩) | (apply px_alloc st_G; rfl; rfl; rfl; intro bk) | (apply px_store_str 2 st_G; rfl; rfl; rfl; rfl; rfl; (intro w hw; (first | refine all2 rfl ?_ ?_) <;> (first | rfl | exact stor_row 0 hw rfl)); rfl) | (apply px_gives; rfl; rfl; rfl; rfl; rfl; exact fun w hw => s_l1New_c cv l _ (hcp.at hap hw); rintro _ _ ⟨cb, h, rfl, rfl⟩))
  first
    | refine qbody_cell 0 rfl st_G rfl rfl rfl ⟨_, ⟨n, gv, rows, rfl, rfl⟩, fun w' hw => (by have h := hw; exact Cl.ofSel (by assumption) (by repeat (first | exact sel_nil | refine sel_cons 0 rfl ?_ | refine sel_cons 1 rfl ?_ | refine sel_cons 2 rfl ?_ | refine sel_cons 3 rfl ?_ | refine sel_cons 4 rfl ?_ | refine sel_cons 5 rfl ?_ | refine sel_cons 6 rfl ?_ | refine sel_cons 7 rfl ?_ | refine sel_cons 8 rfl ?_ | refine sel_cons 9 rfl ?_ | refine sel_cons 10 rfl ?_ | refine sel_cons 11 rfl ?_ | refine sel_cons 12 rfl ?_ | refine sel_cons 13 rfl ?_)))⟩
    | refine qbody_cell 1 rfl st_G rfl rfl rfl ⟨_, ⟨n, gv, rows, rfl, rfl⟩, fun w' hw => (by have h := hw; exact Cl.ofSel (by assumption) (by repeat (first | exact sel_nil | refine sel_cons 0 rfl ?_ | refine sel_cons 1 rfl ?_ | refine sel_cons 2 rfl ?_ | refine sel_cons 3 rfl ?_ | refine sel_cons 4 rfl ?_ | refine sel_cons 5 rfl ?_ | refine sel_cons 6 rfl ?_ | refine sel_cons 7 rfl ?_ | refine sel_cons 8 rfl ?_ | refine sel_cons 9 rfl ?_ | refine sel_cons 10 rfl ?_ | refine sel_cons 11 rfl ?_ | refine sel_cons 12 rfl ?_ | refine sel_cons 13 rfl ?_)))⟩
    | refine qbody_cell 2 rfl st_G rfl rfl rfl ⟨_, ⟨n, gv, rows, rfl, rfl⟩, fun w' hw => (by have h := hw; exact Cl.ofSel (by assumption) (by repeat (first | exact sel_nil | refine sel_cons 0 rfl ?_ | refine sel_cons 1 rfl ?_ | refine sel_cons 2 rfl ?_ | refine sel_cons 3 rfl ?_ | refine sel_cons 4 rfl ?_ | refine sel_cons 5 rfl ?_ | refine sel_cons 6 rfl ?_ | refine sel_cons 7 rfl ?_ | refine sel_cons 8 rfl ?_ | refine sel_cons 9 rfl ?_ | refine sel_cons 10 rfl ?_ | refine sel_cons 11 rfl ?_ | refine sel_cons 12 rfl ?_ | refine sel_cons 13 rfl ?_)))⟩
    | refine qbody_cell 3 rfl st_G rfl rfl rfl ⟨_, ⟨n, gv, rows, rfl, rfl⟩, fun w' hw => (by have h := hw; exact Cl.ofSel (by assumption) (by repeat (first | exact sel_nil | refine sel_cons 0 rfl ?_ | refine sel_cons 1 rfl ?_ | refine sel_cons 2 rfl ?_ | refine sel_cons 3 rfl ?_ | refine sel_cons 4 rfl ?_ | refine sel_cons 5 rfl ?_ | refine sel_cons 6 rfl ?_ | refine sel_cons 7 rfl ?_ | refine sel_cons 8 rfl ?_ | refine sel_cons 9 rfl ?_ | refine sel_cons 10 rfl ?_ | refine sel_cons 11 rfl ?_ | refine sel_cons 12 rfl ?_ | refine sel_cons 13 rfl ?_)))⟩
    | refine qbody_cell 4 rfl st_G rfl rfl rfl ⟨_, ⟨n, gv, rows, rfl, rfl⟩, fun w' hw => (by have h := hw; exact Cl.ofSel (by assumption) (by repeat (first | exact sel_nil | refine sel_cons 0 rfl ?_ | refine sel_cons 1 rfl ?_ | refine sel_cons 2 rfl ?_ | refine sel_cons 3 rfl ?_ | refine sel_cons 4 rfl ?_ | refine sel_cons 5 rfl ?_ | refine sel_cons 6 rfl ?_ | refine sel_cons 7 rfl ?_ | refine sel_cons 8 rfl ?_ | refine sel_cons 9 rfl ?_ | refine sel_cons 10 rfl ?_ | refine sel_cons 11 rfl ?_ | refine sel_cons 12 rfl ?_ | refine sel_cons 13 rfl ?_)))⟩
    | refine qbody_cell 5 rfl st_G rfl rfl rfl ⟨_, ⟨n, gv, rows, rfl, rfl⟩, fun w' hw => (by have h := hw; exact Cl.ofSel (by assumption) (by repeat (first | exact sel_nil | refine sel_cons 0 rfl ?_ | refine sel_cons 1 rfl ?_ | refine sel_cons 2 rfl ?_ | refine sel_cons 3 rfl ?_ | refine sel_cons 4 rfl ?_ | refine sel_cons 5 rfl ?_ | refine sel_cons 6 rfl ?_ | refine sel_cons 7 rfl ?_ | refine sel_cons 8 rfl ?_ | refine sel_cons 9 rfl ?_ | refine sel_cons 10 rfl ?_ | refine sel_cons 11 rfl ?_ | refine sel_cons 12 rfl ?_ | refine sel_cons 13 rfl ?_)))⟩
    | refine qbody_cell 6 rfl st_G rfl rfl rfl ⟨_, ⟨n, gv, rows, rfl, rfl⟩, fun w' hw => (by have h := hw; exact Cl.ofSel (by assumption) (by repeat (first | exact sel_nil | refine sel_cons 0 rfl ?_ | refine sel_cons 1 rfl ?_ | refine sel_cons 2 rfl ?_ | refine sel_cons 3 rfl ?_ | refine sel_cons 4 rfl ?_ | refine sel_cons 5 rfl ?_ | refine sel_cons 6 rfl ?_ | refine sel_cons 7 rfl ?_ | refine sel_cons 8 rfl ?_ | refine sel_cons 9 rfl ?_ | refine sel_cons 10 rfl ?_ | refine sel_cons 11 rfl ?_ | refine sel_cons 12 rfl ?_ | refine sel_cons 13 rfl ?_)))⟩
theorem en_s_DrawGraphOfThreshold : Entry Tryz.prog 17 := ⟨_, Tryz.func17, by kernel_rfl, rfl⟩
set_option maxHeartbeats 3200000 in
theorem s_DrawGraphOfThreshold_c (cv : Value) (l : List Int) (w : World) (hcp : CodeP w cv l) :
    Gives Tryz.prog 17 #[cv] w (fun v objs => ∃ pv pL jv jL, v = .tuple #[pv, jv] ∧ objs = [.row 3 pv (ints pL), .row 4 jv (bools jL)]) := by
  refine gives_enter (args := [_]) en_s_DrawGraphOfThreshold Tryz.func17 rfl Tryz.ntmps17 rfl ?_
  have hap := nox (cv := cv) (l := l)
  repeat' (first | apply pwp_seq | apply pwp_region | (apply px_run; (first | (apply opv_move; first | exact hid_ptr rfl | rfl) | (apply opv_assign; first | exact hid_int rfl | exact hid_ptr rfl | rfl) | (apply opv_mul <;> rfl)); rfl; rfl) | apply px_nil | apply qseq_normal | apply pwp_block | (apply px_givesV [0]; rfl; rfl; rfl; rfl; rfl; (exact fun w' hw ho' => s_l14Permutation_c cv l cb _ _ w' (hcp.at hap hw) (by first | exact ⟨by omega, by omega⟩) ho'); rintro _ _ ⟨pL, ci, ch, hpl, hi, rfl⟩; rename_i pv) | (apply px_givesV [0]; rfl; rfl; rfl; rfl; rfl; (exact fun w' hw ho' => s_l1Below_c cv l cb _ _ 2 w' (hcp.at hap hw) (by first | assumption) ho'); rintro _ _ ⟨x, hx, rfl, ⟨ci, ch, hi, rfl⟩⟩) | (apply px_givesV [2]; rfl; rfl; rfl; rfl; rfl; (exact fun w' hw ho' => s_l1Below_c cv l cb _ _ 2 w' (hcp.at hap hw) (by first | assumption) ho'); rintro _ _ ⟨x, hx, rfl, ⟨ci, ch, hi, rfl⟩⟩) | (apply px_lit0 ez_bool; rfl; rfl; rfl; intro sv) | (apply px_gives; rfl; rfl; rfl; rfl; rfl; exact fun w hw => s_l1New_c cv l _ (hcp.at hap hw); rintro _ _ ⟨cb, h, rfl, rfl⟩))
  rename_i x1 hx1 _ _ _
  have hm : ∃ m : Nat, m ≤ 1 ∧ w64 (x1 * x) = (m : Int) := by
    have h1 : x1 = 0 ∨ x1 = 1 := by omega
    have h2 : x = 0 ∨ x = 1 := by omega
    rcases h1 with rfl | rfl <;> rcases h2 with rfl | rfl
    · exact ⟨0, by omega, by decide⟩
    · exact ⟨0, by omega, by decide⟩
    · exact ⟨0, by omega, by decide⟩
    · exact ⟨1, by omega, by decide⟩
  obtain ⟨m, hm1, hm2⟩ := hm
  refine pwp_loop (τ := Nat × Value × List Bool × Int × Int) [(6,7), (18,28)] (fun y => [(6, y.2.1), (7, .int .i64 (y.1 : Nat))]) (fun y => Cl [] w [.row 4 y.2.1 (bools y.2.2.1), .row 3 pv (ints pL), .blk cb (cells3 cv y.2.2.2.1 y.2.2.2.2)])
    (fun y => (y.1 ≤ pL.length ∧ y.2.2.1.length ≤ y.1) ∧ (0 ≤ y.2.2.2.1 ∧ y.2.2.2.1 ≤ (l.length : Int))) (fun y => pL.length - y.1) (m, sv, [], ci, ch)
    ⟨rfl, (by show Value.int .i64 (w64 (x1 * x)) = _; rw [hm2]), trivial⟩ ⟨⟨by dsimp only; omega, Nat.zero_le _⟩, hi⟩ (fun w' hw => (by have h := hw; exact Cl.ofSel (by assumption) (by repeat (first | exact sel_nil | refine sel_cons 0 rfl ?_ | refine sel_cons 1 rfl ?_ | refine sel_cons 2 rfl ?_ | refine sel_cons 3 rfl ?_ | refine sel_cons 4 rfl ?_ | refine sel_cons 5 rfl ?_ | refine sel_cons 6 rfl ?_ | refine sel_cons 7 rfl ?_ | refine sel_cons 8 rfl ?_ | refine sel_cons 9 rfl ?_ | refine sel_cons 10 rfl ?_ | refine sel_cons 11 rfl ?_ | refine sel_cons 12 rfl ?_ | refine sel_cons 13 rfl ?_)))) (fun J y hy => ?_)
  obtain ⟨k, jv, jL, i2, h2⟩ := y
  obtain ⟨⟨v1, v2⟩, v3⟩ := hy
  dsimp only at v1 v2 v3 ⊢
  by_cases hk : k < pL.length
  · repeat' (first | apply pwp_seq | apply pwp_region | (apply px_run; (first | (apply opv_move; first | exact hid_int rfl | exact hid_ptr rfl | rfl) | (apply opv_assign; first | exact hid_int rfl | rfl) | (apply opv_lss <;> rfl) | (apply opv_add_in; rfl; rfl; omega) | (apply opv_len_ints el_int; rfl; (first | exact rd_row 1 rfl))); rfl; rfl) | apply px_nil | apply qseq_normal | apply pwp_block | apply qblock_normal | apply pwp_skip | (apply pwp_cond_dec; rfl; all_goals (intro hc; try (first | (exfalso; omega)))) | (apply px_givesV [2]; rfl; rfl; rfl; rfl; rfl; (exact fun w' hw ho' => s_l1Once_c cv l cb _ _ _ w' (hcp.at hap hw) (by first | assumption) ho'); rintro _ _ ⟨b, rfl, ⟨ci, ch, hi, rfl⟩⟩) | (apply px_lit1 ez_bool; rfl; (intro w hw; (first | rfl)); rfl; rfl; rfl; intro sv) | (apply px_append 2 ez_bool; rfl; rfl; rfl; (first | exact rd_row 0 rfl); (first | (intro _ _ u hu; simp at hu; subst hu; rfl)); (simp [bools]; omega); decide; rfl; rfl; intro sv))
    refine qround_normal ?_ ⟨(k + 1, _, jL ++ [b], ci, ch), ⟨rfl, rfl, trivial⟩, ⟨⟨by dsimp only; omega, by simp; omega⟩, hi⟩, by dsimp only; omega, fun w' hw => (by have h := hw; (try dsimp only); rw [bools_app]; exact Cl.ofSel (by assumption) (by repeat (first | exact sel_nil | refine sel_cons 0 rfl ?_ | refine sel_cons 1 rfl ?_ | refine sel_cons 2 rfl ?_ | refine sel_cons 3 rfl ?_ | refine sel_cons 4 rfl ?_ | refine sel_cons 5 rfl ?_ | refine sel_cons 6 rfl ?_ | refine sel_cons 7 rfl ?_ | refine sel_cons 8 rfl ?_ | refine sel_cons 9 rfl ?_ | refine sel_cons 10 rfl ?_ | refine sel_cons 11 rfl ?_ | refine sel_cons 12 rfl ?_ | refine sel_cons 13 rfl ?_)))⟩
    repeat (first | exact same_refl | refine same_upd rfl ?_ | refine same_junk rfl ?_)
  · repeat' (first | apply pwp_seq | apply pwp_region | (apply px_run; (first | (apply opv_move; first | exact hid_int rfl | rfl) | (apply opv_assign; first | rfl) | (apply opv_lss <;> rfl) | (apply opv_len_ints el_int; rfl; (first | exact rd_row 1 rfl))); rfl; rfl) | apply px_nil | apply qseq_normal | apply qseq_exit | (apply qblock_exit_same; rfl) | apply pwp_exit | apply pwp_ret | apply qround_exit | (apply pwp_cond_dec; rfl; all_goals (intro hc; try (first | (exfalso; omega)))))
    refine qbody_ret2 (v := pv) (v' := jv) rfl rfl rfl ⟨_, ⟨pv, pL, jv, jL, rfl, rfl⟩, fun w' hw => (by have h := hw; exact Cl.ofSel (by assumption) (by repeat (first | exact sel_nil | refine sel_cons 0 rfl ?_ | refine sel_cons 1 rfl ?_ | refine sel_cons 2 rfl ?_ | refine sel_cons 3 rfl ?_ | refine sel_cons 4 rfl ?_ | refine sel_cons 5 rfl ?_ | refine sel_cons 6 rfl ?_ | refine sel_cons 7 rfl ?_ | refine sel_cons 8 rfl ?_ | refine sel_cons 9 rfl ?_ | refine sel_cons 10 rfl ?_ | refine sel_cons 11 rfl ?_ | refine sel_cons 12 rfl ?_ | refine sel_cons 13 rfl ?_)))⟩
theorem en_s_DrawAreThresholdWeights : Entry Tryz.prog 22 := ⟨_, Tryz.func22, by kernel_rfl, rfl⟩
set_option maxHeartbeats 3200000 in
theorem s_DrawAreThresholdWeights_c (cv : Value) (l : List Int) (w : World) (hcp : CodeP w cv l) :
    Gives Tryz.prog 22 #[cv] w (fun v objs => ∃ n gv rows lv L t, v = .tuple #[.agg #[.int .i64 n, gv], lv, .int .i64 t] ∧ objs = [.row 3 gv (ints rows), .row 3 lv (ints L)]) := by
  refine gives_enter (args := [_]) en_s_DrawAreThresholdWeights Tryz.func22 rfl Tryz.ntmps22 rfl ?_
  have hap := nox (cv := cv) (l := l)
  repeat' (first | apply pwp_seq | apply pwp_region | (apply px_run; (first | (apply opv_move; first | exact hid_int rfl | exact hid_bool rfl | exact hid_ptr rfl | rfl) | (apply opv_assign; first | exact hid_int rfl | exact hid_bool rfl | exact hid_ptr rfl | rfl) | (apply opv_pick_t <;> rfl) | (apply opv_pick_f <;> rfl) | (apply opv_not <;> rfl) | (apply opv_load_str 0 st_G; rfl; rfl; rfl) | (apply opv_load_str 2 st_G; rfl; rfl; rfl) | (apply opv_extract; rfl; rfl)); rfl; rfl) | apply px_nil | (apply px_skip; rfl; rfl) | apply qseq_normal | apply qseq_ret | apply pwp_skip | apply pwp_ret | (apply pwp_cond_f; rfl) | (apply pwp_region_any [0, 1, 2, 4] [7] 6 (Cl [] w [.blk _ [.int .i64 n, gv]]); kernel_rfl; decide +kernel; exact Cl.stable _ _ _; exact fun w h => h.sub (by repeat (first | apply List.Sublist.cons_cons | exact List.sublist_append_left _ _ | apply List.Sublist.cons))) | apply qlooks_normal | (apply qstep_out; decide +kernel) | (apply qstep_in; exact fun w h => h.sub (by repeat (first | apply List.Sublist.cons_cons | exact List.sublist_append_left _ _ | apply List.Sublist.cons))) | (apply pxa_nil; decide +kernel) | (apply pxa_one 3; decide +kernel; rfl) | (apply pxa_one 5; decide +kernel; rfl) | (apply pxa_one 6; decide +kernel; rfl) | (apply pxa_one 7; decide +kernel; rfl) | (apply pxa_one 8; decide +kernel; rfl) | (apply pxa_one 9; decide +kernel; rfl) | (apply pxa_two 3 5; decide +kernel; rfl; rfl) | (apply px_guard; rfl; rfl; rfl; all_goals (intro hc; (first | (fail_if_success (cases hc); try (first | fail))))) | (apply pwp_cond_not; rfl; all_goals (intro hc; try (first | fail))) | (apply px_givesV [0]; rfl; rfl; rfl; rfl; rfl; (exact fun w' hw ho' => s_l19Graph_c cv l cb _ _ w' (hcp.at hap hw) (by first | exact ⟨by omega, by omega⟩) ho'); rintro _ _ ⟨n, gv, rows, ci, ch, rfl, hi, rfl⟩) | (apply px_givesV [3]; rfl; rfl; rfl; rfl; rfl; (exact fun w' hw ho' => s_l1Once_c cv l cb _ _ _ w' (hcp.at hap hw) (by first | assumption) ho'); rintro _ _ ⟨b, rfl, ⟨ci, ch, hi, rfl⟩⟩) | (apply px_givesV [0]; rfl; rfl; rfl; rfl; rfl; (exact fun w' hw ho' => s_l4List_c cv _ l cb _ _ _ w' (hcp.at hap hw) (by first | assumption) ho'); rintro _ _ ⟨tL, ci, ch, htl, hi, rfl⟩) | (apply px_givesV [1]; rfl; rfl; rfl; rfl; rfl; (exact fun w' hw ho' => s_l4List_c cv _ l cb _ _ _ w' (hcp.at hap hw) (by first | assumption) ho'); rintro _ _ ⟨tL, ci, ch, htl, hi, rfl⟩) | (apply px_givesV [3]; rfl; rfl; rfl; rfl; rfl; (exact fun w' hw ho' => s_l4List_c cv _ l cb _ _ _ w' (hcp.at hap hw) (by first | assumption) ho'); rintro _ _ ⟨tL, ci, ch, htl, hi, rfl⟩) | (apply px_givesV [4]; rfl; rfl; rfl; rfl; rfl; (exact fun w' hw ho' => s_l4List_c cv _ l cb _ _ _ w' (hcp.at hap hw) (by first | assumption) ho'); rintro _ _ ⟨tL, ci, ch, htl, hi, rfl⟩) | (apply px_lit4 ez_int; rfl; (intro w hw; rfl); rfl; (intro w hw; rfl); rfl; (intro w hw; rfl); rfl; (intro w hw; rfl); rfl; rfl; rfl; intro sv) | (apply px_givesV [2]; rfl; rfl; rfl; rfl; rfl; (exact fun w' hw ho' => s_l1PickInt_c cv _ l [-1, 2, 5, 1000001] cb _ _ w' (hcp.at hap hw) (by first | assumption) ho' (hw.rowArr (k := 0) rfl) (hw.rowNe 0 1 rfl rfl) (by decide)); rintro _ _ ⟨y, hy, rfl, ⟨ci, ch, hi, rfl⟩⟩) | (apply px_givesV [1]; rfl; rfl; rfl; rfl; rfl; (exact fun w' hw ho' => s_l1PickInt_c cv _ l [-1, 2, 5, 1000001] cb _ _ w' (hcp.at hap hw) (by first | assumption) ho' (hw.rowArr (k := 2) rfl) (hw.rowNe 2 1 rfl rfl) (by decide)); rintro _ _ ⟨y, hy, rfl, ⟨ci, ch, hi, rfl⟩⟩) | (apply px_alloc st_G; rfl; rfl; rfl; intro bk) | (apply px_store_str 0 st_G; rfl; rfl; rfl; rfl; rfl; (intro w hw; (first | refine all2 rfl ?_ ?_) <;> (first | rfl | exact stor_row 1 hw rfl)); rfl) | (apply px_store_str 4 st_G; rfl; rfl; rfl; rfl; rfl; (intro w hw; (first | refine all2 rfl ?_ ?_) <;> (first | rfl | exact stor_row 3 hw rfl)); rfl) | (apply px_store_str 6 st_G; rfl; rfl; rfl; rfl; rfl; (intro w hw; (first | refine all2 rfl ?_ ?_) <;> (first | rfl | exact stor_row 5 hw rfl)); rfl) | (apply px_gives; rfl; rfl; rfl; rfl; rfl; exact fun w hw => s_l1New_c cv l _ (hcp.at hap hw); rintro _ _ ⟨cb, h, rfl, rfl⟩) | (apply px_gives; rfl; rfl; rfl; rfl; rfl; exact fun w hw => s_WeightsOf_c _ _ rows _ (by first | exact hw.rowArr (k := 1) rfl); rintro _ _ ⟨wv, rfl, rfl⟩))
  all_goals first
    | exact qbody_cell_tmps (v := wv) (v' := .int .i64 _) 0 rfl st_G rfl rfl rfl rfl rfl ⟨_, ⟨n, gv, rows, wv, _, _, rfl, rfl⟩, fun w' hw => (by have h := hw; exact Cl.ofSel (by assumption) (by repeat (first | exact sel_nil | refine sel_cons 0 rfl ?_ | refine sel_cons 1 rfl ?_ | refine sel_cons 2 rfl ?_ | refine sel_cons 3 rfl ?_ | refine sel_cons 4 rfl ?_ | refine sel_cons 5 rfl ?_ | refine sel_cons 6 rfl ?_ | refine sel_cons 7 rfl ?_ | refine sel_cons 8 rfl ?_ | refine sel_cons 9 rfl ?_ | refine sel_cons 10 rfl ?_ | refine sel_cons 11 rfl ?_ | refine sel_cons 12 rfl ?_ | refine sel_cons 13 rfl ?_)))⟩
    | exact qbody_cell_tmps (v := _) (v' := .int .i64 y) 0 rfl st_G rfl rfl rfl rfl rfl ⟨_, ⟨n, gv, rows, _, tL, y, rfl, rfl⟩, fun w' hw => (by have h := hw; exact Cl.ofSel (by assumption) (by repeat (first | exact sel_nil | refine sel_cons 0 rfl ?_ | refine sel_cons 1 rfl ?_ | refine sel_cons 2 rfl ?_ | refine sel_cons 3 rfl ?_ | refine sel_cons 4 rfl ?_ | refine sel_cons 5 rfl ?_ | refine sel_cons 6 rfl ?_ | refine sel_cons 7 rfl ?_ | refine sel_cons 8 rfl ?_ | refine sel_cons 9 rfl ?_ | refine sel_cons 10 rfl ?_ | refine sel_cons 11 rfl ?_ | refine sel_cons 12 rfl ?_ | refine sel_cons 13 rfl ?_)))⟩
    | exact qbody_cell_tmps (v := wv) (v' := .int .i64 _) 1 rfl st_G rfl rfl rfl rfl rfl ⟨_, ⟨n, gv, rows, wv, _, _, rfl, rfl⟩, fun w' hw => (by have h := hw; exact Cl.ofSel (by assumption) (by repeat (first | exact sel_nil | refine sel_cons 0 rfl ?_ | refine sel_cons 1 rfl ?_ | refine sel_cons 2 rfl ?_ | refine sel_cons 3 rfl ?_ | refine sel_cons 4 rfl ?_ | refine sel_cons 5 rfl ?_ | refine sel_cons 6 rfl ?_ | refine sel_cons 7 rfl ?_ | refine sel_cons 8 rfl ?_ | refine sel_cons 9 rfl ?_ | refine sel_cons 10 rfl ?_ | refine sel_cons 11 rfl ?_ | refine sel_cons 12 rfl ?_ | refine sel_cons 13 rfl ?_)))⟩
    | exact qbody_cell_tmps (v := _) (v' := .int .i64 y) 1 rfl st_G rfl rfl rfl rfl rfl ⟨_, ⟨n, gv, rows, _, tL, y, rfl, rfl⟩, fun w' hw => (by have h := hw; exact Cl.ofSel (by assumption) (by repeat (first | exact sel_nil | refine sel_cons 0 rfl ?_ | refine sel_cons 1 rfl ?_ | refine sel_cons 2 rfl ?_ | refine sel_cons 3 rfl ?_ | refine sel_cons 4 rfl ?_ | refine sel_cons 5 rfl ?_ | refine sel_cons 6 rfl ?_ | refine sel_cons 7 rfl ?_ | refine sel_cons 8 rfl ?_ | refine sel_cons 9 rfl ?_ | refine sel_cons 10 rfl ?_ | refine sel_cons 11 rfl ?_ | refine sel_cons 12 rfl ?_ | refine sel_cons 13 rfl ?_)))⟩
    | exact qbody_cell_tmps (v := wv) (v' := .int .i64 _) 2 rfl st_G rfl rfl rfl rfl rfl ⟨_, ⟨n, gv, rows, wv, _, _, rfl, rfl⟩, fun w' hw => (by have h := hw; exact Cl.ofSel (by assumption) (by repeat (first | exact sel_nil | refine sel_cons 0 rfl ?_ | refine sel_cons 1 rfl ?_ | refine sel_cons 2 rfl ?_ | refine sel_cons 3 rfl ?_ | refine sel_cons 4 rfl ?_ | refine sel_cons 5 rfl ?_ | refine sel_cons 6 rfl ?_ | refine sel_cons 7 rfl ?_ | refine sel_cons 8 rfl ?_ | refine sel_cons 9 rfl ?_ | refine sel_cons 10 rfl ?_ | refine sel_cons 11 rfl ?_ | refine sel_cons 12 rfl ?_ | refine sel_cons 13 rfl ?_)))⟩
    | exact qbody_cell_tmps (v := _) (v' := .int .i64 y) 2 rfl st_G rfl rfl rfl rfl rfl ⟨_, ⟨n, gv, rows, _, tL, y, rfl, rfl⟩, fun w' hw => (by have h := hw; exact Cl.ofSel (by assumption) (by repeat (first | exact sel_nil | refine sel_cons 0 rfl ?_ | refine sel_cons 1 rfl ?_ | refine sel_cons 2 rfl ?_ | refine sel_cons 3 rfl ?_ | refine sel_cons 4 rfl ?_ | refine sel_cons 5 rfl ?_ | refine sel_cons 6 rfl ?_ | refine sel_cons 7 rfl ?_ | refine sel_cons 8 rfl ?_ | refine sel_cons 9 rfl ?_ | refine sel_cons 10 rfl ?_ | refine sel_cons 11 rfl ?_ | refine sel_cons 12 rfl ?_ | refine sel_cons 13 rfl ?_)))⟩
    | exact qbody_cell_tmps (v := wv) (v' := .int .i64 _) 3 rfl st_G rfl rfl rfl rfl rfl ⟨_, ⟨n, gv, rows, wv, _, _, rfl, rfl⟩, fun w' hw => (by have h := hw; exact Cl.ofSel (by assumption) (by repeat (first | exact sel_nil | refine sel_cons 0 rfl ?_ | refine sel_cons 1 rfl ?_ | refine sel_cons 2 rfl ?_ | refine sel_cons 3 rfl ?_ | refine sel_cons 4 rfl ?_ | refine sel_cons 5 rfl ?_ | refine sel_cons 6 rfl ?_ | refine sel_cons 7 rfl ?_ | refine sel_cons 8 rfl ?_ | refine sel_cons 9 rfl ?_ | refine sel_cons 10 rfl ?_ | refine sel_cons 11 rfl ?_ | refine sel_cons 12 rfl ?_ | refine sel_cons 13 rfl ?_)))⟩
    | exact qbody_cell_tmps (v := _) (v' := .int .i64 y) 3 rfl st_G rfl rfl rfl rfl rfl ⟨_, ⟨n, gv, rows, _, tL, y, rfl, rfl⟩, fun w' hw => (by have h := hw; exact Cl.ofSel (by assumption) (by repeat (first | exact sel_nil | refine sel_cons 0 rfl ?_ | refine sel_cons 1 rfl ?_ | refine sel_cons 2 rfl ?_ | refine sel_cons 3 rfl ?_ | refine sel_cons 4 rfl ?_ | refine sel_cons 5 rfl ?_ | refine sel_cons 6 rfl ?_ | refine sel_cons 7 rfl ?_ | refine sel_cons 8 rfl ?_ | refine sel_cons 9 rfl ?_ | refine sel_cons 10 rfl ?_ | refine sel_cons 11 rfl ?_ | refine sel_cons 12 rfl ?_ | refine sel_cons 13 rfl ?_)))⟩
    | exact qbody_cell_tmps (v := wv) (v' := .int .i64 _) 4 rfl st_G rfl rfl rfl rfl rfl ⟨_, ⟨n, gv, rows, wv, _, _, rfl, rfl⟩, fun w' hw => (by have h := hw; exact Cl.ofSel (by assumption) (by repeat (first | exact sel_nil | refine sel_cons 0 rfl ?_ | refine sel_cons 1 rfl ?_ | refine sel_cons 2 rfl ?_ | refine sel_cons 3 rfl ?_ | refine sel_cons 4 rfl ?_ | refine sel_cons 5 rfl ?_ | refine sel_cons 6 rfl ?_ | refine sel_cons 7 rfl ?_ | refine sel_cons 8 rfl ?_ | refine sel_cons 9 rfl ?_ | refine sel_cons 10 rfl ?_ | refine sel_cons 11 rfl ?_ | refine sel_cons 12 rfl ?_ | refine sel_cons 13 rfl ?_)))⟩
    | exact qbody_cell_tmps (v := _) (v' := .int .i64 y) 4 rfl st_G rfl rfl rfl rfl rfl ⟨_, ⟨n, gv, rows, _, tL, y, rfl, rfl⟩, fun w' hw => (by have h := hw; exact Cl.ofSel (by assumption) (by repeat (first | exact sel_nil | refine sel_cons 0 rfl ?_ | refine sel_cons 1 rfl ?_ | refine sel_cons 2 rfl ?_ | refine sel_cons 3 rfl ?_ | refine sel_cons 4 rfl ?_ | refine sel_cons 5 rfl ?_ | refine sel_cons 6 rfl ?_ | refine sel_cons 7 rfl ?_ | refine sel_cons 8 rfl ?_ | refine sel_cons 9 rfl ?_ | refine sel_cons 10 rfl ?_ | refine sel_cons 11 rfl ?_ | refine sel_cons 12 rfl ?_ | refine sel_cons 13 rfl ?_)))⟩
    | exact qbody_cell_tmps (v := wv) (v' := .int .i64 _) 5 rfl st_G rfl rfl rfl rfl rfl ⟨_, ⟨n, gv, rows, wv, _, _, rfl, rfl⟩, fun w' hw => (by have h := hw; exact Cl.ofSel (by assumption) (by repeat (first | exact sel_nil | refine sel_cons 0 rfl ?_ | refine sel_cons 1 rfl ?_ | refine sel_cons 2 rfl ?_ | refine sel_cons 3 rfl ?_ | refine sel_cons 4 rfl ?_ | refine sel_cons 5 rfl ?_ | refine sel_cons 6 rfl ?_ | refine sel_cons 7 rfl ?_ | refine sel_cons 8 rfl ?_ | refine sel_cons 9 rfl ?_ | refine sel_cons 10 rfl ?_ | refine sel_cons 11 rfl ?_ | refine sel_cons 12 rfl ?_ | refine sel_cons 13 rfl ?_)))⟩
    | exact qbody_cell_tmps (v := _) (v' := .int .i64 y) 5 rfl st_G rfl rfl rfl rfl rfl ⟨_, ⟨n, gv, rows, _, tL, y, rfl, rfl⟩, fun w' hw => (by have h := hw; exact Cl.ofSel (by assumption) (by repeat (first | exact sel_nil | refine sel_cons 0 rfl ?_ | refine sel_cons 1 rfl ?_ | refine sel_cons 2 rfl ?_ | refine sel_cons 3 rfl ?_ | refine sel_cons 4 rfl ?_ | refine sel_cons 5 rfl ?_ | refine sel_cons 6 rfl ?_ | refine sel_cons 7 rfl ?_ | refine sel_cons 8 rfl ?_ | refine sel_cons 9 rfl ?_ | refine sel_cons 10 rfl ?_ | refine sel_cons 11 rfl ?_ | refine sel_cons 12 rfl ?_ | refine sel_cons 13 rfl ?_)))⟩
    | exact qbody_cell_tmps (v := wv) (v' := .int .i64 _) 6 rfl st_G rfl rfl rfl rfl rfl ⟨_, ⟨n, gv, rows, wv, _, _, rfl, rfl⟩, fun w' hw => (by have h := hw; exact Cl.ofSel (by assumption) (by repeat (first | exact sel_nil | refine sel_cons 0 rfl ?_ | refine sel_cons 1 rfl ?_ | refine sel_cons 2 rfl ?_ | refine sel_cons 3 rfl ?_ | refine sel_cons 4 rfl ?_ | refine sel_cons 5 rfl ?_ | refine sel_cons 6 rfl ?_ | refine sel_cons 7 rfl ?_ | refine sel_cons 8 rfl ?_ | refine sel_cons 9 rfl ?_ | refine sel_cons 10 rfl ?_ | refine sel_cons 11 rfl ?_ | refine sel_cons 12 rfl ?_ | refine sel_cons 13 rfl ?_)))⟩
    | exact qbody_cell_tmps (v := _) (v' := .int .i64 y) 6 rfl st_G rfl rfl rfl rfl rfl ⟨_, ⟨n, gv, rows, _, tL, y, rfl, rfl⟩, fun w' hw => (by have h := hw; exact Cl.ofSel (by assumption) (by repeat (first | exact sel_nil | refine sel_cons 0 rfl ?_ | refine sel_cons 1 rfl ?_ | refine sel_cons 2 rfl ?_ | refine sel_cons 3 rfl ?_ | refine sel_cons 4 rfl ?_ | refine sel_cons 5 rfl ?_ | refine sel_cons 6 rfl ?_ | refine sel_cons 7 rfl ?_ | refine sel_cons 8 rfl ?_ | refine sel_cons 9 rfl ?_ | refine sel_cons 10 rfl ?_ | refine sel_cons 11 rfl ?_ | refine sel_cons 12 rfl ?_ | refine sel_cons 13 rfl ?_)))⟩
    | exact qbody_cell_tmps (v := wv) (v' := .int .i64 _) 7 rfl st_G rfl rfl rfl rfl rfl ⟨_, ⟨n, gv, rows, wv, _, _, rfl, rfl⟩, fun w' hw => (by have h := hw; exact Cl.ofSel (by assumption) (by repeat (first | exact sel_nil | refine sel_cons 0 rfl ?_ | refine sel_cons 1 rfl ?_ | refine sel_cons 2 rfl ?_ | refine sel_cons 3 rfl ?_ | refine sel_cons 4 rfl ?_ | refine sel_cons 5 rfl ?_ | refine sel_cons 6 rfl ?_ | refine sel_cons 7 rfl ?_ | refine sel_cons 8 rfl ?_ | refine sel_cons 9 rfl ?_ | refine sel_cons 10 rfl ?_ | refine sel_cons 11 rfl ?_ | refine sel_cons 12 rfl ?_ | refine sel_cons 13 rfl ?_)))⟩
    | exact qbody_cell_tmps (v := _) (v' := .int .i64 y) 7 rfl st_G rfl rfl rfl rfl rfl ⟨_, ⟨n, gv, rows, _, tL, y, rfl, rfl⟩, fun w' hw => (by have h := hw; exact Cl.ofSel (by assumption) (by repeat (first | exact sel_nil | refine sel_cons 0 rfl ?_ | refine sel_cons 1 rfl ?_ | refine sel_cons 2 rfl ?_ | refine sel_cons 3 rfl ?_ | refine sel_cons 4 rfl ?_ | refine sel_cons 5 rfl ?_ | refine sel_cons 6 rfl ?_ | refine sel_cons 7 rfl ?_ | refine sel_cons 8 rfl ?_ | refine sel_cons 9 rfl ?_ | refine sel_cons 10 rfl ?_ | refine sel_cons 11 rfl ?_ | refine sel_cons 12 rfl ?_ | refine sel_cons 13 rfl ?_)))⟩
theorem en_s_DrawIsThresholdObstacle : Entry Tryz.prog 23 := ⟨_, Tryz.func23, by kernel_rfl, rfl⟩
set_option maxHeartbeats 3200000 in
theorem s_DrawIsThresholdObstacle_c (cv : Value) (l : List Int) (w : World) (hcp : CodeP w cv l) :
    Gives Tryz.prog 23 #[cv] w (fun v objs => ∃ n gv rows lv L, v = .tuple #[.agg #[.int .i64 n, gv], lv] ∧ objs = [.row 3 gv (ints rows), .row 3 lv (ints L)]) := by
  refine gives_enter (args := [_]) en_s_DrawIsThresholdObstacle Tryz.func23 rfl Tryz.ntmps23 rfl ?_
  have hap := nox (cv := cv) (l := l)
  repeat' (first | apply pwp_seq | apply pwp_region | (apply px_run; (first | (apply opv_move; first | exact hid_bool rfl | exact hid_ptr rfl | rfl) | (apply opv_assign; first | exact hid_bool rfl | exact hid_ptr rfl | rfl) | (apply opv_pick_t <;> rfl) | (apply opv_pick_f <;> rfl) | (apply opv_not <;> rfl) | (apply opv_load_str 0 st_G; rfl; rfl; rfl) | (apply opv_load_str 2 st_G; rfl; rfl; rfl) | (apply opv_extract; rfl; rfl)); rfl; rfl) | apply px_nil | (apply px_skip; rfl; rfl) | apply qseq_normal | apply qseq_ret | apply pwp_skip | apply pwp_ret | (apply pwp_cond_f; rfl) | (apply pwp_region_any [0, 1, 2] [4] 3 (Cl [] w [.blk _ [.int .i64 n, gv]]); kernel_rfl; decide +kernel; exact Cl.stable _ _ _; exact fun w h => h.sub (by repeat (first | apply List.Sublist.cons_cons | exact List.sublist_append_left _ _ | apply List.Sublist.cons))) | apply qlooks_normal | (apply qstep_out; decide +kernel) | (apply qstep_in; exact fun w h => h.sub (by repeat (first | apply List.Sublist.cons_cons | exact List.sublist_append_left _ _ | apply List.Sublist.cons))) | (apply pxa_nil; decide +kernel) | (apply pxa_one 3; decide +kernel; rfl) | (apply pxa_one 4; decide +kernel; rfl) | (apply pxa_one 5; decide +kernel; rfl) | (apply px_guard; rfl; rfl; rfl; all_goals (intro hc; (first | (fail_if_success (cases hc); try (first | fail))))) | (apply pwp_cond_not; rfl; all_goals (intro hc; try (first | fail))) | (apply px_givesV [0]; rfl; rfl; rfl; rfl; rfl; (exact fun w' hw ho' => s_l19Graph_c cv l cb _ _ w' (hcp.at hap hw) (by first | exact ⟨by omega, by omega⟩) ho'); rintro _ _ ⟨n, gv, rows, ci, ch, rfl, hi, rfl⟩) | (apply px_givesV [3]; rfl; rfl; rfl; rfl; rfl; (exact fun w' hw ho' => s_l1Once_c cv l cb _ _ _ w' (hcp.at hap hw) (by first | assumption) ho'); rintro _ _ ⟨b, rfl, ⟨ci, ch, hi, rfl⟩⟩) | (apply px_givesV [0]; rfl; rfl; rfl; rfl; rfl; (exact fun w' hw ho' => s_l4List_c cv _ l cb _ _ _ w' (hcp.at hap hw) (by first | assumption) ho'); rintro _ _ ⟨tL, ci, ch, htl, hi, rfl⟩) | (apply px_givesV [3]; rfl; rfl; rfl; rfl; rfl; (exact fun w' hw ho' => s_l4List_c cv _ l cb _ _ _ w' (hcp.at hap hw) (by first | assumption) ho'); rintro _ _ ⟨tL, ci, ch, htl, hi, rfl⟩) | (apply px_alloc st_G; rfl; rfl; rfl; intro bk) | (apply px_store_str 0 st_G; rfl; rfl; rfl; rfl; rfl; (intro w hw; (first | refine all2 rfl ?_ ?_) <;> (first | rfl | exact stor_row 1 hw rfl)); rfl) | (apply px_store_str 4 st_G; rfl; rfl; rfl; rfl; rfl; (intro w hw; (first | refine all2 rfl ?_ ?_) <;> (first | rfl | exact stor_row 3 hw rfl)); rfl) | (apply px_store_str 5 st_G; rfl; rfl; rfl; rfl; rfl; (intro w hw; (first | refine all2 rfl ?_ ?_) <;> (first | rfl | exact stor_row 4 hw rfl)); rfl) | (apply px_gives; rfl; rfl; rfl; rfl; rfl; exact fun w hw => s_l1New_c cv l _ (hcp.at hap hw); rintro _ _ ⟨cb, h, rfl, rfl⟩) | (apply px_gives; rfl; rfl; rfl; rfl; rfl; exact fun w hw => s_ThresholdObstacle_c _ _ rows _ (by first | exact hw.rowArr (k := 1) rfl); rintro _ _ ⟨wv, rfl, rfl⟩))
  all_goals first
    | exact qbody_cell_tmp (v := wv) 0 rfl st_G rfl rfl rfl rfl ⟨_, ⟨n, gv, rows, wv, _, rfl, rfl⟩, fun w' hw => (by have h := hw; exact Cl.ofSel (by assumption) (by repeat (first | exact sel_nil | refine sel_cons 0 rfl ?_ | refine sel_cons 1 rfl ?_ | refine sel_cons 2 rfl ?_ | refine sel_cons 3 rfl ?_ | refine sel_cons 4 rfl ?_ | refine sel_cons 5 rfl ?_ | refine sel_cons 6 rfl ?_ | refine sel_cons 7 rfl ?_ | refine sel_cons 8 rfl ?_ | refine sel_cons 9 rfl ?_ | refine sel_cons 10 rfl ?_ | refine sel_cons 11 rfl ?_ | refine sel_cons 12 rfl ?_ | refine sel_cons 13 rfl ?_)))⟩
    | exact qbody_cell_tmp (v := _) 0 rfl st_G rfl rfl rfl rfl ⟨_, ⟨n, gv, rows, _, tL, rfl, rfl⟩, fun w' hw => (by have h := hw; exact Cl.ofSel (by assumption) (by repeat (first | exact sel_nil | refine sel_cons 0 rfl ?_ | refine sel_cons 1 rfl ?_ | refine sel_cons 2 rfl ?_ | refine sel_cons 3 rfl ?_ | refine sel_cons 4 rfl ?_ | refine sel_cons 5 rfl ?_ | refine sel_cons 6 rfl ?_ | refine sel_cons 7 rfl ?_ | refine sel_cons 8 rfl ?_ | refine sel_cons 9 rfl ?_ | refine sel_cons 10 rfl ?_ | refine sel_cons 11 rfl ?_ | refine sel_cons 12 rfl ?_ | refine sel_cons 13 rfl ?_)))⟩
    | exact qbody_cell_tmp (v := wv) 1 rfl st_G rfl rfl rfl rfl ⟨_, ⟨n, gv, rows, wv, _, rfl, rfl⟩, fun w' hw => (by have h := hw; exact Cl.ofSel (by assumption) (by repeat (first | exact sel_nil | refine sel_cons 0 rfl ?_ | refine sel_cons 1 rfl ?_ | refine sel_cons 2 rfl ?_ | refine sel_cons 3 rfl ?_ | refine sel_cons 4 rfl ?_ | refine sel_cons 5 rfl ?_ | refine sel_cons 6 rfl ?_ | refine sel_cons 7 rfl ?_ | refine sel_cons 8 rfl ?_ | refine sel_cons 9 rfl ?_ | refine sel_cons 10 rfl ?_ | refine sel_cons 11 rfl ?_ | refine sel_cons 12 rfl ?_ | refine sel_cons 13 rfl ?_)))⟩
    | exact qbody_cell_tmp (v := _) 1 rfl st_G rfl rfl rfl rfl ⟨_, ⟨n, gv, rows, _, tL, rfl, rfl⟩, fun w' hw => (by have h := hw; exact Cl.ofSel (by assumption) (by repeat (first | exact sel_nil | refine sel_cons 0 rfl ?_ | refine sel_cons 1 rfl ?_ | refine sel_cons 2 rfl ?_ | refine sel_cons 3 rfl ?_ | refine sel_cons 4 rfl ?_ | refine sel_cons 5 rfl ?_ | refine sel_cons 6 rfl ?_ | refine sel_cons 7 rfl ?_ | refine sel_cons 8 rfl ?_ | refine sel_cons 9 rfl ?_ | refine sel_cons 10 rfl ?_ | refine sel_cons 11 rfl ?_ | refine sel_cons 12 rfl ?_ | refine sel_cons 13 rfl ?_)))⟩
    | exact qbody_cell_tmp (v := wv) 2 rfl st_G rfl rfl rfl rfl ⟨_, ⟨n, gv, rows, wv, _, rfl, rfl⟩, fun w' hw => (by have h := hw; exact Cl.ofSel (by assumption) (by repeat (first | exact sel_nil | refine sel_cons 0 rfl ?_ | refine sel_cons 1 rfl ?_ | refine sel_cons 2 rfl ?_ | refine sel_cons 3 rfl ?_ | refine sel_cons 4 rfl ?_ | refine sel_cons 5 rfl ?_ | refine sel_cons 6 rfl ?_ | refine sel_cons 7 rfl ?_ | refine sel_cons 8 rfl ?_ | refine sel_cons 9 rfl ?_ | refine sel_cons 10 rfl ?_ | refine sel_cons 11 rfl ?_ | refine sel_cons 12 rfl ?_ | refine sel_cons 13 rfl ?_)))⟩
    | exact qbody_cell_tmp (v := _) 2 rfl st_G rfl rfl rfl rfl ⟨_, ⟨n, gv, rows, _, tL, rfl, rfl⟩, fun w' hw => (by have h := hw; exact Cl.ofSel (by assumption) (by repeat (first | exact sel_nil | refine sel_cons 0 rfl ?_ | refine sel_cons 1 rfl ?_ | refine sel_cons 2 rfl ?_ | refine sel_cons 3 rfl ?_ | refine sel_cons 4 rfl ?_ | refine sel_cons 5 rfl ?_ | refine sel_cons 6 rfl ?_ | refine sel_cons 7 rfl ?_ | refine sel_cons 8 rfl ?_ | refine sel_cons 9 rfl ?_ | refine sel_cons 10 rfl ?_ | refine sel_cons 11 rfl ?_ | refine sel_cons 12 rfl ?_ | refine sel_cons 13 rfl ?_)))⟩
    | exact qbody_cell_tmp (v := wv) 3 rfl st_G rfl rfl rfl rfl ⟨_, ⟨n, gv, rows, wv, _, rfl, rfl⟩, fun w' hw => (by have h := hw; exact Cl.ofSel (by assumption) (by repeat (first | exact sel_nil | refine sel_cons 0 rfl ?_ | refine sel_cons 1 rfl ?_ | refine sel_cons 2 rfl ?_ | refine sel_cons 3 rfl ?_ | refine sel_cons 4 rfl ?_ | refine sel_cons 5 rfl ?_ | refine sel_cons 6 rfl ?_ | refine sel_cons 7 rfl ?_ | refine sel_cons 8 rfl ?_ | refine sel_cons 9 rfl ?_ | refine sel_cons 10 rfl ?_ | refine sel_cons 11 rfl ?_ | refine sel_cons 12 rfl ?_ | refine sel_cons 13 rfl ?_)))⟩
    | exact qbody_cell_tmp (v := _) 3 rfl st_G rfl rfl rfl rfl ⟨_, ⟨n, gv, rows, _, tL, rfl, rfl⟩, fun w' hw => (by have h := hw; exact Cl.ofSel (by assumption) (by repeat (first | exact sel_nil | refine sel_cons 0 rfl ?_ | refine sel_cons 1 rfl ?_ | refine sel_cons 2 rfl ?_ | refine sel_cons 3 rfl ?_ | refine sel_cons 4 rfl ?_ | refine sel_cons 5 rfl ?_ | refine sel_cons 6 rfl ?_ | refine sel_cons 7 rfl ?_ | refine sel_cons 8 rfl ?_ | refine sel_cons 9 rfl ?_ | refine sel_cons 10 rfl ?_ | refine sel_cons 11 rfl ?_ | refine sel_cons 12 rfl ?_ | refine sel_cons 13 rfl ?_)))⟩
    | exact qbody_cell_tmp (v := wv) 4 rfl st_G rfl rfl rfl rfl ⟨_, ⟨n, gv, rows, wv, _, rfl, rfl⟩, fun w' hw => (by have h := hw; exact Cl.ofSel (by assumption) (by repeat (first | exact sel_nil | refine sel_cons 0 rfl ?_ | refine sel_cons 1 rfl ?_ | refine sel_cons 2 rfl ?_ | refine sel_cons 3 rfl ?_ | refine sel_cons 4 rfl ?_ | refine sel_cons 5 rfl ?_ | refine sel_cons 6 rfl ?_ | refine sel_cons 7 rfl ?_ | refine sel_cons 8 rfl ?_ | refine sel_cons 9 rfl ?_ | refine sel_cons 10 rfl ?_ | refine sel_cons 11 rfl ?_ | refine sel_cons 12 rfl ?_ | refine sel_cons 13 rfl ?_)))⟩
    | exact qbody_cell_tmp (v := _) 4 rfl st_G rfl rfl rfl rfl ⟨_, ⟨n, gv, rows, _, tL, rfl, rfl⟩, fun w' hw => (by have h := hw; exact Cl.ofSel (by assumption) (by repeat (first | exact sel_nil | refine sel_cons 0 rfl ?_ | refine sel_cons 1 rfl ?_ | refine sel_cons 2 rfl ?_ | refine sel_cons 3 rfl ?_ | refine sel_cons 4 rfl ?_ | refine sel_cons 5 rfl ?_ | refine sel_cons 6 rfl ?_ | refine sel_cons 7 rfl ?_ | refine sel_cons 8 rfl ?_ | refine sel_cons 9 rfl ?_ | refine sel_cons 10 rfl ?_ | refine sel_cons 11 rfl ?_ | refine sel_cons 12 rfl ?_ | refine sel_cons 13 rfl ?_)))⟩
    | exact qbody_cell_tmp (v := wv) 5 rfl st_G rfl rfl rfl rfl ⟨_, ⟨n, gv, rows, wv, _, rfl, rfl⟩, fun w' hw => (by have h := hw; exact Cl.ofSel (by assumption) (by repeat (first | exact sel_nil | refine sel_cons 0 rfl ?_ | refine sel_cons 1 rfl ?_ | refine sel_cons 2 rfl ?_ | refine sel_cons 3 rfl ?_ | refine sel_cons 4 rfl ?_ | refine sel_cons 5 rfl ?_ | refine sel_cons 6 rfl ?_ | refine sel_cons 7 rfl ?_ | refine sel_cons 8 rfl ?_ | refine sel_cons 9 rfl ?_ | refine sel_cons 10 rfl ?_ | refine sel_cons 11 rfl ?_ | refine sel_cons 12 rfl ?_ | refine sel_cons 13 rfl ?_)))⟩
    | exact qbody_cell_tmp (v := _) 5 rfl st_G rfl rfl rfl rfl ⟨_, ⟨n, gv, rows, _, tL, rfl, rfl⟩, fun w' hw => (by have h := hw; exact Cl.ofSel (by assumption) (by repeat (first | exact sel_nil | refine sel_cons 0 rfl ?_ | refine sel_cons 1 rfl ?_ | refine sel_cons 2 rfl ?_ | refine sel_cons 3 rfl ?_ | refine sel_cons 4 rfl ?_ | refine sel_cons 5 rfl ?_ | refine sel_cons 6 rfl ?_ | refine sel_cons 7 rfl ?_ | refine sel_cons 8 rfl ?_ | refine sel_cons 9 rfl ?_ | refine sel_cons 10 rfl ?_ | refine sel_cons 11 rfl ?_ | refine sel_cons 12 rfl ?_ | refine sel_cons 13 rfl ?_)))⟩
    | exact qbody_cell_tmp (v := wv) 6 rfl st_G rfl rfl rfl rfl ⟨_, ⟨n, gv, rows, wv, _, rfl, rfl⟩, fun w' hw => (by have h := hw; exact Cl.ofSel (by assumption) (by repeat (first | exact sel_nil | refine sel_cons 0 rfl ?_ | refine sel_cons 1 rfl ?_ | refine sel_cons 2 rfl ?_ | refine sel_cons 3 rfl ?_ | refine sel_cons 4 rfl ?_ | refine sel_cons 5 rfl ?_ | refine sel_cons 6 rfl ?_ | refine sel_cons 7 rfl ?_ | refine sel_cons 8 rfl ?_ | refine sel_cons 9 rfl ?_ | refine sel_cons 10 rfl ?_ | refine sel_cons 11 rfl ?_ | refine sel_cons 12 rfl ?_ | refine sel_cons 13 rfl ?_)))⟩
    | exact qbody_cell_tmp (v := _) 6 rfl st_G rfl rfl rfl rfl ⟨_, ⟨n, gv, rows, _, tL, rfl, rfl⟩, fun w' hw => (by have h := hw; exact Cl.ofSel (by assumption) (by repeat (first | exact sel_nil | refine sel_cons 0 rfl ?_ | refine sel_cons 1 rfl ?_ | refine sel_cons 2 rfl ?_ | refine sel_cons 3 rfl ?_ | refine sel_cons 4 rfl ?_ | refine sel_cons 5 rfl ?_ | refine sel_cons 6 rfl ?_ | refine sel_cons 7 rfl ?_ | refine sel_cons 8 rfl ?_ | refine sel_cons 9 rfl ?_ | refine sel_cons 10 rfl ?_ | refine sel_cons 11 rfl ?_ | refine sel_cons 12 rfl ?_ | refine sel_cons 13 rfl ?_)))⟩
    | exact qbody_cell_tmp (v := wv) 7 rfl st_G rfl rfl rfl rfl ⟨_, ⟨n, gv, rows, wv, _, rfl, rfl⟩, fun w' hw => (by have h := hw; exact Cl.ofSel (by assumption) (by repeat (first | exact sel_nil | refine sel_cons 0 rfl ?_ | refine sel_cons 1 rfl ?_ | refine sel_cons 2 rfl ?_ | refine sel_cons 3 rfl ?_ | refine sel_cons 4 rfl ?_ | refine sel_cons 5 rfl ?_ | refine sel_cons 6 rfl ?_ | refine sel_cons 7 rfl ?_ | refine sel_cons 8 rfl ?_ | refine sel_cons 9 rfl ?_ | refine sel_cons 10 rfl ?_ | refine sel_cons 11 rfl ?_ | refine sel_cons 12 rfl ?_ | refine sel_cons 13 rfl ?_)))⟩
    | exact qbody_cell_tmp (v := _) 7 rfl st_G rfl rfl rfl rfl ⟨_, ⟨n, gv, rows, _, tL, rfl, rfl⟩, fun w' hw => (by have h := hw; exact Cl.ofSel (by assumption) (by repeat (first | exact sel_nil | refine sel_cons 0 rfl ?_ | refine sel_cons 1 rfl ?_ | refine sel_cons 2 rfl ?_ | refine sel_cons 3 rfl ?_ | refine sel_cons 4 rfl ?_ | refine sel_cons 5 rfl ?_ | refine sel_cons 6 rfl ?_ | refine sel_cons 7 rfl ?_ | refine sel_cons 8 rfl ?_ | refine sel_cons 9 rfl ?_ | refine sel_cons 10 rfl ?_ | refine sel_cons 11 rfl ?_ | refine sel_cons 12 rfl ?_ | refine sel_cons 13 rfl ?_)))⟩
end Go.Proofs.YtdenkbephkfifaaGreat
