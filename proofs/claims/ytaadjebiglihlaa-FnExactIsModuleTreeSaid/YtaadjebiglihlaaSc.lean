/- Stable sorting of short lists by a comparison. -/
import Derived.Test.YtaadjebiglihlaaFacts
import Derived.Test.YtaadjebiglihlaaPwPsv
import Derived.Test.YtaadjebiglihlaaPwStx
import Derived.Test.YtaadjebiglihlaaPwDrop
namespace Go.Proofs.Ytaadjebiglihlaa
open Go Go.RowKit Go.Pw
def ltBy (c : Int → Int → Int) (a b : Int) : Bool := decide (c a b < 0)
theorem sortR_one (lt : Int → Int → Bool) (l : List Int) : sortR lt (l.take 1) ++ l.drop 1 = l := by
  cases l with
  | nil => rfl
  | cons x r => simp [sortR, insR, posR]
theorem en_x_slices_insertionSortCmpFunc_int : Entry Try.prog 103 := ⟨_, Try.func103, by kernel_rfl, rfl⟩
set_option maxRecDepth 100000 in
set_option maxHeartbeats 1600000 in
theorem x_insCmp_c (sv : Value) (l : List Int) (f : FuncId) (cs : List Value) (c : Int → Int → Int) (w : World) (ho : Own w [.row 3 sv (ints l)]) (hl : l.length ≤ 19)
    (hp : ∀ (x y : Int) w', Pure Try.prog f ([Value.int .i64 x, Value.int .i64 y] ++ cs).toArray w' (.int .i64 (c x y))) :
    Turns Try.prog 103 #[sv, .int .i64 0, .int .i64 (l.length : Int), .func (.func f) #[] cs.toArray] w [.row 3 sv (ints l)] [.row 3 sv (ints (sortR (ltBy c) l))] (.tuple #[]) := by
  refine turns_enter (args := [_, _, _, _]) ho en_x_slices_insertionSortCmpFunc_int Try.func103 rfl Try.ntmps103 rfl fun X => ?_
  repeat' (first | apply pwp_seq | apply pwp_region | (apply px_run; (first | (apply opv_move; first | exact hid_int rfl) | (apply opv_assign; first | exact hid_int rfl) | (apply opv_add_in; rfl; rfl; omega)); rfl; rfl) | apply px_nil | apply qseq_normal | apply pwp_block)
  refine pwp_loop (τ := Nat) [(8,9), (12,52)] (fun i => [(8, .int .i64 (i : Int))]) (fun i => Cl X w [.row 3 sv (ints (sortR (ltBy c) (l.take i) ++ l.drop i))]) (fun i => 1 ≤ i ∧ i ≤ 20) (fun i => 20 - i) 1
    ⟨rfl, trivial⟩ ⟨by omega, by omega⟩ (fun _ h => by rw [sortR_one]; exact h) (fun J i hi => ?_)
  obtain ⟨hi1, hi2⟩ := hi
  by_cases hlt : i < l.length
  · repeat' (first | apply pwp_seq | apply pwp_region | (apply px_run; (first | (apply opv_move; first | exact hid_int rfl) | (apply opv_assign; first | exact hid_int rfl) | (apply opv_lss <;> rfl)); rfl; rfl) | apply px_nil | apply qseq_normal | apply pwp_block | apply pwp_skip | (apply pwp_cond_dec; rfl; all_goals (intro hc; try (first | (exfalso; omega)))))
    have hol : (sortR (ltBy c) (l.take i)).length = i := by rw [sortR_len]; simp; omega
    have hst : sortR (ltBy c) (l.take i) ++ l.drop i = insAt (sortR (ltBy c) (l.take i)) (l.getD i 0) (l.drop (i + 1)) i := by
      have := insAt_start (sortR (ltBy c) (l.take i)) (l.getD i 0) (l.drop (i + 1))
      rw [hol] at this
      rw [this, drop_cons hlt]
    have hrd : sortR (ltBy c) (l.take (i + 1)) = insR (ltBy c) (l.getD i 0) (sortR (ltBy c) (l.take i)) := sortR_round hlt
    have hdl : (l.drop (i + 1)).length = l.length - (i + 1) := by simp
    rw [hst]
    generalize sortR (ltBy c) (l.take i) = out at *
    generalize l.getD i 0 = x at *
    generalize hre : l.drop (i + 1) = rest at hst hdl ⊢
    refine pwp_loop (τ := Nat) [(9,9), (18,52)] (fun j => [(9, .int .i64 (j : Int))]) (fun j => Cl X w [.row 3 sv (ints (insAt out x rest j))]) (fun j => j ≤ i ∧ posR (ltBy c) x out j = posR (ltBy c) x out out.length) (fun j => j) i
      ⟨rfl, trivial⟩ ⟨Nat.le_refl _, by rw [hol]⟩ (fun _ h => h) (fun J2 j hj => ?_)
    obtain ⟨hji, hpos⟩ := hj
    have hal := insAt_len (x := x) (rest := rest) (out := out) (j := j) (by omega)
    have done : posR (ltBy c) x out j = j → ∀ w', Cl X w [.row 3 sv (ints (insAt out x rest j))] w' → Cl X w [.row 3 sv (ints (sortR (ltBy c) (l.take (i + 1)) ++ rest))] w' := fun e w' h => by
      rw [hrd, ← insAt_stop (lt := ltBy c) rest, ← hpos, e]; exact h
    rcases Nat.eq_zero_or_pos j with rfl | hj0
    · repeat' (first | apply pwp_seq | apply pwp_region | (apply px_run; (first | (apply opv_move; first | exact hid_int rfl | exact hid_bool rfl | rfl) | (apply opv_assign; first | exact hid_int rfl) | (apply opv_gtr <;> rfl) | (apply opv_pick_f <;> rfl) | (apply opv_add_in; rfl; rfl; omega)); rfl; rfl) | apply px_nil | (apply px_skip; rfl; rfl) | apply qseq_normal | apply qseq_exit | apply qblock_normal | (apply qblock_exit_same; rfl) | apply pwp_exit | apply qround_exit | (apply pwp_cond_f; rfl) | (apply pwp_region_draw; kernel_rfl; kernel_rfl; exact Cl.stable _ _ _))
      refine qround_normal ?_ ⟨i + 1, ⟨rfl, trivial⟩, ⟨by omega, by omega⟩, by omega, fun w' h => by rw [hre]; exact done rfl w' h⟩
      repeat (first | exact same_refl | refine same_upd rfl ?_ | refine same_junk rfl ?_)
    · obtain ⟨k, rfl⟩ : ∃ k, j = k + 1 := ⟨j - 1, by omega⟩
      have e1 : (insAt out x rest (k + 1)).getD (k + 1) 0 = x := insAt_here (by omega)
      have e2 : (insAt out x rest (k + 1)).getD k 0 = out.getD k 0 := insAt_left (by omega) (by omega)
      have e3 : ((((k + 1 : Nat) : Int)) - 1).toNat = k := by omega
      by_cases hc0 : c x (out.getD k 0) < 0
      · repeat' (first | apply pwp_seq | apply pwp_region | (apply px_run; (first | (apply opv_move; first | exact hid_int rfl | exact hid_bool rfl | rfl) | (apply opv_assign; first | exact hid_int rfl) | (apply opv_lss <;> rfl) | (apply opv_gtr <;> rfl) | (apply opv_pick_t <;> rfl) | (apply opv_add_in; rfl; rfl; omega) | (apply opv_sub_in; rfl; rfl; omega) | (apply opv_load_ints sc_int; rfl; (first | exact rd_row 0 rfl); (first | omega)) | (apply opv_index_nat (vs := ints _) el_int; rfl; rfl; (first | exact rd_row 0 rfl); (first | (simp only [ints_length]; omega))) | (apply opv_index (vs := ints _) el_int; rfl; rfl; (first | exact rd_row 0 rfl); omega; (first | (simp only [ints_length]; omega) | (simp [ints]; omega))) | (apply opv_callx; rfl; rfl; exact Cl.stable _ _ _; exact fun w hw => hp _ _ _)); rfl; rfl) | apply px_nil | apply qseq_normal | apply qseq_exit | apply pwp_block | apply qblock_normal | (apply qblock_exit_same; rfl) | apply pwp_skip | apply pwp_exit | apply qround_exit | (apply pwp_region_any [0, 1, 2, 3, 5, 6, 7, 8, 9, 10, 11, 12, 13, 14] [15] 4 (Cl X w [.row 3 sv (ints (insAt out x rest (k+1)))]); kernel_rfl; decide +kernel; exact Cl.stable _ _ _; exact fun w h => h.sub (by repeat (first | exact List.Sublist.refl _))) | apply qlooks_normal | (apply qstep_out; decide +kernel) | (apply qstep_in; exact fun w h => h.sub (by repeat (first | exact List.Sublist.refl _))) | (apply pxa_nil; decide +kernel) | (apply pxa_one 4; decide +kernel; rfl) | (apply pxa_one 15; decide +kernel; rfl) | (apply pxa_one 16; decide +kernel; rfl) | (apply pxa_one 17; decide +kernel; rfl) | (apply pxa_two 4 15; decide +kernel; rfl; rfl) | (apply pwp_region_draw; kernel_rfl; kernel_rfl; exact Cl.stable _ _ _) | (apply px_guard_dec; rfl; rfl; rfl; all_goals (intro hc; try (first | (exfalso; omega)))) | (apply pwp_cond_dec; rfl; all_goals (intro hc; try (first | fail))) | (apply px_store_int 0 co_int; rfl; rfl; rfl; (first | omega | (simp; omega)); rfl))
        all_goals first
          | (refine qround_normal ?_ ⟨k, ⟨?_, trivial⟩, ⟨by omega, by rw [← hpos, posR, if_pos (show ltBy c x (out.getD k 0) = true from decide_eq_true hc0)]⟩, by omega, fun w' h => ?_⟩
             · repeat (first | exact same_refl | refine same_upd rfl ?_ | refine same_junk rfl ?_)
             · show Value.int .i64 _ = .int .i64 _; congr 1; omega
             · rw [e3, e1, e2, insAt_swap (by omega)] at h; exact h)
          | (exfalso; rw [e3, e1, e2] at hc; omega)
      · repeat' (first | apply pwp_seq | apply pwp_region | (apply px_run; (first | (apply opv_move; first | exact hid_int rfl | exact hid_bool rfl | rfl) | (apply opv_assign; first | exact hid_int rfl) | (apply opv_lss <;> rfl) | (apply opv_gtr <;> rfl) | (apply opv_pick_t <;> rfl) | (apply opv_add_in; rfl; rfl; omega) | (apply opv_sub_in; rfl; rfl; omega) | (apply opv_load_ints sc_int; rfl; (first | exact rd_row 0 rfl); (first | omega)) | (apply opv_index_nat (vs := ints _) el_int; rfl; rfl; (first | exact rd_row 0 rfl); (first | (simp only [ints_length]; omega))) | (apply opv_index (vs := ints _) el_int; rfl; rfl; (first | exact rd_row 0 rfl); omega; (first | (simp only [ints_length]; omega) | (simp [ints]; omega))) | (apply opv_callx; rfl; rfl; exact Cl.stable _ _ _; exact fun w hw => hp _ _ _)); rfl; rfl) | apply px_nil | apply qseq_normal | apply qseq_exit | apply pwp_block | apply qblock_normal | (apply qblock_exit_same; rfl) | apply pwp_skip | apply pwp_exit | apply qround_exit | (apply pwp_region_any [0, 1, 2, 3, 5, 6, 7, 8, 9, 10, 11, 12, 13, 14] [15] 4 (Cl X w [.row 3 sv (ints (insAt out x rest (k+1)))]); kernel_rfl; decide +kernel; exact Cl.stable _ _ _; exact fun w h => h.sub (by repeat (first | exact List.Sublist.refl _))) | apply qlooks_normal | (apply qstep_out; decide +kernel) | (apply qstep_in; exact fun w h => h.sub (by repeat (first | exact List.Sublist.refl _))) | (apply pxa_nil; decide +kernel) | (apply pxa_one 4; decide +kernel; rfl) | (apply pxa_one 15; decide +kernel; rfl) | (apply pxa_one 16; decide +kernel; rfl) | (apply pxa_one 17; decide +kernel; rfl) | (apply pxa_two 4 15; decide +kernel; rfl; rfl) | (apply pwp_region_draw; kernel_rfl; kernel_rfl; exact Cl.stable _ _ _) | (apply px_guard_dec; rfl; rfl; rfl; all_goals (intro hc; try (first | (exfalso; omega)))) | (apply pwp_cond_dec; rfl; all_goals (intro hc; try (first | fail))) | (apply px_store_int 0 co_int; rfl; rfl; rfl; (first | omega | (simp; omega)); rfl))
        all_goals first
          | (refine qround_normal ?_ ⟨i + 1, ⟨rfl, trivial⟩, ⟨by omega, by omega⟩, by omega, fun w' h => by rw [hre]; exact done (by rw [posR, if_neg (by simpa [ltBy] using hc0)]) w' h⟩
             repeat (first | exact same_refl | refine same_upd rfl ?_ | refine same_junk rfl ?_))
          | (exfalso; rw [e3, e1, e2] at hc; omega)
  · repeat' (first | apply pwp_seq | apply pwp_region | (apply px_run; (first | (apply opv_move; first | exact hid_int rfl) | (apply opv_lss <;> rfl)); rfl; rfl) | apply px_nil | apply qseq_normal | apply qseq_exit | (apply qblock_exit_same; rfl) | apply pwp_exit | apply qround_exit | (apply pwp_cond_dec; rfl; all_goals (intro hc; try (first | (exfalso; omega)))))
    refine qbody_end0 rfl ⟨rfl, fun w' h => ?_⟩
    rw [List.take_of_length_le (by omega), List.drop_of_length_le (by omega), List.append_nil] at h; exact h
theorem en_x_slices_stableCmpFunc_int : Entry Try.prog 89 := ⟨_, Try.func89, by kernel_rfl, rfl⟩
theorem x_stable_c (sv : Value) (l : List Int) (f : FuncId) (cs : List Value) (c : Int → Int → Int) (w : World) (ho : Own w [.row 3 sv (ints l)]) (hl : l.length ≤ 19)
    (hp : ∀ (x y : Int) w', Pure Try.prog f ([Value.int .i64 x, Value.int .i64 y] ++ cs).toArray w' (.int .i64 (c x y))) :
    Turns Try.prog 89 #[sv, .int .i64 (l.length : Int), .func (.func f) #[] cs.toArray] w [.row 3 sv (ints l)] [.row 3 sv (ints (sortR (ltBy c) l))] (.tuple #[]) := by
  refine turns_enter (args := [_, _, _]) ho en_x_slices_stableCmpFunc_int Try.func89 rfl Try.ntmps89 rfl fun X => ?_
  repeat' (first | apply pwp_seq | apply pwp_region | (apply px_run; (first | (apply opv_move; first | exact hid_int rfl) | (apply opv_assign; first | exact hid_int rfl)); rfl; rfl) | apply px_nil | apply qseq_normal | apply pwp_block)
  refine pwp_loop_once ?_
  repeat' (first | apply pwp_seq | apply pwp_region | (apply px_run; (first | (apply opv_move; first | exact hid_int rfl | rfl) | (apply opv_leq <;> rfl)); rfl; rfl) | apply px_nil | apply qseq_normal | apply qseq_exit | apply pwp_block | (apply qblock_exit_same; rfl) | apply pwp_exit | apply qonce_exit | (apply pwp_cond_dec; rfl; all_goals (intro hc; try (first | (exfalso; omega)))) | (apply px_turns [0]; rfl; rfl; rfl; rfl; rfl; exact fun w ho => x_insCmp_c _ l f cs c _ ho hl hp))
  refine pwp_loop_once ?_
  repeat' (first | apply pwp_seq | apply pwp_region | (apply px_run; (first | (apply opv_move; first | exact hid_int rfl) | (apply opv_lss <;> rfl)); rfl; rfl) | apply px_nil | apply qseq_normal | apply qseq_exit | (apply qblock_exit_same; rfl) | apply pwp_exit | apply qonce_exit | (apply pwp_cond_dec; rfl; all_goals (intro hc; try (first | (exfalso; omega)))))
  refine qbody_end0 rfl ⟨rfl, fun w' h => h⟩
theorem en_x_slices_SortStableFunc_int_int : Entry Try.prog 62 := ⟨_, Try.func62, by kernel_rfl, rfl⟩
theorem x_SortStable_c (sv : Value) (l : List Int) (f : FuncId) (cs : List Value) (c : Int → Int → Int) (w : World) (ho : Own w [.row 3 sv (ints l)]) (hl : l.length ≤ 19)
    (hp : ∀ (x y : Int) w', Pure Try.prog f ([Value.int .i64 x, Value.int .i64 y] ++ cs).toArray w' (.int .i64 (c x y))) :
    Turns Try.prog 62 #[sv, .func (.func f) #[] cs.toArray] w [.row 3 sv (ints l)] [.row 3 sv (ints (sortR (ltBy c) l))] (.tuple #[]) := by
  refine turns_enter (args := [_, _]) ho en_x_slices_SortStableFunc_int_int Try.func62 rfl Try.ntmps62 rfl fun X => ?_
  repeat' (first | apply pwp_region | (apply px_run; (first | (apply opv_move; first | rfl) | (apply opv_len_ints el_int; rfl; (first | exact rd_row 0 rfl))); rfl; rfl) | apply px_nil | (apply px_turns [0]; rfl; rfl; rfl; rfl; rfl; exact fun w ho => x_stable_c _ l f cs c _ ho hl hp))
  refine qbody_end0 rfl ⟨rfl, fun w' h => h⟩
end Go.Proofs.Ytaadjebiglihlaa
