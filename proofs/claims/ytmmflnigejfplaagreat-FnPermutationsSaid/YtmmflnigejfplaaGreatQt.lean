/- Graphs of pairs; quotients. -/
import Derived.Test.YtmmflnigejfplaaGreatKd
import Derived.Test.YtmmflnigejfplaaGreatPwPqt
namespace Go.Proofs.YtmmflnigejfplaaGreat
open Go Go.RowKit Go.Pw
def flipL (R : List Int) (v w : Nat) : List Int :=
  let R1 := R.set v (ixor (R.getD v 0) (ishl 1 w))
  R1.set w (ixor (R1.getD w 0) (ishl 1 v))
theorem en_i_flip : Entry Tryz.prog 73 := ⟨_, Tryz.func73, by kernel_rfl, rfl⟩
theorem i_flip_c (size : Int) (sv : Value) (R : List Int) (v u : Nat) (w : World) (ho : Own w [.row 3 sv (ints R)]) (hv : v < R.length) (hu : u < R.length) :
    Turns Tryz.prog 73 #[.agg #[.int .i64 size, sv], .int .i64 v, .int .i64 u] w [.row 3 sv (ints R)] [.row 3 sv (ints (flipL R v u))] (.tuple #[]) := by
  refine turns_enter (args := [_, _, _]) ho en_i_flip Tryz.func73 rfl Tryz.ntmps73 rfl fun X => ?_
  repeat' (first | apply pwp_seq | apply pwp_region | (apply px_run; (first | (apply opv_move; first | exact hid_int rfl) | (apply opv_xor <;> rfl) | (apply opv_shl; rfl; rfl; omega) | (apply opv_field fld_G1; rfl) | (apply opv_load_blk 0; (first | with_reducible exact sc_int | with_reducible exact sc_ints); rfl; rfl; rfl) | (apply opv_load_ints sc_int; rfl; (first | exact rd_row 1 rfl); (first | omega | (simp only [List.length_set]; omega))) | (apply opv_index_nat (vs := ints _) el_int; (case hr => exact rd_row 1 rfl); (case hx => rfl); (case hy => rfl); (first | (simp only [ints_length]; omega) | (simp [ints]; omega)))); rfl; rfl) | apply px_nil | apply qseq_normal | (apply pwp_region_any [0, 1, 2, 3, 4, 5, 6, 7, 8] [9] 1 (Cl X w [.blk _ [.int .i64 size, sv], .row 3 sv _]); kernel_rfl; decide +kernel; exact Cl.stable _ _ _; exact fun w h => h.sub (by repeat (first | exact List.Sublist.refl _))) | apply qlooks_normal | (apply qstep_out; decide +kernel) | (apply pxa_nil; decide +kernel) | (apply pxa_one 9; decide +kernel; rfl) | (apply px_box; rfl; rfl; rfl; rfl; intro bk) | (apply px_store_int 1 co_int; rfl; rfl; rfl; (first | omega | (simp; omega)); rfl))
  refine qbody_end0 rfl ⟨rfl, fun w' h => ?_⟩
  unfold flipL
  exact Cl.sub (by assumption) (by repeat (first | exact List.Sublist.slnil | exact List.Sublist.refl _ | apply List.Sublist.cons_cons | exact List.sublist_append_left _ _ | exact List.sublist_append_right _ _ | apply List.Sublist.cons))
theorem flipL_pair {n v u : Nat} {P : Nat → Nat → Bool} (hn : n ≤ 7) (hv : v < n) (hu : u < n) (hvu : v ≠ u) (h1 : P v u = false) (h2 : P u v = false) : flipL (gRows n P) v u = gRows n (pairAdd P v u) := by
  obtain ⟨p1, p2⟩ := gRows_pair hn hv hu hvu h1 h2
  unfold flipL
  rw [gRows_get P hv, (mask_new hn hu h1).1]
  dsimp only
  rw [p1, (mask_new hn hv h2).1, p2]
theorem en_i_graphOf : Entry Tryz.prog 47 := ⟨_, Tryz.func47, by kernel_rfl, rfl⟩
set_option maxHeartbeats 1000000 in
theorem i_graphOf_c (n : Nat) (f : FuncId) (cs : List Value) (J : Nat → Nat → Bool) (w : World) (hn : n ≤ 7)
    (hp : ∀ (v u : Nat) w', v < n → u < n → Below w.heap.size w w' → Pure Tryz.prog f ([Value.int .i64 v, Value.int .i64 u] ++ cs).toArray w' (.bool (J v u))) :
    Gives Tryz.prog 47 #[.int .i64 n, .func (.func f) #[] cs.toArray] w (fun v objs => ∃ sv, v = .agg #[.int .i64 n, sv] ∧ objs = [.row 3 sv (ints (gRows n (seenP J n 0)))]) := by
  refine gives_enter (args := [_, _]) en_i_graphOf Tryz.func47 rfl Tryz.ntmps47 rfl ?_
  repeat' (first | apply pwp_seq | apply pwp_region | (apply px_run; (first | (apply opv_move; first | exact hid_int rfl) | (apply opv_build2 bl_G; rfl; rfl; (first | exact rd_row 0 rfl))); rfl; rfl) | apply px_nil | apply qseq_normal | apply pwp_block | (apply px_make ez_int; rfl; rfl; rfl; rfl; rfl; omega; (simp only [maxLen]; omega); intro sv) | (apply px_alloc st_G; rfl; rfl; rfl; intro bk) | (apply px_store_str 0 st_G; rfl; rfl; rfl; rfl; rfl; (intro w hw; (first | refine all2 rfl ?_ ?_) <;> (first | rfl | exact stor_row 1 hw rfl)); rfl))
  rename_i bk1
  have h0 : gRows n (seenP J 0 0) = List.replicate n 0 := gRows_none fun i u _ _ => seenP_zero J i u
  refine pwp_loop (τ := Nat) [(6,7), (13,29)] (fun k => [(13, .int .i64 (k : Int))]) (fun k => Cl [] w [.blk bk [.int .i64 n, sv], .row 3 sv (ints (gRows n (seenP J k 0))), .blk bk1 [.int .i64 0, .slice none 0 0]]) (fun k => k ≤ n) (fun k => n - k) 0
    ⟨rfl, trivial⟩ (Nat.zero_le _) (fun _ h => by rw [h0, show ints (List.replicate n 0) = List.replicate n (Value.int .i64 0) by simp [ints]]; exact h) (fun J1 k hk => ?_)
  by_cases hlt : k < n
  · repeat' (first | apply pwp_seq | apply pwp_region | (apply px_run; (first | (apply opv_move; first | exact hid_int rfl) | (apply opv_assign; first | exact hid_int rfl) | (apply opv_lss <;> rfl)); rfl; rfl) | apply px_nil | apply qseq_normal | apply pwp_block | apply pwp_skip | (apply pwp_cond_dec; rfl; all_goals (intro hc; try (first | (exfalso; omega)))))
    refine pwp_loop (τ := Nat) [(7,7), (17,28)] (fun j => [(17, .int .i64 (j : Int))]) (fun j => Cl [] w [.blk bk [.int .i64 n, sv], .row 3 sv (ints (gRows n (seenP J k j))), .blk bk1 [.int .i64 0, .slice none 0 0]]) (fun j => j ≤ k) (fun j => k - j) 0
      ⟨rfl, trivial⟩ (Nat.zero_le _) (fun _ h => h) (fun J2 j hj => ?_)
    by_cases hlt2 : j < k
    · obtain ⟨n1, n2⟩ := seenP_new J hlt2
      have hjl : j < (gRows n (seenP J k j)).length := by rw [gRows_length]; omega
      have hkl : k < (gRows n (seenP J k j)).length := by rw [gRows_length]; omega
      have hfl := flipL_pair (P := seenP J k j) hn (show j < n by omega) hlt (by omega) n1 n2
      repeat' (first | apply pwp_seq | apply pwp_region | (apply px_run; (first | (apply opv_move; first | exact hid_int rfl | rfl) | (apply opv_assign; first | exact hid_int rfl) | (apply opv_lss <;> rfl) | (apply opv_add_in; rfl; rfl; omega) | (apply opv_load_str 0 st_G; rfl; rfl; rfl) | (apply opv_callx; rfl; rfl; exact Cl.stable _ _ _; exact fun w hw => hp j k w (by omega) hlt hw.below)); rfl; rfl) | apply px_nil | apply qseq_normal | apply pwp_block | apply qblock_normal | apply pwp_skip | (apply pwp_cond_dec; rfl; all_goals (intro hc; try (first | (exfalso; omega)))) | (apply pwp_cond; rfl; all_goals (intro hc; try (first | fail))) | (apply px_turns [1]; rfl; rfl; rfl; rfl; rfl; exact fun w ho => i_flip_c _ _ _ _ _ _ ho hjl hkl))
      · refine qround_normal ?_ ⟨j + 1, ⟨rfl, trivial⟩, by omega, by omega, fun w' h => ?_⟩
        · repeat (first | exact same_refl | refine same_upd rfl ?_ | refine same_junk rfl ?_)
        · rw [hfl, gRows_congr (Q := seenP J k (j + 1)) (fun i u _ _ => seenP_yes J hlt2 hc i u)] at h
          exact h.perm (.swap _ _ _)
      · refine qround_normal ?_ ⟨j + 1, ⟨rfl, trivial⟩, by omega, by omega, fun w' h => ?_⟩
        · repeat (first | exact same_refl | refine same_upd rfl ?_ | refine same_junk rfl ?_)
        · rw [← gRows_congr (P := seenP J k j) (fun i u _ _ => seenP_no J hlt2 hc i u)]
          exact h
    · obtain rfl : j = k := by omega
      repeat' (first | apply pwp_seq | apply pwp_region | (apply px_run; (first | (apply opv_move; first | exact hid_int rfl) | (apply opv_lss <;> rfl) | (apply opv_add_in; rfl; rfl; omega)); rfl; rfl) | apply px_nil | apply qseq_normal | apply qseq_exit | apply qblock_normal | (apply qblock_exit_same; rfl) | apply pwp_exit | apply qround_exit | (apply pwp_cond_dec; rfl; all_goals (intro hc; try (first | (exfalso; omega)))))
      refine qround_normal ?_ ⟨j + 1, ⟨rfl, trivial⟩, by omega, by omega, fun w' h => ?_⟩
      · repeat (first | exact same_refl | refine same_upd rfl ?_ | refine same_junk rfl ?_)
      · rw [← gRows_congr (P := seenP J j j) (fun i u _ _ => seenP_next J j i u)]
        exact h
  · obtain rfl : k = n := by omega
    repeat' (first | apply pwp_seq | apply pwp_region | (apply px_run; (first | (apply opv_lss <;> rfl) | (apply opv_load_str 0 st_G; rfl; rfl; rfl)); rfl; rfl) | apply px_nil | apply qseq_normal | apply qseq_exit | (apply qblock_exit_same; rfl) | apply pwp_exit | apply pwp_ret | apply qround_exit | (apply pwp_cond_dec; rfl; all_goals (intro hc; try (first | (exfalso; omega)))) | (apply px_store_str 2 st_G; rfl; rfl; rfl; rfl; rfl; (intro w hw; (first | refine all2 rfl ?_ ?_) <;> (first | rfl | exact stor_row 1 hw rfl)); rfl))
    refine qbody_cell 2 rfl st_G rfl rfl rfl ⟨_, ⟨sv, rfl, rfl⟩, fun w' h => ?_⟩
    exact Cl.sub (by assumption) (by repeat (first | exact List.Sublist.slnil | exact List.Sublist.refl _ | apply List.Sublist.cons_cons | exact List.sublist_append_left _ _ | exact List.sublist_append_right _ _ | apply List.Sublist.cons))
theorem en_s_l2Copy : Entry Tryz.prog 74 := ⟨_, Tryz.func74, by kernel_rfl, rfl⟩
set_option maxHeartbeats 800000 in
theorem s_l2Copy_c (size : Int) (gv : Value) (rows : List Int) (w : World) (hr : Arr w gv (ints rows)) (hlen : rows.length ≤ 1048576) :
    Gives Tryz.prog 74 #[.agg #[.int .i64 size, gv]] w (fun v objs => ∃ sv', v = .agg #[.int .i64 size, sv'] ∧ objs = [.row 3 sv' (ints rows)]) := by
  refine gives_enter (args := [_]) en_s_l2Copy Tryz.func74 rfl Tryz.ntmps74 rfl ?_
  repeat' (first | apply pwp_seq | apply pwp_region | (apply px_run; (first | (apply opv_field fld_G0; rfl) | (apply opv_field fld_G1; rfl) | (apply opv_load_blk 0; (first | with_reducible exact sc_int | with_reducible exact sc_ints); rfl; rfl; rfl) | (apply opv_build2 bl_G; rfl; rfl; (first | exact rd_row 0 rfl))); rfl; rfl) | apply px_nil | apply qseq_normal | apply pwp_ret | (apply pwp_region_any [0, 1, 3, 4] [] 4 (Cl [] w [.blk _ [.int .i64 size, gv]]); kernel_rfl; decide +kernel; exact Cl.stable _ _ _; exact fun w h => h.sub (by repeat (first | exact List.Sublist.refl _ | apply List.Sublist.cons))) | apply qlooks_normal | (apply qstep_in; exact fun w h => h.sub (by repeat (first | exact List.Sublist.refl _ | apply List.Sublist.cons))) | (apply pxa_nil; decide +kernel) | (apply pxa_one 2; decide +kernel; rfl) | (apply pxa_one 5; decide +kernel; rfl) | (apply pxa_one 6; decide +kernel; rfl) | (apply pxa_one 7; decide +kernel; rfl) | (apply px_box; rfl; rfl; rfl; rfl; intro bk) | (apply px_alloc st_G; rfl; rfl; rfl; intro bk) | (apply px_store_str 1 st_G; rfl; rfl; rfl; rfl; rfl; (intro w hw; (first | refine all2 rfl ?_ ?_) <;> (first | rfl | exact stor_row 0 hw rfl)); rfl) | (apply px_lit0 ez_int; rfl; rfl; rfl; intro sv) | (apply px_append 0 ez_int; rfl; rfl; rfl; (first | exact rd_old (by assumption)); (first | exact fun _ _ => stor_ints); (simp [ints]; omega); decide; rfl; rfl; intro sv))
  refine qbody_cell 1 rfl st_G rfl rfl rfl ⟨_, ⟨_, rfl, rfl⟩, fun w' h => ?_⟩
  exact Cl.sub (by assumption) (by repeat (first | exact List.Sublist.slnil | exact List.Sublist.refl _ | apply List.Sublist.cons_cons | exact List.sublist_append_left _ _ | exact List.sublist_append_right _ _ | apply List.Sublist.cons))
theorem en_s_l2Pair : Entry Tryz.prog 82 := ⟨_, Tryz.func82, by kernel_rfl, rfl⟩
theorem s_l2Pair_c (size : Int) (sv : Value) (rows : List Int) (v u : Int) (w : World) (hr : Arr w sv (ints rows)) (hg : IsG size rows) (hv : 0 ≤ v ∧ v < size) (hu : 0 ≤ u ∧ u < size) (hvu : v ≠ u) :
    Pure Tryz.prog 82 #[.agg #[.int .i64 size, sv], .int .i64 v, .int .i64 u] w (.bool true) := by
  refine pure_enter (args := [_, _, _]) en_s_l2Pair Tryz.func82 rfl Tryz.ntmps82 rfl ?_
  repeat' (first | apply pwp_seq | apply pwp_region | (apply px_run; (first | (apply opv_move; first | exact hid_int rfl | exact hid_bool rfl) | (apply opv_assign; first | exact hid_bool rfl) | (apply opv_lss <;> rfl) | (apply opv_geq <;> rfl) | (apply opv_neq <;> rfl) | (apply opv_pick_t <;> rfl) | (apply opv_field fld_G0; rfl) | (apply opv_load_blk 0; (first | with_reducible exact sc_int); rfl; rfl; rfl) | (apply opv_load_str 0 st_G; rfl; rfl; rfl) | (apply opv_call; rfl; rfl; exact Cl.stable _ _ _; exact fun w hw => s_IsGraph_c _ _ rows _ (by first | exact hw.arr (by assumption)))); rfl; rfl) | apply px_nil | apply qseq_normal | apply pwp_ret | (apply px_guard_dec; rfl; rfl; rfl; all_goals (intro hc; try (first | contradiction | (exfalso; omega)))) | (apply px_box; rfl; rfl; rfl; rfl; intro bk))
  all_goals first
    | exact absurd hg (by assumption)
    | refine qbody_ret1 (v := .bool _) rfl rfl ⟨by first | rfl | (congr 1; simp_all), fun _ h => h.below⟩
theorem en_s_AddEdge : Entry Tryz.prog 50 := ⟨_, Tryz.func50, by kernel_rfl, rfl⟩
set_option maxHeartbeats 1000000 in
theorem s_AddEdge_c (n : Nat) (gv : Value) (P : Nat → Nat → Bool) (v u : Nat) (w : World) (hr : Arr w gv (ints (gRows n P))) (h1 : 1 ≤ n) (hn : n ≤ 7) (hs : ∀ i u, P i u = P u i) (hi : ∀ i, P i i = false)
    (hv : v < n) (hu : u < n) (hvu : v ≠ u) (hP : P v u = false) :
    Gives Tryz.prog 50 #[.agg #[.int .i64 n, gv], .int .i64 v, .int .i64 u] w (fun x objs => ∃ sv', x = .tuple #[.agg #[.int .i64 n, sv'], .bool true] ∧ objs = [.row 3 sv' (ints (gRows n (pairAdd P v u)))]) := by
  have hg := gRows_isG h1 hn hs hi
  have hlen : (gRows n P).length = n := gRows_length n P
  have hhas := gRows_has hn P hv hu
  have hvu' : (v : Int) ≠ u := by omega
  obtain ⟨p1, p2⟩ := gRows_pair hn hv hu hvu hP (by rw [hs]; exact hP)
  obtain ⟨_, m1⟩ := mask_new hn hu hP
  obtain ⟨_, m2⟩ := mask_new (f := P u) hn hv (by rw [hs]; exact hP)
  have h7 : 2 ^ n ≤ 2 ^ 7 := Nat.pow_le_pow_right (by omega) hn
  have l1 := maskU_lt (fun x => P v x || decide (x = u)) n
  have l2 := maskU_lt (fun x => P u x || decide (x = v)) n
  have b1 : (gRows n P).getD v 0 + ishl 1 (u : Int) = ((maskU (fun x => P v x || decide (x = u)) n : Nat) : Int) := by rw [gRows_get P hv]; exact m1
  have b2 : ((gRows n P).set v ((gRows n P).getD v 0 + ishl 1 (u : Int))).getD u 0 + ishl 1 (v : Int) = ((maskU (fun x => P u x || decide (x = v)) n : Nat) : Int) := by rw [b1, p1]; exact m2
  refine gives_enter (args := [_, _, _]) en_s_AddEdge Tryz.func50 rfl Tryz.ntmps50 rfl ?_
  repeat' (first | apply pwp_seq | apply pwp_region | (apply px_run; (first | (apply opv_move; first | exact hid_int rfl | exact hid_bool rfl) | (apply opv_assign; first | exact hid_bool rfl) | (apply opv_pick_f <;> rfl) | (apply opv_not <;> rfl) | (apply opv_add_in; rfl; rfl; omega) | (apply opv_shl; rfl; rfl; omega) | (apply opv_field fld_G1; rfl) | (apply opv_load_blk 0; (first | with_reducible exact sc_int | with_reducible exact sc_ints); rfl; rfl; rfl) | (apply opv_load_ints sc_int; rfl; (first | exact rd_row 1 rfl); (first | omega | (simp only [List.length_set]; omega))) | (apply opv_index_nat (vs := ints _) el_int; (case hr => exact rd_row 1 rfl); (case hx => rfl); (case hy => rfl); (first | (simp only [ints_length]; omega) | (simp [ints]; omega))) | (apply opv_load_str 0 st_G; rfl; rfl; rfl) | (apply opv_load_str 1 st_G; rfl; rfl; rfl) | (apply opv_load_str 3 st_G; rfl; rfl; rfl) | (apply opv_call; rfl; rfl; exact Cl.stable _ _ _; exact fun w hw => s_l2Pair_c _ _ _ _ _ _ (by first | exact hw.arr (by assumption)) hg (by omega) (by omega) hvu') | (apply opv_call; rfl; rfl; exact Cl.stable _ _ _; exact fun w hw => s_l2Edge_c _ _ (gRows n P) _ _ _ (by first | exact hw.arr (by assumption)) (by omega) (by omega))); rfl; rfl) | apply px_nil | apply qseq_normal | apply qseq_ret | apply pwp_skip | apply pwp_ret | (apply pwp_region_any [0, 1, 2, 3, 4, 5, 6, 7, 8, 9, 10, 11] [12] 1 (Cl [] w [.blk _ [.int .i64 n, sc], .row 3 sc _, .blk _ _, .blk _ _]); kernel_rfl; decide +kernel; exact Cl.stable _ _ _; exact fun w h => h.sub (by repeat (first | exact List.Sublist.refl _))) | apply qlooks_normal | (apply qstep_out; decide +kernel) | (apply pxa_nil; decide +kernel) | (apply pxa_one 12; decide +kernel; rfl) | (apply pwp_cond; rfl; all_goals (intro hc; try (first | fail))) | (apply px_box; rfl; rfl; rfl; rfl; intro bk) | (apply px_alloc st_G; rfl; rfl; rfl; intro bk) | (apply px_store_str 0 st_G; rfl; rfl; rfl; rfl; rfl; (intro w hw; (first | refine all2 rfl ?_ ?_) <;> (first | rfl | exact stor_row 1 hw rfl)); rfl) | (apply px_store_str 2 st_G; rfl; rfl; rfl; rfl; rfl; (intro w hw; (first | refine all2 rfl ?_ ?_) <;> (first | rfl | exact stor_row 1 hw rfl)); rfl) | (apply px_store_int 1 co_int; rfl; rfl; rfl; (first | omega | (simp; omega)); rfl) | (apply px_gives; rfl; rfl; rfl; rfl; rfl; exact fun w hw => s_l2Copy_c _ _ (gRows n P) _ (by first | exact hw.arr (by assumption)) (by omega); rintro _ _ ⟨sc, rfl, rfl⟩))
  · exact absurd hc (by rw [show hasB ((gRows n P).getD (Int.toNat (v : Int)) 0) (u : Int) = P v u from hhas, hP]; exact Bool.false_ne_true)
  · refine qbody_cell_tmp 2 rfl st_G rfl rfl rfl rfl ⟨_, ⟨sc, rfl, rfl⟩, fun w' h => ?_⟩
    rw [b2, b1, p2] at h
    exact Cl.sub (by assumption) (by repeat (first | exact List.Sublist.slnil | exact List.Sublist.refl _ | apply List.Sublist.cons_cons | exact List.sublist_append_left _ _ | exact List.sublist_append_right _ _ | apply List.Sublist.cons))
end Go.Proofs.YtmmflnigejfplaaGreat
