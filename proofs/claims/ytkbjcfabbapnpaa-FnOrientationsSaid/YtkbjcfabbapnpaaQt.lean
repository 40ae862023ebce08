/- Graphs of pairs; quotients. -/
import Derived.Test.YtkbjcfabbapnpaaKd
import Derived.Test.YtkbjcfabbapnpaaPwPqt
namespace Go.Proofs.Ytkbjcfabbapnpaa
open Go Go.RowKit Go.Pw
def flipL (R : List Int) (v w : Nat) : List Int :=
  let R1 := R.set v (ixor (R.getD v 0) (ishl 1 w))
  R1.set w (ixor (R1.getD w 0) (ishl 1 v))
theorem en_i_flip : Entry Try.prog 38 := ⟨_, Try.func38, by kernel_rfl, rfl⟩
theorem i_flip_c (size : Int) (sv : Value) (R : List Int) (v u : Nat) (w : World) (ho : Own w [.row 3 sv (ints R)]) (hv : v < R.length) (hu : u < R.length) :
    Turns Try.prog 38 #[.agg #[.int .i64 size, sv], .int .i64 v, .int .i64 u] w [.row 3 sv (ints R)] [.row 3 sv (ints (flipL R v u))] (.tuple #[]) := by
  refine turns_enter (args := [_, _, _]) ho en_i_flip Try.func38 rfl Try.ntmps38 rfl fun X => ?_
  repeat' (first | apply pwp_seq | apply pwp_region | (apply px_run; (first | (apply opv_move; first | exact hid_int rfl) | (apply opv_xor <;> rfl) | (apply opv_shl; rfl; rfl; omega) | (apply opv_field fld_G1; rfl) | (apply opv_load_blk 0; (first | with_reducible exact sc_int | with_reducible exact sc_ints); rfl; rfl; rfl) | (apply opv_load_ints sc_int; rfl; (first | exact rd_row 1 rfl); (first | omega | (simp only [List.length_set]; omega))) | (apply opv_index_nat (vs := ints _) el_int; (case hr => exact rd_row 1 rfl); (case hx => rfl); (case hy => rfl); (first | (simp only [ints_length]; omega) | (simp [ints]; omega)))); rfl; rfl) | apply px_nil | apply qseq_normal | (apply pwp_region_any [0, 1, 2, 3, 4, 5, 6, 7, 8] [9] 1 (Cl X w [.blk _ [.int .i64 size, sv], .row 3 sv _]); kernel_rfl; decide +kernel; exact Cl.stable _ _ _; exact fun w h => h.sub (by repeat (first | exact List.Sublist.refl _))) | apply qlooks_normal | (apply qstep_out; decide +kernel) | (apply pxa_nil; decide +kernel) | (apply pxa_one 9; decide +kernel; rfl) | (apply px_box; rfl; rfl; rfl; rfl; intro bk) | (apply px_store_int 1 co_int; rfl; rfl; rfl; (first | omega | (simp; omega)); rfl))
  refine qbody_end0 rfl ⟨rfl, fun w' h => ?_⟩
  unfold flipL
  exact Cl.sub (by assumption) (by repeat (first | exact List.Sublist.slnil | exact List.Sublist.refl _ | apply List.Sublist.cons_cons | exact List.sublist_append_left _ _ | exact List.sublist_append_right _ _ | apply List.Sublist.cons))
theorem flipL_pair {n v u : Nat} {P : Nat → Nat → Bool} (hn : n ≤ 7) (hv : v < n) (hu : u < n) (hvu : v ≠ u) (h1 : P v u = false) (h2 : P u v = false) : flipL (gRows n P) v u = gRows n (pairAdd P v u) := by
  obtain ⟨p1, p2⟩ := gRows_pair hn hv hu hvu h1 h2
  unfold flipL
  rw [gRows_get P hv, (mask_new hn hu h1).1]
  dsimp only
  rw [p1, (mask_new hn hv h2).1, p2]
theorem en_s_l2Copy : Entry Try.prog 39 := ⟨_, Try.func39, by kernel_rfl, rfl⟩
set_option maxHeartbeats 800000 in
theorem s_l2Copy_c (size : Int) (gv : Value) (rows : List Int) (w : World) (hr : Arr w gv (ints rows)) (hlen : rows.length ≤ 1048576) :
    Gives Try.prog 39 #[.agg #[.int .i64 size, gv]] w (fun v objs => ∃ sv', v = .agg #[.int .i64 size, sv'] ∧ objs = [.row 3 sv' (ints rows)]) := by
  refine gives_enter (args := [_]) en_s_l2Copy Try.func39 rfl Try.ntmps39 rfl ?_
  repeat' (first | apply pwp_seq | apply pwp_region | (apply px_run; (first | (apply opv_field fld_G0; rfl) | (apply opv_field fld_G1; rfl) | (apply opv_load_blk 0; (first | with_reducible exact sc_int | with_reducible exact sc_ints); rfl; rfl; rfl) | (apply opv_build2 bl_G; rfl; rfl; (first | exact rd_row 0 rfl))); rfl; rfl) | apply px_nil | apply qseq_normal | apply pwp_ret | (apply pwp_region_any [0, 1, 3, 4] [] 4 (Cl [] w [.blk _ [.int .i64 size, gv]]); kernel_rfl; decide +kernel; exact Cl.stable _ _ _; exact fun w h => h.sub (by repeat (first | exact List.Sublist.refl _ | apply List.Sublist.cons))) | apply qlooks_normal | (apply qstep_in; exact fun w h => h.sub (by repeat (first | exact List.Sublist.refl _ | apply List.Sublist.cons))) | (apply pxa_nil; decide +kernel) | (apply pxa_one 2; decide +kernel; rfl) | (apply pxa_one 5; decide +kernel; rfl) | (apply pxa_one 6; decide +kernel; rfl) | (apply pxa_one 7; decide +kernel; rfl) | (apply px_box; rfl; rfl; rfl; rfl; intro bk) | (apply px_alloc st_G; rfl; rfl; rfl; intro bk) | (apply px_store_str 1 st_G; rfl; rfl; rfl; rfl; rfl; (intro w hw; (first | refine all2 rfl ?_ ?_) <;> (first | rfl | exact stor_row 0 hw rfl)); rfl) | (apply px_lit0 ez_int; rfl; rfl; rfl; intro sv) | (apply px_append 0 ez_int; rfl; rfl; rfl; (first | exact rd_old (by assumption)); (first | exact fun _ _ => stor_ints); (simp [ints]; omega); decide; rfl; rfl; intro sv))
  refine qbody_cell 1 rfl st_G rfl rfl rfl ⟨_, ⟨_, rfl, rfl⟩, fun w' h => ?_⟩
  exact Cl.sub (by assumption) (by repeat (first | exact List.Sublist.slnil | exact List.Sublist.refl _ | apply List.Sublist.cons_cons | exact List.sublist_append_left _ _ | exact List.sublist_append_right _ _ | apply List.Sublist.cons))
theorem en_s_l2Pair : Entry Try.prog 65 := ⟨_, Try.func65, by kernel_rfl, rfl⟩
theorem s_l2Pair_c (size : Int) (sv : Value) (rows : List Int) (v u : Int) (w : World) (hr : Arr w sv (ints rows)) (hg : IsG size rows) (hv : 0 ≤ v ∧ v < size) (hu : 0 ≤ u ∧ u < size) (hvu : v ≠ u) :
    Pure Try.prog 65 #[.agg #[.int .i64 size, sv], .int .i64 v, .int .i64 u] w (.bool true) := by
  refine pure_enter (args := [_, _, _]) en_s_l2Pair Try.func65 rfl Try.ntmps65 rfl ?_
  repeat' (first | apply pwp_seq | apply pwp_region | (apply px_run; (first | (apply opv_move; first | exact hid_int rfl | exact hid_bool rfl) | (apply opv_assign; first | exact hid_bool rfl) | (apply opv_lss <;> rfl) | (apply opv_geq <;> rfl) | (apply opv_neq <;> rfl) | (apply opv_pick_t <;> rfl) | (apply opv_field fld_G0; rfl) | (apply opv_load_blk 0; (first | with_reducible exact sc_int); rfl; rfl; rfl) | (apply opv_load_str 0 st_G; rfl; rfl; rfl) | (apply opv_call; rfl; rfl; exact Cl.stable _ _ _; exact fun w hw => s_IsGraph_c _ _ rows _ (by first | exact hw.arr (by assumption)))); rfl; rfl) | apply px_nil | apply qseq_normal | apply pwp_ret | (apply px_guard_dec; rfl; rfl; rfl; all_goals (intro hc; try (first | contradiction | (exfalso; omega)))) | (apply px_box; rfl; rfl; rfl; rfl; intro bk))
  all_goals first
    | exact absurd hg (by assumption)
    | refine qbody_ret1 (v := .bool _) rfl rfl ⟨by first | rfl | (congr 1; simp_all), fun _ h => h.below⟩
theorem en_s_AddEdge : Entry Try.prog 61 := ⟨_, Try.func61, by kernel_rfl, rfl⟩
set_option maxHeartbeats 1000000 in
theorem s_AddEdge_c (n : Nat) (gv : Value) (P : Nat → Nat → Bool) (v u : Nat) (w : World) (hr : Arr w gv (ints (gRows n P))) (h1 : 1 ≤ n) (hn : n ≤ 7) (hs : ∀ i u, P i u = P u i) (hi : ∀ i, P i i = false)
    (hv : v < n) (hu : u < n) (hvu : v ≠ u) (hP : P v u = false) :
    Gives Try.prog 61 #[.agg #[.int .i64 n, gv], .int .i64 v, .int .i64 u] w (fun x objs => ∃ sv', x = .tuple #[.agg #[.int .i64 n, sv'], .bool true] ∧ objs = [.row 3 sv' (ints (gRows n (pairAdd P v u)))]) := by
  have hg := gRows_isG h1 hn hs hi
  have hlen : (gRows n P).length = n := gRows_length n P
  have hhas := gRows_has hn P hv hu
  have hvu' : (v : Int) ≠ u := by omega
  obtain ⟨p1, p2⟩ := gRows_pair hn hv hu hvu hP (by rw [hs]; exact hP)
  obtain ⟨_, m1⟩ := mask_new hn hu hP
  obtain ⟨_, m2⟩ := mask_new (f := P u) hn hv (by rw [hs]; exact hP)
  have h7 : 2 ^ n ≤ 2 ^ 7 := Nat.pow_le_pow_right (by omega) hn
  have l1 := maskU_lt (fun x => P v x || decide (x = u)) n
  have l2 := maskU_lt (fun x => P u x || decide (x = v)) n
  have b1 : (gRows n P).getD v 0 + ishl 1 (u : Int) = ((maskU (fun x => P v x || decide (x = u)) n : Nat) : Int) := by rw [gRows_get P hv]; exact m1
  have b2 : ((gRows n P).set v ((gRows n P).getD v 0 + ishl 1 (u : Int))).getD u 0 + ishl 1 (v : Int) = ((maskU (fun x => P u x || decide (x = v)) n : Nat) : Int) := by rw [b1, p1]; exact m2
  refine gives_enter (args := [_, _, _]) en_s_AddEdge Try.func61 rfl Try.ntmps61 rfl ?_
  repeat' (first | apply pwp_seq | apply pwp_region | (apply px_run; (first | (apply opv_move; first | exact hid_int rfl | exact hid_bool rfl) | (apply opv_assign; first | exact hid_bool rfl) | (apply opv_pick_f <;> rfl) | (apply opv_not <;> rfl) | (apply opv_add_in; rfl; rfl; omega) | (apply opv_shl; rfl; rfl; omega) | (apply opv_field fld_G1; rfl) | (apply opv_load_blk 0; (first | with_reducible exact sc_int | with_reducible exact sc_ints); rfl; rfl; rfl) | (apply opv_load_ints sc_int; rfl; (first | exact rd_row 1 rfl); (first | omega | (simp only [List.length_set]; omega))) | (apply opv_index_nat (vs := ints _) el_int; (case hr => exact rd_row 1 rfl); (case hx => rfl); (case hy => rfl); (first | (simp only [ints_length]; omega) | (simp [ints]; omega))) | (apply opv_load_str 0 st_G; rfl; rfl; rfl) | (apply opv_load_str 1 st_G; rfl; rfl; rfl) | (apply opv_load_str 3 st_G; rfl; rfl; rfl) | (apply opv_call; rfl; rfl; exact Cl.stable _ _ _; exact fun w hw => s_l2Pair_c _ _ _ _ _ _ (by first | exact hw.arr (by assumption)) hg (by omega) (by omega) hvu') | (apply opv_call; rfl; rfl; exact Cl.stable _ _ _; exact fun w hw => s_l2Edge_c _ _ (gRows n P) _ _ _ (by first | exact hw.arr (by assumption)) (by omega) (by omega))); rfl; rfl) | apply px_nil | apply qseq_normal | apply qseq_ret | apply pwp_skip | apply pwp_ret | (apply pwp_region_any [0, 1, 2, 3, 4, 5, 6, 7, 8, 9, 10, 11] [12] 1 (Cl [] w [.blk _ [.int .i64 n, sc], .row 3 sc _, .blk _ _, .blk _ _]); kernel_rfl; decide +kernel; exact Cl.stable _ _ _; exact fun w h => h.sub (by repeat (first | exact List.Sublist.refl _))) | apply qlooks_normal | (apply qstep_out; decide +kernel) | (apply pxa_nil; decide +kernel) | (apply pxa_one 12; decide +kernel; rfl) | (apply pwp_cond; rfl; all_goals (intro hc; try (first | fail))) | (apply px_box; rfl; rfl; rfl; rfl; intro bk) | (apply px_alloc st_G; rfl; rfl; rfl; intro bk) | (apply px_store_str 0 st_G; rfl; rfl; rfl; rfl; rfl; (intro w hw; (first | refine all2 rfl ?_ ?_) <;> (first | rfl | exact stor_row 1 hw rfl)); rfl) | (apply px_store_str 2 st_G; rfl; rfl; rfl; rfl; rfl; (intro w hw; (first | refine all2 rfl ?_ ?_) <;> (first | rfl | exact stor_row 1 hw rfl)); rfl) | (apply px_store_int 1 co_int; rfl; rfl; rfl; (first | omega | (simp; omega)); rfl) | (apply px_gives; rfl; rfl; rfl; rfl; rfl; exact fun w hw => s_l2Copy_c _ _ (gRows n P) _ (by first | exact hw.arr (by assumption)) (by omega); rintro _ _ ⟨sc, rfl, rfl⟩))
  · exact absurd hc (by rw [show hasB ((gRows n P).getD (Int.toNat (v : Int)) 0) (u : Int) = P v u from hhas, hP]; exact Bool.false_ne_true)
  · refine qbody_cell_tmp 2 rfl st_G rfl rfl rfl rfl ⟨_, ⟨sc, rfl, rfl⟩, fun w' h => ?_⟩
    rw [b2, b1, p2] at h
    exact Cl.sub (by assumption) (by repeat (first | exact List.Sublist.slnil | exact List.Sublist.refl _ | apply List.Sublist.cons_cons | exact List.sublist_append_left _ _ | exact List.sublist_append_right _ _ | apply List.Sublist.cons))
end Go.Proofs.Ytkbjcfabbapnpaa
