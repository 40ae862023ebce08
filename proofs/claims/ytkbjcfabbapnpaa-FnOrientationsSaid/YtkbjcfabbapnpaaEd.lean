/- Lists of edges; greatest matchings; marks on slices of slices. -/
import Derived.Test.YtkbjcfabbapnpaaLk
import Derived.Test.YtkbjcfabbapnpaaPwSS
import Derived.Test.YtkbjcfabbapnpaaPwBool
import Derived.Test.YtkbjcfabbapnpaaGs
import Derived.Test.YtkbjcfabbapnpaaPwPed
import Derived.Test.YtkbjcfabbapnpaaPwSM
namespace Go.Proofs.Ytkbjcfabbapnpaa
open Go Go.RowKit Go.Pw
theorem en_i_EdgesOf : Entry Try.prog 34 := ⟨_, Try.func34, by kernel_rfl, rfl⟩
set_option maxHeartbeats 1600000 in
theorem i_EdgesOf_c (size : Int) (gv : Value) (rows : List Int) (w : World) (hr : Arr w gv (ints rows)) :
    Gives Try.prog 34 #[.agg #[.int .i64 size, gv]] w (fun v objs => ∃ ps, lssOf ps = edgesL size rows ∧ objs = .row 24 v (svsOf ps) :: rowsOb 3 ps) := by
  refine gives_enter (args := [_]) en_i_EdgesOf Try.func34 rfl Try.ntmps34 rfl ?_
  by_cases hg : IsG size rows
  case neg =>
    repeat' (first | apply pwp_seq | apply pwp_region | (apply px_run; (first | (apply opv_move; first | rfl) | (apply opv_assign; first | rfl) | (apply opv_not_dec <;> rfl) | (apply opv_load_str 1 st_G; rfl; rfl; rfl) | (apply opv_call; rfl; rfl; exact Cl.stable _ _ _; exact fun w hw => i_IsGraph_c _ _ rows _ (by first | exact hw.arr (by assumption)))); rfl; rfl) | apply px_nil | apply qseq_normal | apply qseq_ret | apply pwp_ret | (apply pwp_cond_ndec; rfl; all_goals (intro hc; try (first | contradiction))) | (apply px_box; rfl; rfl; rfl; rfl; intro bk) | (apply px_lit0s ez_intss; rfl; rfl; rfl; intro sv))
    refine qbody_ret1 (v := sv) rfl rfl ⟨[.row 24 sv (svsOf [])], ⟨[], by unfold edgesL; rw [if_neg hg]; rfl, rfl⟩, fun w' h => ?_⟩
    exact Cl.sub (by assumption) (by repeat (first | exact List.Sublist.slnil | exact List.Sublist.refl _ | apply List.Sublist.cons_cons | exact List.sublist_append_left _ _ | exact List.sublist_append_right _ _ | apply List.Sublist.cons))
  obtain ⟨n, hn, hrl, hn1, hn7⟩ := isG_size hg
  repeat' (first | apply pwp_seq | apply pwp_region | (apply px_run; (first | (apply opv_move; first | exact hid_int rfl) | (apply opv_assign; first | rfl) | (apply opv_not_dec <;> rfl) | (apply opv_field fld_G1; rfl) | (apply opv_load_blk 1; (first | with_reducible exact sc_ints); rfl; rfl; rfl) | (apply opv_len_ints el_int; rfl; (first | exact rd_old (by assumption))) | (apply opv_load_str 1 st_G; rfl; rfl; rfl) | (apply opv_call; rfl; rfl; exact Cl.stable _ _ _; exact fun w hw => i_IsGraph_c _ _ rows _ (by first | exact hw.arr (by assumption)))); rfl; rfl) | apply px_nil | apply qseq_normal | apply pwp_block | apply pwp_skip | (apply pwp_cond_ndec; rfl; all_goals (intro hc; try (first | contradiction))) | (apply px_box; rfl; rfl; rfl; rfl; intro bk) | (apply px_lit0s ez_intss; rfl; rfl; rfl; intro sv))
  refine pwp_loop (τ := Nat × Value × Pairs) [(3,6), (15,37)] (fun x => [(15, .int .i64 (x.1 : Int)), (3, x.2.1)]) (fun x => Cl [] w (.row 24 x.2.1 (svsOf x.2.2) :: .blk bk [.int .i64 size, gv] :: rowsOb 3 x.2.2)) (fun x => x.1 ≤ n ∧ lssOf x.2.2 = edU rows n x.1) (fun x => n - x.1) (0, sv, [])
    ⟨rfl, rfl, trivial⟩ ⟨Nat.zero_le _, rfl⟩ (fun _ h => h) (fun J x hx => ?_)
  obtain ⟨v, so, ps⟩ := x
  dsimp only at hx ⊢
  obtain ⟨hv, he⟩ := hx
  by_cases hlt : v < n
  · repeat' (first | apply pwp_seq | apply pwp_region | (apply px_run; (first | (apply opv_move; first | exact hid_int rfl) | (apply opv_assign; first | exact hid_int rfl) | (apply opv_lss <;> rfl) | (apply opv_add_in; rfl; rfl; omega) | (apply opv_load_ints sc_int; rfl; (first | exact rd_old (by assumption)); (first | omega)) | (apply opv_index_nat (vs := ints _) el_int; rfl; rfl; (first | exact rd_old (by assumption)); (first | (simp only [ints_length]; omega)))); rfl; rfl) | apply px_nil | apply qseq_normal | apply pwp_block | apply pwp_skip | (apply pwp_cond_dec; rfl; all_goals (intro hc; try (first | (exfalso; omega)))))
    refine pwp_loop (τ := Nat × Value × Pairs) [(3,3), (6,6), (22,36)] (fun x => [(6, .int .i64 (x.1 : Int)), (3, x.2.1)]) (fun x => Cl [] w (.row 24 x.2.1 (svsOf x.2.2) :: .blk bk [.int .i64 size, gv] :: rowsOb 3 x.2.2)) (fun x => (v + 1 ≤ x.1 ∧ x.1 ≤ n) ∧ lssOf x.2.2 = edU rows n v ++ edRow rows v x.1) (fun x => n - x.1) (v + 1, so, ps)
      ⟨rfl, rfl, trivial⟩ ⟨⟨Nat.le_refl _, hlt⟩, by dsimp only; rw [edRow_low rows v _ (Nat.le_refl _), List.append_nil]; exact he⟩ (fun _ h => h) (fun J2 x hx => ?_)
    obtain ⟨u, so2, qs⟩ := x
    dsimp only at hx ⊢
    obtain ⟨⟨hu1, hu2⟩, he2⟩ := hx
    by_cases hlu : u < n
    · have hel : qs.length ≤ 98 := by
        have h1 := edU_length rows n v
        have h2 := edRow_length rows v u
        have h3 : v * n ≤ 7 * 7 := Nat.mul_le_mul (by omega) hn7
        have h4 := congrArg List.length he2
        rw [lssOf_length, List.length_append] at h4
        omega
      have hes := edRow_succ rows v u
      repeat' (first | apply pwp_seq | apply pwp_region | (apply px_run; (first | (apply opv_move; first | exact hid_int rfl | rfl) | (apply opv_assign; first | exact hid_int rfl | rfl) | (apply opv_lss <;> rfl) | (apply opv_add_in; rfl; rfl; omega) | (apply opv_field fld_G0; rfl) | (apply opv_load_blk 1; (first | with_reducible exact sc_int); rfl; rfl; rfl) | (apply opv_call; rfl; rfl; exact Cl.stable _ _ _; exact fun w hw => i_has_c _ _ _ (by omega))); rfl; rfl) | apply px_nil | apply qseq_normal | apply pwp_block | apply qblock_normal | apply pwp_skip | (apply pwp_cond_dec; rfl; all_goals (intro hc; try (first | (exfalso; omega)))) | (apply pwp_cond; rfl; all_goals (intro hc; try (first | fail))) | (apply px_lit2 ez_int; rfl; (intro w hw; (first | rfl)); rfl; (intro w hw; (first | rfl)); rfl; rfl; rfl; intro sv) | (apply px_lit1 ez_intss; rfl; (intro w hw; (first | exact stor_row 0 hw rfl)); rfl; rfl; rfl; intro sv) | (apply px_append 2 ez_intss; rfl; rfl; rfl; (first | exact rd_row 0 rfl); (intro w hw u hu; simp only [List.mem_singleton] at hu; subst hu; (first | exact stor_row 1 hw rfl)); (simp; omega); decide; rfl; rfl; intro sv))
      · rename_i e s1
        refine qround_normal ?_ ⟨(u + 1, sv, qs ++ [(e, [(v : Int), (u : Int)])]), ⟨rfl, rfl, trivial⟩, ⟨⟨by dsimp only; omega, by dsimp only; omega⟩, ?_⟩, by dsimp only; omega, fun w' h => ?_⟩
        · repeat (first | exact same_refl | refine same_upd rfl ?_ | refine same_junk rfl ?_)
        · dsimp only
          rw [hes, if_pos ⟨by omega, hc⟩, lssOf_snoc, he2, List.append_assoc]
        · dsimp only
          have := (h.sub (List.sublist_cons_self _ _)).perm (List.perm_append_singleton _ _).symm
          rw [rowsOb_snoc, svsOf_snoc]
          exact this
      · refine qround_normal ?_ ⟨(u + 1, so2, qs), ⟨rfl, rfl, trivial⟩, ⟨⟨by dsimp only; omega, by dsimp only; omega⟩, ?_⟩, by dsimp only; omega, fun _ h => h⟩
        · repeat (first | exact same_refl | refine same_upd rfl ?_ | refine same_junk rfl ?_)
        · dsimp only
          rw [hes, if_neg (fun h => by rw [h.2] at hc; cases hc), he2]
    · obtain rfl : u = n := by omega
      repeat' (first | apply pwp_seq | apply pwp_region | (apply px_run; (first | (apply opv_move; first | exact hid_int rfl) | (apply opv_lss <;> rfl) | (apply opv_add_in; rfl; rfl; omega) | (apply opv_field fld_G0; rfl) | (apply opv_load_blk 1; (first | with_reducible exact sc_int); rfl; rfl; rfl)); rfl; rfl) | apply px_nil | apply qseq_normal | apply qseq_exit | apply qblock_normal | (apply qblock_exit_same; rfl) | apply pwp_exit | apply qround_exit | (apply pwp_cond_dec; rfl; all_goals (intro hc; try (first | (exfalso; omega)))))
      refine qround_normal ?_ ⟨(v + 1, so2, qs), ⟨rfl, rfl, trivial⟩, ⟨by dsimp only; omega, ?_⟩, by dsimp only; omega, fun _ h => h⟩
      · repeat (first | exact same_refl | refine same_upd rfl ?_ | refine same_junk rfl ?_)
      · dsimp only
        rw [edU_succ, he2]
  · obtain rfl : v = n := by omega
    repeat' (first | apply pwp_seq | apply pwp_region | (apply px_run; (first | (apply opv_move; first | rfl) | (apply opv_assign; first | rfl) | (apply opv_lss <;> rfl)); rfl; rfl) | apply px_nil | apply qseq_normal | apply qseq_exit | (apply qblock_exit_same; rfl) | apply pwp_exit | apply pwp_ret | apply qround_exit | (apply pwp_cond_dec; rfl; all_goals (intro hc; try (first | (exfalso; omega)))))
    refine qbody_ret1 (v := so) rfl rfl ⟨_, ⟨ps, by unfold edgesL; rw [if_pos hg, hrl]; exact he, rfl⟩, fun w' h => ?_⟩
    exact Cl.sub (by assumption) (by repeat (first | exact List.Sublist.slnil | exact List.Sublist.refl _ | apply List.Sublist.cons_cons | exact List.sublist_append_left _ _ | exact List.sublist_append_right _ _ | apply List.Sublist.cons))
theorem en_s_EdgesOf : Entry Try.prog 40 := ⟨_, Try.func40, by kernel_rfl, rfl⟩
set_option maxHeartbeats 1600000 in
theorem s_EdgesOf_c (size : Int) (gv : Value) (rows : List Int) (w : World) (hr : Arr w gv (ints rows)) :
    Gives Try.prog 40 #[.agg #[.int .i64 size, gv]] w (fun v objs => ∃ ps, lssOf ps = edgesL size rows ∧ objs = .row 24 v (svsOf ps) :: rowsOb 3 ps) := by
  refine gives_enter (args := [_]) en_s_EdgesOf Try.func40 rfl Try.ntmps40 rfl ?_
  repeat' (first | apply pwp_seq | apply pwp_region | (apply px_run; (first | (apply opv_assign; first | exact hid_int rfl | rfl)); rfl; rfl) | apply px_nil | apply qseq_normal | apply pwp_block | (apply px_box; rfl; rfl; rfl; rfl; intro bk) | (apply px_lit0s ez_intss; rfl; rfl; rfl; intro sv))
  by_cases hg : IsG size rows
  case neg =>
    refine pwp_loop_once ?_
    repeat' (first | apply pwp_seq | apply pwp_region | (apply px_run; (first | (apply opv_move; first | exact hid_int rfl | exact hid_bool rfl | rfl) | (apply opv_assign; first | rfl) | (apply opv_lss <;> rfl) | (apply opv_pick_t <;> rfl) | (apply opv_pick_f <;> rfl) | (apply opv_field fld_G0; rfl) | (apply opv_load_blk 1; (first | with_reducible exact sc_int); rfl; rfl; rfl) | (apply opv_load_str 1 st_G; rfl; rfl; rfl) | (apply opv_call; rfl; rfl; exact Cl.stable _ _ _; exact fun w hw => s_IsGraph_c _ _ rows _ (by first | exact hw.arr (by assumption)))); rfl; rfl) | apply px_nil | (apply px_skip; rfl; rfl) | apply qseq_normal | apply qseq_exit | (apply qblock_exit_same; rfl) | apply pwp_exit | apply pwp_ret | apply qonce_exit | (apply pwp_cond_f; rfl) | (apply px_guard_dec; rfl; rfl; rfl; all_goals (intro hc; try (first | fail))) | (apply pwp_cond_dec; rfl; all_goals (intro hc; try (first | contradiction))))
    all_goals
      refine qbody_ret1 (v := sv) rfl rfl ⟨[.row 24 sv (svsOf [])], ⟨[], by unfold edgesL; rw [if_neg hg]; rfl, rfl⟩, fun w' h => ?_⟩
      exact Cl.sub (by assumption) (by repeat (first | exact List.Sublist.slnil | exact List.Sublist.refl _ | apply List.Sublist.cons_cons | exact List.sublist_append_left _ _ | exact List.sublist_append_right _ _ | apply List.Sublist.cons))
  obtain ⟨n, hn, hrl, hn1, hn7⟩ := isG_size hg
  refine pwp_loop (τ := Nat × Value × Pairs) [(3,5), (7,34)] (fun x => [(4, .int .i64 (x.1 : Int)), (3, x.2.1)]) (fun x => Cl [] w (.row 24 x.2.1 (svsOf x.2.2) :: .blk bk [.int .i64 size, gv] :: rowsOb 3 x.2.2)) (fun x => x.1 ≤ n ∧ lssOf x.2.2 = edU rows n x.1) (fun x => n - x.1) (0, sv, [])
    ⟨rfl, rfl, trivial⟩ ⟨Nat.zero_le _, rfl⟩ (fun _ h => h) (fun J x hx => ?_)
  obtain ⟨v, so, ps⟩ := x
  dsimp only at hx ⊢
  obtain ⟨hv, he⟩ := hx
  by_cases hlt : v < n
  · repeat' (first | apply pwp_seq | apply pwp_region | (apply px_run; (first | (apply opv_move; first | exact hid_int rfl | exact hid_bool rfl) | (apply opv_assign; first | exact hid_int rfl) | (apply opv_lss <;> rfl) | (apply opv_pick_t <;> rfl) | (apply opv_add_in; rfl; rfl; omega) | (apply opv_field fld_G0; rfl) | (apply opv_load_blk 1; (first | with_reducible exact sc_int); rfl; rfl; rfl) | (apply opv_load_str 1 st_G; rfl; rfl; rfl) | (apply opv_call; rfl; rfl; exact Cl.stable _ _ _; exact fun w hw => s_IsGraph_c _ _ rows _ (by first | exact hw.arr (by assumption)))); rfl; rfl) | apply px_nil | apply qseq_normal | apply pwp_block | apply pwp_skip | (apply px_guard_dec; rfl; rfl; rfl; all_goals (intro hc; try (first | (exfalso; omega)))) | (apply pwp_cond_dec; rfl; all_goals (intro hc; try (first | contradiction))))
    refine pwp_loop (τ := Nat × Value × Pairs) [(3,3), (5,5), (19,34)] (fun x => [(5, .int .i64 (x.1 : Int)), (3, x.2.1)]) (fun x => Cl [] w (.row 24 x.2.1 (svsOf x.2.2) :: .blk bk [.int .i64 size, gv] :: rowsOb 3 x.2.2)) (fun x => (v + 1 ≤ x.1 ∧ x.1 ≤ n) ∧ lssOf x.2.2 = edU rows n v ++ edRow rows v x.1) (fun x => n - x.1) (v + 1, so, ps)
      ⟨rfl, rfl, trivial⟩ ⟨⟨Nat.le_refl _, hlt⟩, by dsimp only; rw [edRow_low rows v _ (Nat.le_refl _), List.append_nil]; exact he⟩ (fun _ h => h) (fun J2 x hx => ?_)
    obtain ⟨u, so2, qs⟩ := x
    dsimp only at hx ⊢
    obtain ⟨⟨hu1, hu2⟩, he2⟩ := hx
    by_cases hlu : u < n
    · have hel : qs.length ≤ 98 := by
        have h1 := edU_length rows n v
        have h2 := edRow_length rows v u
        have h3 : v * n ≤ 7 * 7 := Nat.mul_le_mul (by omega) hn7
        have h4 := congrArg List.length he2
        rw [lssOf_length, List.length_append] at h4
        omega
      have hes := edRow_succ rows v u
      repeat' (first | apply pwp_seq | apply pwp_region | (apply px_run; (first | (apply opv_move; first | exact hid_int rfl | rfl) | (apply opv_assign; first | exact hid_int rfl | rfl) | (apply opv_lss <;> rfl) | (apply opv_add_in; rfl; rfl; omega) | (apply opv_field fld_G0; rfl) | (apply opv_load_blk 1; (first | with_reducible exact sc_int); rfl; rfl; rfl) | (apply opv_load_str 1 st_G; rfl; rfl; rfl) | (apply opv_call; rfl; rfl; exact Cl.stable _ _ _; exact fun w hw => s_l2Edge_c _ _ rows _ _ _ (by first | exact hw.arr (by assumption)) (by omega) (by omega))); rfl; rfl) | apply px_nil | apply qseq_normal | apply pwp_block | apply qblock_normal | apply pwp_skip | (apply pwp_cond_dec; rfl; all_goals (intro hc; try (first | (exfalso; omega)))) | (apply pwp_cond; rfl; all_goals (intro hc; try (first | fail))) | (apply px_lit2 ez_int; rfl; (intro w hw; (first | rfl)); rfl; (intro w hw; (first | rfl)); rfl; rfl; rfl; intro sv) | (apply px_lit1 ez_intss; rfl; (intro w hw; (first | exact stor_row 0 hw rfl)); rfl; rfl; rfl; intro sv) | (apply px_append 2 ez_intss; rfl; rfl; rfl; (first | exact rd_row 0 rfl); (intro w hw u hu; simp only [List.mem_singleton] at hu; subst hu; (first | exact stor_row 1 hw rfl)); (simp; omega); decide; rfl; rfl; intro sv))
      · rename_i e s1
        refine qround_normal ?_ ⟨(u + 1, sv, qs ++ [(e, [(v : Int), (u : Int)])]), ⟨rfl, rfl, trivial⟩, ⟨⟨by dsimp only; omega, by dsimp only; omega⟩, ?_⟩, by dsimp only; omega, fun w' h => ?_⟩
        · repeat (first | exact same_refl | refine same_upd rfl ?_ | refine same_junk rfl ?_)
        · dsimp only
          rw [hes, if_pos ⟨by omega, hc⟩, lssOf_snoc, he2, List.append_assoc]
        · dsimp only
          have := (h.sub (List.sublist_cons_self _ _)).perm (List.perm_append_singleton _ _).symm
          rw [rowsOb_snoc, svsOf_snoc]
          exact this
      · refine qround_normal ?_ ⟨(u + 1, so2, qs), ⟨rfl, rfl, trivial⟩, ⟨⟨by dsimp only; omega, by dsimp only; omega⟩, ?_⟩, by dsimp only; omega, fun _ h => h⟩
        · repeat (first | exact same_refl | refine same_upd rfl ?_ | refine same_junk rfl ?_)
        · dsimp only
          rw [hes, if_neg (fun h => by have := h.2; rw [show hasB (rows.getD v 0) (u : Nat) = false from hc] at this; cases this), he2]
    · obtain rfl : u = n := by omega
      repeat' (first | apply pwp_seq | apply pwp_region | (apply px_run; (first | (apply opv_move; first | exact hid_int rfl) | (apply opv_assign; first | exact hid_int rfl) | (apply opv_lss <;> rfl) | (apply opv_add_in; rfl; rfl; omega) | (apply opv_field fld_G0; rfl) | (apply opv_load_blk 1; (first | with_reducible exact sc_int); rfl; rfl; rfl)); rfl; rfl) | apply px_nil | apply qseq_normal | apply qseq_exit | apply qblock_normal | (apply qblock_exit_same; rfl) | apply pwp_exit | apply qround_exit | (apply pwp_cond_dec; rfl; all_goals (intro hc; try (first | (exfalso; omega)))))
      refine qround_normal ?_ ⟨(v + 1, so2, qs), ⟨rfl, rfl, trivial⟩, ⟨by dsimp only; omega, ?_⟩, by dsimp only; omega, fun _ h => h⟩
      · repeat (first | exact same_refl | refine same_upd rfl ?_ | refine same_junk rfl ?_)
      · dsimp only
        rw [edU_succ, he2]
  · obtain rfl : v = n := by omega
    repeat' (first | apply pwp_seq | apply pwp_region | (apply px_run; (first | (apply opv_move; first | exact hid_int rfl | exact hid_bool rfl | rfl) | (apply opv_assign; first | rfl) | (apply opv_lss <;> rfl) | (apply opv_pick_f <;> rfl) | (apply opv_field fld_G0; rfl) | (apply opv_load_blk 1; (first | with_reducible exact sc_int); rfl; rfl; rfl) | (apply opv_load_str 1 st_G; rfl; rfl; rfl)); rfl; rfl) | apply px_nil | (apply px_skip; rfl; rfl) | apply qseq_normal | apply qseq_exit | (apply qblock_exit_same; rfl) | apply pwp_exit | apply pwp_ret | apply qround_exit | (apply pwp_cond_f; rfl) | (apply px_guard_dec; rfl; rfl; rfl; all_goals (intro hc; try (first | (exfalso; omega)))))
    refine qbody_ret1 (v := so) rfl rfl ⟨_, ⟨ps, by unfold edgesL; rw [if_pos hg, hrl]; exact he, rfl⟩, fun w' h => ?_⟩
    exact Cl.sub (by assumption) (by repeat (first | exact List.Sublist.slnil | exact List.Sublist.refl _ | apply List.Sublist.cons_cons | exact List.sublist_append_left _ _ | exact List.sublist_append_right _ _ | apply List.Sublist.cons))
end Go.Proofs.Ytkbjcfabbapnpaa
