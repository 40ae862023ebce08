/- Places of one order in another. -/
import Derived.Test.YtmmflnigejfplaaGreatSo
import Derived.Test.YtmmflnigejfplaaGreatLk
namespace Go.Proofs.YtmmflnigejfplaaGreat
open Go Go.RowKit Go.Pw
def pomU (a b : List Int) (k : Nat) : List Int := (List.range k).map fun i => placeL b (a.getD i 0)
def pomL (a b : List Int) : List Int := if permP a ∧ permP b ∧ a.length = b.length then pomU a b a.length else []
theorem pomU_succ (a b : List Int) (k : Nat) : pomU a b (k + 1) = pomU a b k ++ [placeL b (a.getD k 0)] := by simp [pomU, List.range_succ]
theorem pomU_len (a b : List Int) (k : Nat) : (pomU a b k).length = k := by simp [pomU]
theorem pomL_len (a b : List Int) : (pomL a b).length ≤ 7 := by
  unfold pomL
  split
  · rename_i h; rw [pomU_len]; have := h.1.1; omega
  · simp
theorem en_i_PermutationOfModel : Entry Tryz.prog 30 := ⟨_, Tryz.func30, by kernel_rfl, rfl⟩
set_option maxHeartbeats 1000000 in
theorem i_PermutationOfModel_c (va vb : Value) (a b : List Int) (w : World) (ha : Arr w va (ints a)) (hb : Arr w vb (ints b)) :
    Gives Tryz.prog 30 #[va, vb] w (fun v objs => ∃ sv, v = .tuple #[sv, .bool (decide (permP a ∧ permP b ∧ a.length = b.length))] ∧ objs = [.row 3 sv (ints (pomL a b))]) := by
  refine gives_enter (args := [_, _]) en_i_PermutationOfModel Tryz.func30 rfl Tryz.ntmps30 rfl ?_
  by_cases hp : permP a ∧ permP b ∧ a.length = b.length
  · have h1 := hp.1
    have h2 := hp.2.1
    have h3 : (a.length : Int) = b.length := by have := hp.2.2; omega
    have h7 := h1.1
    repeat' (first | apply pwp_seq | apply pwp_region | (apply px_run; (first | (apply opv_move; first | exact hid_int rfl | exact hid_bool rfl | rfl) | (apply opv_assign; first | exact hid_bool rfl | rfl) | (apply opv_neq <;> rfl) | (apply opv_pick_f <;> rfl) | (apply opv_not_dec <;> rfl) | (apply opv_len_ints el_int; rfl; (first | exact rd_old (by assumption))) | (apply opv_call; rfl; rfl; exact Cl.stable _ _ _; exact fun w hw => i_IsPermutation_c _ a _ (by first | exact hw.arr (by assumption))) | (apply opv_call; rfl; rfl; exact Cl.stable _ _ _; exact fun w hw => i_IsPermutation_c _ b _ (by first | exact hw.arr (by assumption)))); rfl; rfl) | apply px_nil | apply qseq_normal | apply pwp_block | apply pwp_skip | (apply px_guard_ndec; rfl; rfl; rfl; all_goals (intro hc; try (first | contradiction))) | (apply pwp_cond_ndec; rfl; all_goals (intro hc; try (first | contradiction))) | (apply px_lit0 ez_int; rfl; rfl; rfl; intro sv))
    refine pwp_loop (τ := Nat × Value) [(6,6), (8,8), (27,37)] (fun x => [(27, .int .i64 (x.1 : Int)), (6, x.2)]) (fun x => Cl [] w [.row 3 x.2 (ints (pomU a b x.1))]) (fun x => x.1 ≤ a.length) (fun x => a.length - x.1) (0, sv)
      ⟨rfl, rfl, trivial⟩ (Nat.zero_le _) (fun _ h => h) (fun J x hx => ?_)
    obtain ⟨k, so⟩ := x
    dsimp only at hx ⊢
    have hul := pomU_len a b k
    by_cases hlt : k < a.length
    · repeat' (first | apply pwp_seq | apply pwp_region | (apply px_run; (first | (apply opv_move; first | exact hid_int rfl | rfl) | (apply opv_assign; first | exact hid_int rfl | rfl) | (apply opv_lss <;> rfl) | (apply opv_add_in; rfl; rfl; omega) | (apply opv_load_ints sc_int; rfl; (first | exact rd_old (by assumption)); (first | omega)) | (apply opv_index_nat (vs := ints _) el_int; rfl; rfl; (first | exact rd_old (by assumption)); (first | (simp only [ints_length]; omega))) | (apply opv_call; rfl; rfl; exact Cl.stable _ _ _; exact fun w hw => x_Index_c _ b _ _ (by first | exact hw.arr (by assumption)))); rfl; rfl) | apply px_nil | apply qseq_normal | apply pwp_block | apply qblock_normal | apply pwp_skip | (apply pwp_cond_dec; rfl; all_goals (intro hc; try (first | (exfalso; omega)))) | (apply px_lit1 ez_int; rfl; (intro w hw; (first | rfl)); rfl; rfl; rfl; intro sv) | (apply px_append 1 ez_int; rfl; rfl; rfl; (first | exact rd_row 0 rfl); (first | (intro _ _ u hu; simp at hu; subst hu; rfl)); (simp [ints]; omega); decide; rfl; rfl; intro sv))
      refine qround_normal ?_ ⟨(k + 1, sv), ⟨rfl, rfl, trivial⟩, by dsimp only; omega, by dsimp only; omega, fun w' h => ?_⟩
      · repeat (first | exact same_refl | refine same_upd rfl ?_ | refine same_junk rfl ?_)
      · dsimp only
        rw [pomU_succ, ← ints_snoc]
        exact Cl.sub (by assumption) (by repeat (first | exact List.Sublist.slnil | exact List.Sublist.refl _ | apply List.Sublist.cons_cons | exact List.sublist_append_left _ _ | exact List.sublist_append_right _ _ | apply List.Sublist.cons))
    · repeat' (first | apply pwp_seq | apply pwp_region | (apply px_run; (first | (apply opv_move; first | rfl) | (apply opv_assign; first | exact hid_bool rfl | rfl) | (apply opv_lss <;> rfl)); rfl; rfl) | apply px_nil | apply qseq_normal | apply qseq_exit | (apply qblock_exit_same; rfl) | apply pwp_exit | apply pwp_ret | apply qround_exit | (apply pwp_cond_dec; rfl; all_goals (intro hc; try (first | (exfalso; omega)))))
      obtain rfl : k = a.length := by omega
      refine qbody_ret2 rfl rfl rfl ⟨_, ⟨so, by rw [decide_eq_true hp]; rfl, rfl⟩, fun w' h => ?_⟩
      rw [pomL, if_pos hp]
      exact Cl.sub (by assumption) (by repeat (first | exact List.Sublist.slnil | exact List.Sublist.refl _ | apply List.Sublist.cons_cons | exact List.sublist_append_left _ _ | exact List.sublist_append_right _ _ | apply List.Sublist.cons))
  · repeat' (first | apply pwp_seq | apply pwp_region | (apply px_run; (first | (apply opv_move; first | exact hid_int rfl | exact hid_bool rfl | rfl) | (apply opv_assign; first | exact hid_bool rfl | rfl) | (apply opv_neq <;> rfl) | (apply opv_pick_t <;> rfl) | (apply opv_pick_f <;> rfl) | (apply opv_not_dec <;> rfl) | (apply opv_len_ints el_int; rfl; (first | exact rd_old (by assumption))) | (apply opv_call; rfl; rfl; exact Cl.stable _ _ _; exact fun w hw => i_IsPermutation_c _ a _ (by first | exact hw.arr (by assumption))) | (apply opv_call; rfl; rfl; exact Cl.stable _ _ _; exact fun w hw => i_IsPermutation_c _ b _ (by first | exact hw.arr (by assumption)))); rfl; rfl) | apply px_nil | (apply px_skip; rfl; rfl) | apply qseq_normal | apply qseq_ret | apply pwp_block | apply pwp_skip | apply pwp_ret | (apply pwp_cond_t; rfl) | (apply px_guard_ndec; rfl; rfl; rfl; all_goals (intro hc; try (first | fail))) | (apply pwp_cond_ndec; rfl; all_goals (intro hc; try (first | fail))) | (apply px_lit0 ez_int; rfl; rfl; rfl; intro sv))
    all_goals first
      | exact absurd ⟨by assumption, by assumption, by omega⟩ hp
      | (refine qbody_ret2 rfl rfl rfl ⟨_, ⟨.slice none 0 0, by rw [decide_eq_false hp]; rfl, rfl⟩, fun w' h => ?_⟩
         rw [pomL, if_neg hp]
         exact (h.sub (List.nil_sublist _)).nilRow _)
theorem en_s_PermutationOfModel : Entry Tryz.prog 31 := ⟨_, Tryz.func31, by kernel_rfl, rfl⟩
set_option maxHeartbeats 1000000 in
theorem s_PermutationOfModel_c (va vb : Value) (a b : List Int) (w : World) (ha : Arr w va (ints a)) (hb : Arr w vb (ints b)) :
    Gives Tryz.prog 31 #[va, vb] w (fun v objs => ∃ sv, v = .tuple #[sv, .bool (decide (permP a ∧ permP b ∧ a.length = b.length))] ∧ objs = [.row 3 sv (ints (pomL a b))]) := by
  refine gives_enter (args := [_, _]) en_s_PermutationOfModel Tryz.func31 rfl Tryz.ntmps31 rfl ?_
  by_cases hp : permP a ∧ permP b ∧ a.length = b.length
  · have h1 := hp.1
    have h2 := hp.2.1
    have h3 : (a.length : Int) = b.length := by have := hp.2.2; omega
    have h7 := h1.1
    repeat' (first | apply pwp_seq | apply pwp_region | (apply px_run; (first | (apply opv_move; first | exact hid_bool rfl | rfl) | (apply opv_assign; first | exact hid_int rfl | exact hid_bool rfl | rfl) | (apply opv_neq <;> rfl) | (apply opv_pick_f <;> rfl) | (apply opv_not_dec <;> rfl) | (apply opv_len_ints el_int; rfl; (first | exact rd_old (by assumption))) | (apply opv_call; rfl; rfl; exact Cl.stable _ _ _; exact fun w hw => s_IsPermutation_c _ a _ (by first | exact hw.arr (by assumption))) | (apply opv_call; rfl; rfl; exact Cl.stable _ _ _; exact fun w hw => s_IsPermutation_c _ b _ (by first | exact hw.arr (by assumption)))); rfl; rfl) | apply px_nil | apply qseq_normal | apply pwp_block | apply pwp_skip | (apply px_guard_ndec; rfl; rfl; rfl; all_goals (intro hc; try (first | contradiction))) | (apply pwp_cond_ndec; rfl; all_goals (intro hc; try (first | contradiction))) | (apply px_lit0 ez_int; rfl; rfl; rfl; intro sv))
    refine pwp_loop (τ := Nat × Value) [(6,7), (25,39)] (fun x => [(7, .int .i64 (x.1 : Int)), (6, x.2)]) (fun x => Cl [] w [.row 3 x.2 (ints (pomU a b x.1))]) (fun x => x.1 ≤ a.length) (fun x => a.length - x.1) (0, sv)
      ⟨rfl, rfl, trivial⟩ (Nat.zero_le _) (fun _ h => h) (fun J x hx => ?_)
    obtain ⟨k, so⟩ := x
    dsimp only at hx ⊢
    have hul := pomU_len a b k
    by_cases hlt : k < a.length
    · repeat' (first | apply pwp_seq | apply pwp_region | (apply px_run; (first | (apply opv_move; first | exact hid_int rfl | rfl) | (apply opv_assign; first | exact hid_int rfl | rfl) | (apply opv_lss <;> rfl) | (apply opv_add_in; rfl; rfl; omega) | (apply opv_load_ints sc_int; rfl; (first | exact rd_old (by assumption)); (first | omega)) | (apply opv_index_nat (vs := ints _) el_int; rfl; rfl; (first | exact rd_old (by assumption)); (first | (simp only [ints_length]; omega))) | (apply opv_len_ints el_int; rfl; (first | exact rd_old (by assumption))) | (apply opv_call; rfl; rfl; exact Cl.stable _ _ _; exact fun w hw => s_l14Place_c _ b _ _ (by first | exact hw.arr (by assumption)))); rfl; rfl) | apply px_nil | apply qseq_normal | apply pwp_block | apply qblock_normal | apply pwp_skip | (apply pwp_cond_dec; rfl; all_goals (intro hc; try (first | (exfalso; omega)))) | (apply px_lit1 ez_int; rfl; (intro w hw; (first | rfl)); rfl; rfl; rfl; intro sv) | (apply px_append 1 ez_int; rfl; rfl; rfl; (first | exact rd_row 0 rfl); (first | (intro _ _ u hu; simp at hu; subst hu; rfl)); (simp [ints]; omega); decide; rfl; rfl; intro sv))
      refine qround_normal ?_ ⟨(k + 1, sv), ⟨rfl, rfl, trivial⟩, by dsimp only; omega, by dsimp only; omega, fun w' h => ?_⟩
      · repeat (first | exact same_refl | refine same_upd rfl ?_ | refine same_junk rfl ?_)
      · dsimp only
        rw [pomU_succ, ← ints_snoc]
        exact Cl.sub (by assumption) (by repeat (first | exact List.Sublist.slnil | exact List.Sublist.refl _ | apply List.Sublist.cons_cons | exact List.sublist_append_left _ _ | exact List.sublist_append_right _ _ | apply List.Sublist.cons))
    · repeat' (first | apply pwp_seq | apply pwp_region | (apply px_run; (first | (apply opv_move; first | exact hid_int rfl | rfl) | (apply opv_assign; first | exact hid_bool rfl | rfl) | (apply opv_lss <;> rfl) | (apply opv_len_ints el_int; rfl; (first | exact rd_old (by assumption)))); rfl; rfl) | apply px_nil | apply qseq_normal | apply qseq_exit | (apply qblock_exit_same; rfl) | apply pwp_exit | apply pwp_ret | apply qround_exit | (apply pwp_cond_dec; rfl; all_goals (intro hc; try (first | (exfalso; omega)))))
      obtain rfl : k = a.length := by omega
      refine qbody_ret2 rfl rfl rfl ⟨_, ⟨so, by rw [decide_eq_true hp]; rfl, rfl⟩, fun w' h => ?_⟩
      rw [pomL, if_pos hp]
      exact Cl.sub (by assumption) (by repeat (first | exact List.Sublist.slnil | exact List.Sublist.refl _ | apply List.Sublist.cons_cons | exact List.sublist_append_left _ _ | exact List.sublist_append_right _ _ | apply List.Sublist.cons))
  · repeat' (first | apply pwp_seq | apply pwp_region | (apply px_run; (first | (apply opv_move; first | exact hid_bool rfl | rfl) | (apply opv_assign; first | exact hid_int rfl | exact hid_bool rfl | rfl) | (apply opv_neq <;> rfl) | (apply opv_pick_t <;> rfl) | (apply opv_pick_f <;> rfl) | (apply opv_not_dec <;> rfl) | (apply opv_len_ints el_int; rfl; (first | exact rd_old (by assumption))) | (apply opv_call; rfl; rfl; exact Cl.stable _ _ _; exact fun w hw => s_IsPermutation_c _ a _ (by first | exact hw.arr (by assumption))) | (apply opv_call; rfl; rfl; exact Cl.stable _ _ _; exact fun w hw => s_IsPermutation_c _ b _ (by first | exact hw.arr (by assumption)))); rfl; rfl) | apply px_nil | (apply px_skip; rfl; rfl) | apply qseq_normal | apply qseq_ret | apply pwp_block | apply pwp_skip | apply pwp_ret | (apply pwp_cond_t; rfl) | (apply px_guard_ndec; rfl; rfl; rfl; all_goals (intro hc; try (first | fail))) | (apply pwp_cond_ndec; rfl; all_goals (intro hc; try (first | fail))) | (apply px_lit0 ez_int; rfl; rfl; rfl; intro sv))
    all_goals first
      | exact absurd ⟨by assumption, by assumption, by omega⟩ hp
      | (refine qbody_ret2 (v := sv) (v' := .bool false) rfl rfl rfl ⟨[.row 3 sv (ints [])], ⟨sv, by rw [decide_eq_false hp], by rw [pomL, if_neg hp]⟩, fun w' h => ?_⟩
         exact Cl.sub (by assumption) (by repeat (first | exact List.Sublist.slnil | exact List.Sublist.refl _ | apply List.Sublist.cons_cons | exact List.sublist_append_left _ _ | exact List.sublist_append_right _ _ | apply List.Sublist.cons)))
end Go.Proofs.YtmmflnigejfplaaGreat
