/- Slices copied and turned round. -/
import Derived.Test.YtcicdnpmlcjcmaaGreatFacts
import Derived.Test.YtcicdnpmlcjcmaaGreatPwBool
namespace Go.Proofs.YtcicdnpmlcjcmaaGreat
open Go Go.RowKit Go.Pw

theorem en_x_slices_Clone_int_int : Entry Tryz.prog 85 := ⟨_, Tryz.func85, by kernel_rfl, rfl⟩
theorem x_Clone_c (sv : Value) (l : List Int) (w : World) (hr : Arr w sv (ints l)) (hlen : l.length ≤ 1048576) :
    Gives Tryz.prog 85 #[sv] w (fun v objs => objs = [.row 3 v (ints l)]) := by
  refine gives_enter (args := [_]) en_x_slices_Clone_int_int Tryz.func85 rfl Tryz.ntmps85 rfl ?_
  repeat' (first | apply pwp_seq | apply pwp_region | (apply px_run; (first | (apply opv_move; first | rfl) | (apply opv_assign; first | rfl) | (apply opv_eql_nil el_int; rfl; rfl; (first | exact rd_old (by assumption)))); rfl; rfl) | apply px_nil | apply qseq_normal | apply qseq_ret | apply pwp_skip | apply pwp_ret | (apply pwp_cond; rfl; all_goals (intro hc; try (first | fail))) | (apply px_lit0 ez_int; rfl; rfl; rfl; intro sv) | (apply px_append 0 ez_int; rfl; rfl; rfl; (first | exact rd_old (by assumption)); (first | exact fun _ _ => stor_ints); (simp [ints]; omega); decide; rfl; rfl; intro sv))
  · refine qbody_ret1 rfl rfl ⟨_, rfl, fun w' h => ?_⟩
    have := nil_arr hr hc
    rw [this]; exact h.nilRow _
  · refine qbody_ret1 rfl rfl ⟨_, rfl, fun w' h => ?_⟩
    exact Cl.sub (by assumption) (by repeat (first | exact List.Sublist.slnil | exact List.Sublist.refl _ | apply List.Sublist.cons_cons | exact List.sublist_append_left _ _ | exact List.sublist_append_right _ _ | apply List.Sublist.cons))
theorem en_x_slices_Reverse_int_int : Entry Tryz.prog 86 := ⟨_, Tryz.func86, by kernel_rfl, rfl⟩
set_option maxHeartbeats 800000 in
theorem x_ReverseI_c (sv : Value) (l : List Int) (w : World) (ho : Own w [.row 3 sv (ints l)]) :
    Turns Tryz.prog 86 #[sv] w [.row 3 sv (ints l)] [.row 3 sv (ints l.reverse)] (.tuple #[]) := by
  refine turns_enter (args := [_]) ho en_x_slices_Reverse_int_int Tryz.func86 rfl Tryz.ntmps86 rfl fun X => ?_
  have hlen := (arr_of_row (ho.holds _ (List.mem_singleton_self _))).len
  repeat' (first | apply pwp_seq | apply pwp_region | (apply px_run; (first | (apply opv_move; first | rfl) | (apply opv_assign; first | exact hid_int rfl) | (apply opv_sub_in; rfl; rfl; omega) | (apply opv_len_ints el_int; rfl; (first | exact rd_row 0 rfl))); rfl; rfl) | apply px_nil | apply qseq_normal | apply pwp_block)
  refine pwp_loop (τ := Nat) [(2,3), (7,27)] (fun i => [(2, .int .i64 (i : Int)), (3, .int .i64 ((l.length : Int) - 1 - i))]) (fun i => Cl X w [.row 3 sv (ints (revU 0 l i))]) (fun i => 2 * i ≤ l.length) (fun i => l.length - i) 0
    ⟨rfl, by show Value.int .i64 _ = .int .i64 (_ - ((0 : Nat) : Int)); simp, trivial⟩ (Nat.zero_le _) (fun _ h => h) (fun J i hi => ?_)
  have hrl := revU_length 0 l i
  by_cases hlt : 2 * i + 1 < l.length
  · obtain ⟨j, hj⟩ : ∃ j : Nat, (l.length : Int) - 1 - i = j := ⟨l.length - 1 - i, by omega⟩
    rw [hj]
    repeat' (first | apply pwp_seq | apply pwp_region | (apply px_run; (first | (apply opv_move; first | exact hid_int rfl | rfl) | (apply opv_assign; first | exact hid_int rfl) | (apply opv_lss <;> rfl) | (apply opv_add_in; rfl; rfl; omega) | (apply opv_sub_in; rfl; rfl; omega) | (apply opv_load_ints sc_int; rfl; (first | exact rd_row 0 rfl); (first | omega)) | (apply opv_index_nat (vs := ints _) el_int; rfl; rfl; (first | exact rd_row 0 rfl); (first | (simp only [ints_length]; omega) | (simp [ints]; omega)))); rfl; rfl) | apply px_nil | apply qseq_normal | apply pwp_block | apply qblock_normal | apply pwp_skip | (apply pwp_region_tail [2, 3] [0, 1, 4, 5, 6, 7, 8, 9, 10, 11] [12, 13, 14, 15]; kernel_rfl; decide +kernel; exact Cl.stable _ _ _) | apply qtail_normal | apply qnorm_normal | (apply pwp_cond_dec; rfl; all_goals (intro hc; try (first | (exfalso; omega)))) | (apply px_store_int 0 co_int; rfl; rfl; rfl; (first | omega | (simp; omega)); rfl))
    refine qround_normal ?_ ⟨i + 1, ⟨rfl, ?_, trivial⟩, by omega, by omega, fun w' h => ?_⟩
    · repeat (first | exact same_refl | refine same_upd rfl ?_ | refine same_junk rfl ?_)
    · show Value.int .i64 _ = .int .i64 _; congr 1; omega
    · have e : l.length - 1 - i = j := by omega
      rw [revU, e]; exact h
  · repeat' (first | apply pwp_seq | apply pwp_region | (apply px_run; (first | (apply opv_move; first | exact hid_int rfl) | (apply opv_lss <;> rfl)); rfl; rfl) | apply px_nil | apply qseq_normal | apply qseq_exit | (apply qblock_exit_same; rfl) | apply pwp_exit | apply qround_exit | (apply pwp_cond_dec; rfl; all_goals (intro hc; try (first | (exfalso; omega)))))
    refine qbody_end0 rfl ⟨rfl, fun w' h => ?_⟩
    rw [revU_all 0 l i hi (by omega)] at h; exact h
theorem en_i_reversed : Entry Tryz.prog 47 := ⟨_, Tryz.func47, by kernel_rfl, rfl⟩
theorem i_reversed_c (sv : Value) (l : List Int) (w : World) (hr : Arr w sv (ints l)) (hlen : l.length ≤ 1048576) :
    Gives Tryz.prog 47 #[sv] w (fun v objs => objs = [.row 3 v (ints l.reverse)]) := by
  refine gives_enter (args := [_]) en_i_reversed Tryz.func47 rfl Tryz.ntmps47 rfl ?_
  repeat' (first | apply pwp_seq | apply pwp_region | (apply px_run; (first | (apply opv_move; first | rfl) | (apply opv_assign; first | rfl)); rfl; rfl) | apply px_nil | apply qseq_normal | apply pwp_ret | (apply px_turns [0]; rfl; rfl; rfl; rfl; rfl; exact fun w ho => x_ReverseI_c _ _ _ ho) | (apply px_gives; rfl; rfl; rfl; rfl; rfl; exact fun w hw => x_Clone_c _ l _ (by first | exact hw.arr (by assumption)) hlen; rintro sc _ rfl))
  refine qbody_ret1 rfl rfl ⟨_, rfl, fun w' h => ?_⟩
  exact Cl.sub (by assumption) (by repeat (first | exact List.Sublist.slnil | exact List.Sublist.refl _ | apply List.Sublist.cons_cons | exact List.sublist_append_left _ _ | exact List.sublist_append_right _ _ | apply List.Sublist.cons))
end Go.Proofs.YtcicdnpmlcjcmaaGreat
