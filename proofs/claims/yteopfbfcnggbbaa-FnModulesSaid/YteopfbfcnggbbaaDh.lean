/- The big laws' helpers. -/
import Derived.Test.YteopfbfcnggbbaaDr
import Derived.Test.YteopfbfcnggbbaaLa
namespace Go.Proofs.Yteopfbfcnggbbaa
open Go Go.RowKit Go.Pw
theorem en_l_sameInts : Entry Try.prog 8 := ⟨_, Try.func8, by kernel_rfl, rfl⟩
theorem sameInts_c (sa sb : Value) (a b : List Int) (w : World) (ha : Arr w sa (ints a)) (hb : Arr w sb (ints b)) :
    Pure Try.prog 8 #[sa, sb] w (.bool (decide (a = b))) := by
  refine pure_enter (args := [_, _]) en_l_sameInts Try.func8 rfl Try.ntmps8 rfl ?_
  have h1 := ha.len
  have h2 := hb.len
  repeat' (first | apply pwp_seq | apply pwp_region | (apply px_run; (first | (apply opv_move; first | rfl) | (apply opv_assign; first | exact hid_int rfl | exact hid_bool rfl) | (apply opv_neq <;> rfl) | (apply opv_len_ints el_int; rfl; (first | exact rd_old (by assumption)))); rfl; rfl) | apply px_nil | apply qseq_normal | apply qseq_ret | apply pwp_block | apply pwp_skip | apply pwp_ret | (apply pwp_cond_ndec; rfl; all_goals (intro hc; try (first | fail))))
  · refine qbody_ret1 (v := .bool _) rfl rfl ⟨ret_false rfl fun h => hc (by rw [h]), fun _ h => h.below⟩
  have hl : a.length = b.length := by omega
  refine pwp_loop [(4,5), (11,25)] (fun k : Nat => [(5, .int .i64 (k : Int))]) (fun k => Cl [] w []) (fun k => k ≤ a.length ∧ ∀ i, i < k → a.getD i 0 = b.getD i 0) (fun k => a.length - k) 0
    ⟨rfl, trivial⟩ ⟨Nat.zero_le _, fun i hi => by omega⟩ (fun _ h => h) (fun J k hk => ?_)
  obtain ⟨hk, he⟩ := hk
  by_cases hlt : k < a.length
  · repeat' (first | apply pwp_seq | apply pwp_region | (apply px_run; (first | (apply opv_move; first | exact hid_int rfl | rfl) | (apply opv_assign; first | exact hid_int rfl | exact hid_bool rfl) | (apply opv_lss <;> rfl) | (apply opv_neq <;> rfl) | (apply opv_add_in; rfl; rfl; omega) | (apply opv_load_ints sc_int; rfl; (first | exact rd_old (by assumption)); (first | omega)) | (apply opv_index_nat (vs := ints _) el_int; rfl; rfl; (first | exact rd_old (by assumption)); (first | (simp only [ints_length]; omega))) | (apply opv_len_ints el_int; rfl; (first | exact rd_old (by assumption)))); rfl; rfl) | apply px_nil | apply qseq_normal | apply qseq_ret | apply pwp_block | apply qblock_normal | apply qblock_ret | apply pwp_skip | apply pwp_ret | apply qround_ret | (apply pwp_region_mix; kernel_rfl; decide +kernel; exact Cl.stable _ _ _) | (apply pwp_cond_ndec; rfl; all_goals (intro hc; try (first | fail))) | (apply pwp_cond_dec; rfl; all_goals (intro hc; try (first | (exfalso; omega)))))
    · refine qbody_ret1 (v := .bool _) rfl rfl ⟨ret_false rfl fun h => hc (by rw [h]), fun _ h => h.below⟩
    · refine qround_normal ?_ ⟨k + 1, ⟨rfl, trivial⟩, ⟨by omega, fun i hi => ?_⟩, by omega, fun _ h => h⟩
      · repeat (first | exact same_refl | refine same_upd rfl ?_ | refine same_junk rfl ?_)
      · by_cases hik : i < k
        · exact he i hik
        · obtain rfl : i = k := by omega
          exact hc
  · repeat' (first | apply pwp_seq | apply pwp_region | (apply px_run; (first | (apply opv_move; first | exact hid_int rfl | rfl) | (apply opv_assign; first | exact hid_bool rfl) | (apply opv_lss <;> rfl) | (apply opv_len_ints el_int; rfl; (first | exact rd_old (by assumption)))); rfl; rfl) | apply px_nil | apply qseq_normal | apply qseq_exit | (apply qblock_exit_same; rfl) | apply pwp_exit | apply pwp_ret | apply qround_exit | (apply pwp_cond_dec; rfl; all_goals (intro hc; try (first | (exfalso; omega)))))
    refine qbody_ret1 (v := .bool _) rfl rfl ⟨ret_true rfl (eq_of_getD hl fun i hi => he i (by omega)), fun _ h => h.below⟩
theorem en_l_has : Entry Try.prog 16 := ⟨_, Try.func16, by kernel_rfl, rfl⟩
theorem hasL_c (sa : Value) (a : List Int) (x : Int) (w : World) (ha : Arr w sa (ints a)) :
    Pure Try.prog 16 #[sa, .int .i64 x] w (.bool (decide (x ∈ a))) := by
  refine pure_enter (args := [_, _]) en_l_has Try.func16 rfl Try.ntmps16 rfl ?_
  have h1 := ha.len
  repeat' (first | apply pwp_seq | apply pwp_region | (apply px_run; (first | (apply opv_assign; first | exact hid_int rfl | exact hid_bool rfl)); rfl; rfl) | apply px_nil | apply qseq_normal | apply pwp_block)
  refine pwp_loop [(4,17)] (fun k : Nat => [(5, .int .i64 (k : Int))]) (fun k => Cl [] w []) (fun k => k ≤ a.length ∧ ∀ i, i < k → a.getD i 0 ≠ x) (fun k => a.length - k) 0
    ⟨rfl, trivial⟩ ⟨Nat.zero_le _, fun i hi => by omega⟩ (fun _ h => h) (fun J k hk => ?_)
  obtain ⟨hk, he⟩ := hk
  by_cases hlt : k < a.length
  · repeat' (first | apply pwp_seq | apply pwp_region | (apply px_run; (first | (apply opv_move; first | exact hid_int rfl | rfl) | (apply opv_assign; first | exact hid_int rfl | exact hid_bool rfl) | (apply opv_lss <;> rfl) | (apply opv_eql <;> rfl) | (apply opv_add_in; rfl; rfl; omega) | (apply opv_load_ints sc_int; rfl; (first | exact rd_old (by assumption)); (first | omega)) | (apply opv_index_nat (vs := ints _) el_int; rfl; rfl; (first | exact rd_old (by assumption)); (first | (simp only [ints_length]; omega))) | (apply opv_len_ints el_int; rfl; (first | exact rd_old (by assumption)))); rfl; rfl) | apply px_nil | apply qseq_normal | apply qseq_ret | apply pwp_block | apply qblock_normal | apply qblock_ret | apply pwp_skip | apply pwp_ret | apply qround_ret | (apply pwp_cond_dec; rfl; all_goals (intro hc; try (first | (exfalso; omega)))))
    · refine qbody_ret1 (v := .bool _) rfl rfl ⟨ret_true rfl (by rw [← hc]; simp [List.getD, hlt]), fun _ h => h.below⟩
    · refine qround_normal ?_ ⟨k + 1, ⟨rfl, trivial⟩, ⟨by omega, fun i hi => ?_⟩, by omega, fun _ h => h⟩
      · repeat (first | exact same_refl | refine same_upd rfl ?_ | refine same_junk rfl ?_)
      · by_cases hik : i < k
        · exact he i hik
        · obtain rfl : i = k := by omega
          exact hc
  · repeat' (first | apply pwp_seq | apply pwp_region | (apply px_run; (first | (apply opv_move; first | exact hid_int rfl | rfl) | (apply opv_assign; first | exact hid_bool rfl) | (apply opv_lss <;> rfl) | (apply opv_len_ints el_int; rfl; (first | exact rd_old (by assumption)))); rfl; rfl) | apply px_nil | apply qseq_normal | apply qseq_exit | (apply qblock_exit_same; rfl) | apply pwp_exit | apply pwp_ret | apply qround_exit | (apply pwp_cond_dec; rfl; all_goals (intro hc; try (first | (exfalso; omega)))))
    refine qbody_ret1 (v := .bool _) rfl rfl ⟨ret_false rfl (fun hm => ?_), fun _ h => h.below⟩
    obtain ⟨i, hi, e⟩ := List.getElem_of_mem hm
    exact he i (by omega) (by rw [← e]; simp [List.getD, hi])
theorem en_l_big : Entry Try.prog 4 := ⟨_, Try.func4, by kernel_rfl, rfl⟩
theorem big_c (cv : Value) (l : List Int) (w : World) (hr : Arr w cv (byts l)) :
    Pure Try.prog 4 #[cv] w (.bool (decide (1048576 < (l.length : Int)))) := by
  refine pure_enter (args := [_]) en_l_big Try.func4 rfl Try.ntmps4 rfl ?_
  have hbl : (byts l).length = l.length := byts_length l
  have rd : ∀ objs, Rd (Cl [] w objs) cv (byts l) := fun objs => ⟨fun w' hw => hw.arr hr⟩
  repeat' (first | apply pwp_seq | apply pwp_region | (apply px_run; (first | (apply opv_len el_byteD; rfl; exact rd _) | (apply opv_move; first | rfl) | (apply opv_assign; first | exact hid_bool rfl) | (apply opv_gtr <;> rfl)); rfl; rfl) | apply px_nil | apply qseq_normal | apply pwp_ret)
  refine qbody_ret1 (v := .bool _) rfl rfl ⟨by rw [hbl], fun _ h => h.below⟩
def atF (l : List Int) (i : Nat) : Int := if i < l.length then l.getD i 0 else ((i : Int) * 37 + (l.length : Int) * 11).tmod 256
theorem atF_in {l : List Int} (h : ∀ x ∈ l, 0 ≤ x ∧ x ≤ 255) (i : Nat) : 0 ≤ atF l i := by
  unfold atF; split
  · rename_i hi
    exact (h _ (by simp [List.getD, hi])).1
  · exact (tmod_in (by omega) (by omega)).1
theorem en_l_at : Entry Try.prog 13 := ⟨_, Try.func13, by kernel_rfl, rfl⟩
theorem at_c (cv : Value) (l : List Int) (i : Nat) (w : World) (hcp : CodeP w cv l) (hi : i ≤ 1000) :
    Pure Try.prog 13 #[cv, .int .i64 i] w (.int .i64 (atF l i)) := by
  refine pure_enter (args := [_, _]) en_l_at Try.func13 rfl Try.ntmps13 rfl ?_
  have hbl : (byts l).length = l.length := byts_length l
  have hlen := hcp.len
  have rd : ∀ objs, Rd (Cl [] w objs) cv (byts l) := fun objs => ⟨fun w' hw => hw.arr hcp.arr⟩
  by_cases hlt : i < l.length
  · have hb := hcp.byte (l.getD i 0) (by simp [List.getD, hlt])
    have hget := byts_get l i hlt
    have he : atF l i = l.getD i 0 := if_pos hlt
    rw [he]
    repeat' (first | apply pwp_seq | apply pwp_region | (apply px_run; (first | (apply opv_len el_byteD; rfl; exact rd _) | (apply opv_index_nat el_byteD; rfl; rfl; exact rd _; omega) | (apply opv_load_arr sc_byteD; rfl; exact rd _; exact hget) | (apply opv_conv_i64 Try.underlying5 Try.underlying3; rfl; omega) | (apply opv_move; first | exact hid_int rfl | rfl) | (apply opv_assign; first | exact hid_int rfl) | (apply opv_lss <;> rfl)); rfl; rfl) | apply px_nil | apply qseq_normal | apply qseq_ret | apply pwp_ret | (apply pwp_cond_dec; rfl; all_goals (intro hc; try (first | (exfalso; omega)))))
    refine qbody_ret1 (v := .int _ _) rfl rfl ⟨rfl, fun _ h => h.below⟩
  · have he : atF l i = ((i : Int) * 37 + (l.length : Int) * 11).tmod 256 := if_neg hlt
    rw [he]
    rw [← hbl]
    repeat' (first | apply pwp_seq | apply pwp_region | (apply px_run; (first | (apply opv_len el_byteD; rfl; exact rd _) | (apply opv_rem; rfl; rfl; decide) | (apply opv_move; first | exact hid_int rfl | rfl) | (apply opv_assign; first | exact hid_int rfl) | (apply opv_lss <;> rfl) | (apply opv_add_in; rfl; rfl; omega) | (apply opv_mul_in; rfl; rfl; omega)); rfl; rfl) | apply px_nil | apply qseq_normal | apply pwp_skip | apply pwp_ret | (apply pwp_cond_dec; rfl; all_goals (intro hc; try (first | (exfalso; omega)))))
    refine qbody_ret1 (v := .int _ _) rfl rfl ⟨rfl, fun _ h => h.below⟩
theorem en_s_EqualGraphs : Entry Try.prog 28 := ⟨_, Try.func28, by kernel_rfl, rfl⟩
set_option maxHeartbeats 800000 in
theorem s_EqualGraphs_c (n : Int) (sa sb : Value) (a : List Int) (w : World) (ha : Arr w sa (ints a)) (hb : Arr w sb (ints a)) :
    Pure Try.prog 28 #[.agg #[.int .i64 n, sa], .agg #[.int .i64 n, sb]] w (.bool true) := by
  refine pure_enter (args := [_, _]) en_s_EqualGraphs Try.func28 rfl Try.ntmps28 rfl ?_
  have h1 := ha.len
  repeat' (first | apply pwp_seq | apply pwp_region | (apply px_run; (first | (apply opv_move; first | exact hid_bool rfl) | (apply opv_assign; first | exact hid_int rfl | exact hid_bool rfl) | (apply opv_neq <;> rfl) | (apply opv_pick_f <;> rfl) | (apply opv_field fld_G0; rfl) | (apply opv_field fld_G1; rfl) | (apply opv_load_blk 0; (first | with_reducible exact sc_int | with_reducible exact sc_ints); rfl; rfl; rfl) | (apply opv_load_blk 1; (first | with_reducible exact sc_int | with_reducible exact sc_ints); rfl; rfl; rfl) | (apply opv_len_ints el_int; rfl; (first | exact rd_old (by assumption)))); rfl; rfl) | apply px_nil | apply qseq_normal | apply pwp_block | apply pwp_skip | (apply px_guard_ndec; rfl; rfl; rfl; all_goals (intro hc; try (first | contradiction))) | (apply pwp_cond_ndec; rfl; all_goals (intro hc; try (first | contradiction))) | (apply px_box; rfl; rfl; rfl; rfl; intro bk))
  rename_i b2 _
  refine pwp_loop [(4,5), (20,37)] (fun k : Nat => [(5, .int .i64 (k : Int))]) (fun k => Cl [] w [.blk bk [.int .i64 n, sb], .blk b2 [.int .i64 n, sa]]) (fun k => k ≤ a.length) (fun k => a.length - k) 0
    ⟨rfl, trivial⟩ (Nat.zero_le _) (fun w' h => by exact Cl.sub (by assumption) (by repeat (first | exact List.Sublist.slnil | exact List.Sublist.refl _ | apply List.Sublist.cons_cons | exact List.sublist_append_left _ _ | exact List.sublist_append_right _ _ | apply List.Sublist.cons))) (fun J k hk => ?_)
  by_cases hlt : k < a.length
  · repeat' (first | apply pwp_seq | apply pwp_region | (apply px_run; (first | (apply opv_move; first | exact hid_int rfl) | (apply opv_assign; first | exact hid_int rfl) | (apply opv_lss <;> rfl) | (apply opv_neq <;> rfl) | (apply opv_add_in; rfl; rfl; omega) | (apply opv_field fld_G1; rfl) | (apply opv_load_blk 0; (first | with_reducible exact sc_int | with_reducible exact sc_ints); rfl; rfl; rfl) | (apply opv_load_blk 1; (first | with_reducible exact sc_int | with_reducible exact sc_ints); rfl; rfl; rfl) | (apply opv_load_ints sc_int; rfl; (first | exact rd_old (by assumption)); (first | omega)) | (apply opv_index_nat (vs := ints _) el_int; rfl; rfl; (first | exact rd_old (by assumption)); (first | (simp only [ints_length]; omega))) | (apply opv_len_ints el_int; rfl; (first | exact rd_old (by assumption)))); rfl; rfl) | apply px_nil | apply qseq_normal | apply pwp_block | apply qblock_normal | apply pwp_skip | (apply pwp_region_mix; kernel_rfl; decide +kernel; exact Cl.stable _ _ _) | (apply pwp_cond_ndec; rfl; all_goals (intro hc; try (first | contradiction))) | (apply pwp_cond_dec; rfl; all_goals (intro hc; try (first | (exfalso; omega)))))
    refine qround_normal ?_ ⟨k + 1, ⟨rfl, trivial⟩, by (try dsimp only); omega, by (try dsimp only); omega, fun _ h => by exact Cl.sub (by assumption) (by repeat (first | exact List.Sublist.slnil | exact List.Sublist.refl _ | apply List.Sublist.cons_cons | exact List.sublist_append_left _ _ | exact List.sublist_append_right _ _ | apply List.Sublist.cons))⟩
    repeat (first | exact same_refl | refine same_upd rfl ?_ | refine same_junk rfl ?_)
  · repeat' (first | apply pwp_seq | apply pwp_region | (apply px_run; (first | (apply opv_move; first | exact hid_int rfl) | (apply opv_assign; first | exact hid_bool rfl) | (apply opv_lss <;> rfl) | (apply opv_field fld_G1; rfl) | (apply opv_load_blk 1; (first | with_reducible exact sc_ints); rfl; rfl; rfl) | (apply opv_len_ints el_int; rfl; (first | exact rd_old (by assumption)))); rfl; rfl) | apply px_nil | apply qseq_normal | apply qseq_exit | (apply qblock_exit_same; rfl) | apply pwp_exit | apply pwp_ret | apply qround_exit | (apply pwp_cond_dec; rfl; all_goals (intro hc; try (first | (exfalso; omega)))))
    refine qbody_ret1 (v := .bool _) rfl rfl ⟨rfl, fun _ h => h.below⟩
end Go.Proofs.Yteopfbfcnggbbaa
