import Derived.Test.YtoejpckfeflkaaaGreatDoorFacts
import Derived.Test.YtoejpckfeflkaaaGreatDoorPwPlain
/- Graphs: their validity, sets, neighbours, in the program and in the reference. -/
namespace Go.Proofs.YtoejpckfeflkaaaGreatDoor
open Go Go.RowKit Go.Pw

theorem en_i_within : Entry Tryz.prog 40 := ⟨_, Tryz.func40, by kernel_rfl, rfl⟩
theorem i_within_c (n a b : Int) (w : World) : Pure Tryz.prog 40 #[.int .i64 n, .int .i64 a, .int .i64 b] w (.bool (decide (a ≤ n ∧ n ≤ b))) := by
  refine pure_enter (args := [_, _, _]) en_i_within Tryz.func40 rfl Tryz.ntmps40 rfl ?_
  repeat' (first | apply pwp_seq | apply pwp_region | (apply px_run; (first | (apply opv_move; first | exact hid_int rfl | exact hid_bool rfl) | (apply opv_assign; first | exact hid_bool rfl) | (apply opv_leq <;> rfl) | (apply opv_pick_t <;> rfl) | (apply opv_pick_f <;> rfl)); rfl; rfl) | apply px_nil | (apply px_skip; rfl; rfl) | apply qseq_normal | apply pwp_ret | (apply px_guard_dec; rfl; rfl; rfl; all_goals (intro hc; try (first | fail))))
  · refine qbody_ret1 (v := .bool _) rfl rfl ⟨?_, fun _ h => h.below⟩
    by_cases h2 : n ≤ b
    · exact ret_true (decide_eq_true h2) ⟨hc, h2⟩
    · exact ret_false (decide_eq_false h2) fun h => h2 h.2
  · refine qbody_ret1 (v := .bool _) rfl rfl ⟨ret_false rfl fun h => hc h.1, fun _ h => h.below⟩
theorem en_s_l1In : Entry Tryz.prog 63 := ⟨_, Tryz.func63, by kernel_rfl, rfl⟩
theorem s_l1In_c (n a b : Int) (w : World) : Pure Tryz.prog 63 #[.int .i64 n, .int .i64 a, .int .i64 b] w (.bool (decide (a ≤ n ∧ n ≤ b))) := by
  refine pure_enter (args := [_, _, _]) en_s_l1In Tryz.func63 rfl Tryz.ntmps63 rfl ?_
  repeat' (first | apply pwp_seq | apply pwp_region | (apply px_run; (first | (apply opv_move; first | exact hid_int rfl | exact hid_bool rfl) | (apply opv_assign; first | exact hid_bool rfl) | (apply opv_leq <;> rfl) | (apply opv_geq <;> rfl) | (apply opv_pick_t <;> rfl) | (apply opv_pick_f <;> rfl)); rfl; rfl) | apply px_nil | (apply px_skip; rfl; rfl) | apply qseq_normal | apply pwp_ret | (apply px_guard_dec; rfl; rfl; rfl; all_goals (intro hc; try (first | fail))))
  · refine qbody_ret1 (v := .bool _) rfl rfl ⟨?_, fun _ h => h.below⟩
    by_cases h2 : n ≤ b
    · exact ret_true (decide_eq_true h2) ⟨by omega, h2⟩
    · exact ret_false (decide_eq_false h2) fun h => h2 h.2
  · refine qbody_ret1 (v := .bool _) rfl rfl ⟨ret_false rfl fun h => hc (by omega), fun _ h => h.below⟩
theorem en_i_has : Entry Tryz.prog 56 := ⟨_, Tryz.func56, by kernel_rfl, rfl⟩
theorem i_has_c (s v : Int) (w : World) (hv : 0 ≤ v) : Pure Tryz.prog 56 #[.int .i64 s, .int .i64 v] w (.bool (hasB s v)) := by
  refine pure_enter (args := [_, _]) en_i_has Tryz.func56 rfl Tryz.ntmps56 rfl ?_
  repeat' (first | apply pwp_seq | apply pwp_region | (apply px_run; (first | (apply opv_move; first | exact hid_int rfl) | (apply opv_assign; first | exact hid_bool rfl) | (apply opv_eql <;> rfl) | (apply opv_and <;> rfl) | (apply opv_shr; rfl; rfl; omega)); rfl; rfl) | apply px_nil | apply qseq_normal | apply pwp_ret)
  refine qbody_ret1 (v := .bool _) rfl rfl ⟨by rw [hasB_def], fun _ h => h.below⟩
theorem en_i_IsGraph : Entry Tryz.prog 28 := ⟨_, Tryz.func28, by kernel_rfl, rfl⟩
set_option maxHeartbeats 1000000 in
theorem i_IsGraph_c (size : Int) (sv : Value) (rows : List Int) (w : World) (hr : Arr w sv (ints rows)) :
    Pure Tryz.prog 28 #[.agg #[.int .i64 size, sv]] w (.bool (decide (IsG size rows))) := by
  refine pure_enter (args := [_]) en_i_IsGraph Tryz.func28 rfl Tryz.ntmps28 rfl ?_
  have hlen := hr.len
  by_cases hsz : 1 ≤ size ∧ size ≤ 7
  case neg =>
    repeat' (first | apply pwp_seq | apply pwp_region | (apply px_run; (first | (apply opv_move; first | exact hid_bool rfl) | (apply opv_assign; first | exact hid_bool rfl) | (apply opv_pick_t <;> rfl) | (apply opv_not_dec <;> rfl) | (apply opv_field fld_G0; rfl) | (apply opv_field fld_G1; rfl) | (apply opv_load_blk 0; (first | with_reducible exact sc_int | with_reducible exact sc_ints); rfl; rfl; rfl) | (apply opv_call; rfl; rfl; exact Cl.stable _ _ _; exact fun w hw => i_within_c _ _ _ _)); rfl; rfl) | apply px_nil | (apply px_skip; rfl; rfl) | apply qseq_normal | apply qseq_ret | apply pwp_ret | (apply pwp_cond_t; rfl) | (apply px_guard_ndec; rfl; rfl; rfl; all_goals (intro hc; try (first | contradiction))) | (apply px_box; rfl; rfl; rfl; rfl; intro bk))
    refine qbody_ret1 (v := .bool _) rfl rfl ⟨ret_false rfl fun h => hsz h.1, fun _ h => h.below⟩
  obtain ⟨hp, h2, h3⟩ := shl1 ⟨by omega, hsz.2⟩
  repeat' (first | apply pwp_seq | apply pwp_region | (apply px_run; (first | (apply opv_move; first | exact hid_int rfl | exact hid_bool rfl) | (apply opv_assign; first | exact hid_bool rfl) | (apply opv_neq <;> rfl) | (apply opv_pick_f <;> rfl) | (apply opv_not_dec <;> rfl) | (apply opv_field fld_G0; rfl) | (apply opv_field fld_G1; rfl) | (apply opv_load_blk 0; (first | with_reducible exact sc_int | with_reducible exact sc_ints); rfl; rfl; rfl) | (apply opv_len_ints el_int; rfl; (first | exact rd_old (by assumption))) | (apply opv_call; rfl; rfl; exact Cl.stable _ _ _; exact fun w hw => i_within_c _ _ _ _)); rfl; rfl) | apply px_nil | apply qseq_normal | apply qseq_ret | apply pwp_block | apply pwp_skip | apply pwp_ret | (apply px_guard_ndec; rfl; rfl; rfl; all_goals (intro hc; try (first | contradiction))) | (apply pwp_cond_ndec; rfl; all_goals (intro hc; try (first | fail))) | (apply px_box; rfl; rfl; rfl; rfl; intro bk))
  · refine qbody_ret1 (v := .bool _) rfl rfl ⟨ret_false rfl fun h => hc h.2.1, fun _ h => h.below⟩
  rename_i hl
  refine pwp_loop [(3,4),(23,40)] (fun k : Nat => [(23, .int .i64 (k : Int))]) (fun _ => Cl [] w [.blk bk [.int .i64 size, sv]]) (fun k => k ≤ rows.length ∧ ∀ v, v < k → okRow size rows v) (fun k => rows.length - k) 0
    ⟨rfl, trivial⟩ ⟨Nat.zero_le _, fun v hv => by omega⟩ (fun _ h => h) (fun J k hk => ?_)
  obtain ⟨hk, hok⟩ := hk
  by_cases hlt : k < rows.length
  · repeat' (first | apply pwp_seq | apply pwp_region | (apply px_run; (first | (apply opv_move; first | exact hid_int rfl | exact hid_bool rfl) | (apply opv_assign; first | exact hid_int rfl | exact hid_bool rfl) | (apply opv_lss <;> rfl) | (apply opv_pick_t <;> rfl) | (apply opv_pick_f <;> rfl) | (apply opv_not_dec <;> rfl) | (apply opv_add_in; rfl; rfl; omega) | (apply opv_sub_in; rfl; rfl; omega) | (apply opv_shl; rfl; rfl; omega) | (apply opv_field fld_G0; rfl) | (apply opv_load_blk 0; (first | with_reducible exact sc_int); rfl; rfl; rfl) | (apply opv_load_ints sc_int; rfl; (first | exact rd_old (by assumption)); (first | omega)) | (apply opv_index_nat (vs := ints _) el_int; rfl; rfl; (first | exact rd_old (by assumption)); (first | (simp only [ints_length]; omega))) | (apply opv_call; rfl; rfl; exact Cl.stable _ _ _; exact fun w hw => i_within_c _ _ _ _) | (apply opv_call; rfl; rfl; exact Cl.stable _ _ _; exact fun w hw => i_has_c _ _ _ (by omega))); rfl; rfl) | apply px_nil | (apply px_skip; rfl; rfl) | apply qseq_normal | apply qseq_ret | apply pwp_block | apply qblock_normal | apply qblock_ret | apply pwp_skip | apply pwp_ret | apply qround_ret | (apply pwp_cond_t; rfl) | (apply px_guard_ndec; rfl; rfl; rfl; all_goals (intro hc; try (first | fail))) | (apply pwp_cond_dec; rfl; all_goals (intro hc; try (first | (exfalso; omega)))) | (apply pwp_cond; rfl; all_goals (intro hc; try (first | fail))))
    · refine qbody_ret1 (v := .bool _) rfl rfl ⟨ret_false rfl fun h => hc (h.2.2.1 k hlt).1, fun _ h => h.below⟩
    · refine qbody_ret1 (v := .bool _) rfl rfl ⟨ret_false rfl fun h => ?_, fun _ h => h.below⟩
      have := (h.2.2.1 k hlt).2; rw [hc] at this; cases this
    · refine qround_normal ?_ ⟨k + 1, ⟨rfl, trivial⟩, ⟨by omega, fun v hv => ?_⟩, by omega, fun _ h => h⟩
      · repeat (first | exact same_refl | refine same_upd rfl ?_ | refine same_junk rfl ?_)
      · by_cases hvk : v < k
        · exact hok v hvk
        · obtain rfl : v = k := by omega
          exact ⟨by assumption, hc⟩
  · repeat' (first | apply pwp_seq | apply pwp_region | (apply px_run; (first | (apply opv_move; first | exact hid_int rfl) | (apply opv_lss <;> rfl) | (apply opv_field fld_G1; rfl) | (apply opv_load_blk 0; (first | with_reducible exact sc_ints); rfl; rfl; rfl) | (apply opv_len_ints el_int; rfl; (first | exact rd_old (by assumption)))); rfl; rfl) | apply px_nil | apply qseq_normal | apply qseq_exit | apply pwp_block | (apply qblock_exit_same; rfl) | apply pwp_exit | apply qround_exit | (apply pwp_cond_dec; rfl; all_goals (intro hc; try (first | (exfalso; omega)))))
    have hall : ∀ v, v < rows.length → okRow size rows v := fun v hv => hok v (by omega)
    clear hok hlt hc
    refine pwp_loop [(5,7),(44,65)] (fun k : Nat => [(44, .int .i64 (k : Int))]) (fun _ => Cl [] w [.blk bk [.int .i64 size, sv]]) (fun k => k ≤ rows.length ∧ ∀ v, v < k → ∀ u, u < v → okSym rows v u) (fun k => rows.length - k) 0
      ⟨rfl, trivial⟩ ⟨Nat.zero_le _, fun v hv => by omega⟩ (fun _ h => h) (fun J2 v hv => ?_)
    obtain ⟨hv, hsy⟩ := hv
    by_cases hlt : v < rows.length
    · repeat' (first | apply pwp_seq | apply pwp_region | (apply px_run; (first | (apply opv_move; first | exact hid_int rfl) | (apply opv_assign; first | exact hid_int rfl) | (apply opv_lss <;> rfl) | (apply opv_load_ints sc_int; rfl; (first | exact rd_old (by assumption)); (first | omega)) | (apply opv_index_nat (vs := ints _) el_int; rfl; rfl; (first | exact rd_old (by assumption)); (first | (simp only [ints_length]; omega)))); rfl; rfl) | apply px_nil | apply qseq_normal | apply pwp_block | apply pwp_skip | (apply pwp_cond_dec; rfl; all_goals (intro hc; try (first | (exfalso; omega)))))
      refine pwp_loop [(7,7),(50,64)] (fun k : Nat => [(50, .int .i64 (k : Int))]) (fun _ => Cl [] w [.blk bk [.int .i64 size, sv]]) (fun u => u ≤ v ∧ ∀ x, x < u → okSym rows v x) (fun u => v - u) 0
        ⟨rfl, trivial⟩ ⟨Nat.zero_le _, fun v hv => by omega⟩ (fun _ h => h) (fun J3 u hu => ?_)
      obtain ⟨hu, hsu⟩ := hu
      by_cases hlu : u < v
      · repeat' (first | apply pwp_seq | apply pwp_region | (apply px_run; (first | (apply opv_move; first | exact hid_int rfl) | (apply opv_assign; first | exact hid_int rfl | exact hid_bool rfl) | (apply opv_lss <;> rfl) | (apply opv_add_in; rfl; rfl; omega) | (apply opv_field fld_G1; rfl) | (apply opv_load_blk 0; (first | with_reducible exact sc_int | with_reducible exact sc_ints); rfl; rfl; rfl) | (apply opv_load_ints sc_int; rfl; (first | exact rd_old (by assumption)); (first | omega)) | (apply opv_index_nat (vs := ints _) el_int; rfl; rfl; (first | exact rd_old (by assumption)); (first | (simp only [ints_length]; omega))) | (apply opv_call; rfl; rfl; exact Cl.stable _ _ _; exact fun w hw => i_has_c _ _ _ (by omega)) | (apply opv_neq_bool ty_bool <;> rfl)); rfl; rfl) | apply px_nil | apply qseq_normal | apply qseq_ret | apply pwp_block | apply qblock_normal | apply qblock_ret | apply pwp_skip | apply pwp_ret | apply qround_ret | (apply pwp_region_draw; kernel_rfl; kernel_rfl; exact Cl.stable _ _ _) | (apply pwp_cond_dec; rfl; all_goals (intro hc; try (first | (exfalso; omega)))) | (apply pwp_cond_not; rfl; all_goals (intro hc; try (first | fail))))
        · refine qbody_ret1 (v := .bool _) rfl rfl ⟨ret_false rfl fun h => ?_, fun _ h => h.below⟩
          have := h.2.2.2 v hlt u hlu; simp [okSym] at this; simp [this] at hc
        · refine qround_normal ?_ ⟨u + 1, ⟨rfl, trivial⟩, ⟨by omega, fun x hx => ?_⟩, by omega, fun _ h => h⟩
          · repeat (first | exact same_refl | refine same_upd rfl ?_ | refine same_junk rfl ?_)
          · by_cases hvk : x < u
            · exact hsu x hvk
            · obtain rfl : x = u := by omega
              simpa [okSym] using hc
      · repeat' (first | apply pwp_seq | apply pwp_region | (apply px_run; (first | (apply opv_move; first | exact hid_int rfl) | (apply opv_lss <;> rfl) | (apply opv_add_in; rfl; rfl; omega)); rfl; rfl) | apply px_nil | apply qseq_normal | apply qseq_exit | apply qblock_normal | (apply qblock_exit_same; rfl) | apply pwp_exit | apply qround_exit | (apply pwp_cond_dec; rfl; all_goals (intro hc; try (first | (exfalso; omega)))))
        refine qround_normal ?_ ⟨v + 1, ⟨rfl, trivial⟩, ⟨by omega, fun x hx => ?_⟩, by omega, fun _ h => h⟩
        · repeat (first | exact same_refl | refine same_upd rfl ?_ | refine same_junk rfl ?_)
        · by_cases hvk : x < v
          · exact hsy x hvk
          · obtain rfl : x = v := by omega
            exact fun u hu => hsu u (by omega)
    · repeat' (first | apply pwp_seq | apply pwp_region | (apply px_run; (first | (apply opv_assign; first | exact hid_bool rfl) | (apply opv_lss <;> rfl)); rfl; rfl) | apply px_nil | apply qseq_normal | apply qseq_exit | (apply qblock_exit_same; rfl) | apply pwp_exit | apply pwp_ret | apply qround_exit | (apply pwp_cond_dec; rfl; all_goals (intro hc; try (first | (exfalso; omega)))))
      refine qbody_ret1 (v := .bool _) rfl rfl ⟨ret_true rfl ⟨hsz, by omega, hall, fun x hx => hsy x (by omega)⟩, fun _ h => h.below⟩

theorem en_s_IsGraph : Entry Tryz.prog 33 := ⟨_, Tryz.func33, by kernel_rfl, rfl⟩
set_option maxHeartbeats 1000000 in
theorem s_IsGraph_c (size : Int) (sv : Value) (rows : List Int) (w : World) (hr : Arr w sv (ints rows)) :
    Pure Tryz.prog 33 #[.agg #[.int .i64 size, sv]] w (.bool (decide (IsG size rows))) := by
  refine pure_enter (args := [_]) en_s_IsGraph Tryz.func33 rfl Tryz.ntmps33 rfl ?_
  have hlen := hr.len
  by_cases hsz : 1 ≤ size ∧ size ≤ 7
  case neg =>
    repeat' (first | apply pwp_seq | apply pwp_region | (apply px_run; (first | (apply opv_move; first | exact hid_bool rfl) | (apply opv_assign; first | exact hid_bool rfl) | (apply opv_pick_t <;> rfl) | (apply opv_not_dec <;> rfl) | (apply opv_field fld_G0; rfl) | (apply opv_field fld_G1; rfl) | (apply opv_load_blk 0; (first | with_reducible exact sc_int | with_reducible exact sc_ints); rfl; rfl; rfl) | (apply opv_call; rfl; rfl; exact Cl.stable _ _ _; exact fun w hw => s_l1In_c _ _ _ _)); rfl; rfl) | apply px_nil | (apply px_skip; rfl; rfl) | apply qseq_normal | apply qseq_ret | apply pwp_ret | (apply pwp_cond_t; rfl) | (apply px_guard_ndec; rfl; rfl; rfl; all_goals (intro hc; try (first | contradiction))) | (apply px_box; rfl; rfl; rfl; rfl; intro bk))
    refine qbody_ret1 (v := .bool _) rfl rfl ⟨ret_false rfl fun h => hsz h.1, fun _ h => h.below⟩
  obtain ⟨hp, h2, h3⟩ := shl1 ⟨by omega, hsz.2⟩
  repeat' (first | apply pwp_seq | apply pwp_region | (apply px_run; (first | (apply opv_move; first | exact hid_bool rfl) | (apply opv_assign; first | exact hid_int rfl | exact hid_bool rfl) | (apply opv_neq <;> rfl) | (apply opv_pick_f <;> rfl) | (apply opv_not_dec <;> rfl) | (apply opv_field fld_G0; rfl) | (apply opv_field fld_G1; rfl) | (apply opv_load_blk 0; (first | with_reducible exact sc_int | with_reducible exact sc_ints); rfl; rfl; rfl) | (apply opv_len_ints el_int; rfl; (first | exact rd_old (by assumption))) | (apply opv_call; rfl; rfl; exact Cl.stable _ _ _; exact fun w hw => s_l1In_c _ _ _ _)); rfl; rfl) | apply px_nil | apply qseq_normal | apply qseq_ret | apply pwp_block | apply pwp_skip | apply pwp_ret | (apply px_guard_ndec; rfl; rfl; rfl; all_goals (intro hc; try (first | contradiction))) | (apply pwp_cond_ndec; rfl; all_goals (intro hc; try (first | fail))) | (apply px_box; rfl; rfl; rfl; rfl; intro bk))
  · refine qbody_ret1 (v := .bool _) rfl rfl ⟨ret_false rfl fun h => hc h.2.1, fun _ h => h.below⟩
  rename_i hl
  refine pwp_loop [(2,4), (17,95)] (fun k : Nat => [(3, .int .i64 (k : Int))]) (fun _ => Cl [] w [.blk bk [.int .i64 size, sv]]) (fun k => k ≤ rows.length ∧ ∀ v, v < k → rowS size rows v) (fun k => rows.length - k) 0
    ⟨rfl, trivial⟩ ⟨Nat.zero_le _, fun v hv => by omega⟩ (fun _ h => h) (fun J k hk => ?_)
  obtain ⟨hk, hok⟩ := hk
  by_cases hlt : k < rows.length
  · have key : ∀ (h : IsG size rows), rowS size rows k := fun h => rowS_of_isG h k hlt
    repeat' (first | apply pwp_seq | apply pwp_region | (apply px_run; (first | (apply opv_move; first | exact hid_int rfl | exact hid_bool rfl) | (apply opv_assign; first | exact hid_int rfl | exact hid_bool rfl) | (apply opv_lss <;> rfl) | (apply opv_geq <;> rfl) | (apply opv_eql <;> rfl) | (apply opv_and <;> rfl) | (apply opv_pick_t <;> rfl) | (apply opv_pick_f <;> rfl) | (apply opv_shl; rfl; rfl; omega) | (apply opv_shr; rfl; rfl; omega) | (apply opv_field fld_G0; rfl) | (apply opv_field fld_G1; rfl) | (apply opv_load_blk 0; (first | with_reducible exact sc_int | with_reducible exact sc_ints); rfl; rfl; rfl) | (apply opv_load_ints sc_int; rfl; (first | exact rd_old (by assumption)); (first | omega)) | (apply opv_index_nat (vs := ints _) el_int; rfl; rfl; (first | exact rd_old (by assumption)); (first | (simp only [ints_length]; omega)))); rfl; rfl) | apply px_nil | (apply px_skip; rfl; rfl) | apply qseq_normal | apply qseq_ret | apply pwp_block | apply qblock_ret | apply pwp_skip | apply pwp_ret | apply qround_ret | (apply pwp_cond_t; rfl) | (apply pwp_region_mix; kernel_rfl; decide +kernel; exact Cl.stable _ _ _) | (apply px_guard_dec; rfl; rfl; rfl; all_goals (intro hc; try (first | fail))) | (apply pwp_cond_dec; rfl; all_goals (intro hc; try (first | (exfalso; omega)))))
    · refine qbody_ret1 (v := .bool _) rfl rfl ⟨ret_false rfl fun h => ?_, fun _ h => h.below⟩
      have := (key h).1; omega
    · refine qbody_ret1 (v := .bool _) rfl rfl ⟨ret_false rfl fun h => ?_, fun _ h => h.below⟩
      have := (key h).1; omega
    · refine qbody_ret1 (v := .bool _) rfl rfl ⟨ret_false rfl fun h => ?_, fun _ h => h.below⟩
      have := (key h).2.1; rw [hasB_iff.2 hc] at this; cases this
    have hself : hasB (rows.getD k 0) k = false := by rw [hasB_iff0]; have := iand_one (ishr (rows.getD k 0) k); omega
    refine pwp_loop [(2,2), (4,4), (51,95)] (fun u : Nat => [(4, .int .i64 (u : Int))]) (fun _ => Cl [] w [.blk bk [.int .i64 size, sv]])
      (fun u => u ≤ rows.length ∧ ∀ x, x < u → hasB (rows.getD k 0) x = true → (0 ≤ rows.getD x 0 ∧ rows.getD x 0 < ishl 1 size) ∧ hasB (rows.getD x 0) k = true) (fun u => rows.length - u) 0
      ⟨rfl, trivial⟩ ⟨Nat.zero_le _, fun v hv => by omega⟩ (fun _ h => h) (fun J2 u hu => ?_)
    obtain ⟨hu, hsu⟩ := hu
    by_cases hlu : u < rows.length
    · have kk : hasB (rows.getD k 0) u = true → IsG size rows → (0 ≤ rows.getD u 0 ∧ rows.getD u 0 < ishl 1 size) ∧ hasB (rows.getD u 0) k = true := fun hb h => (key h).2.2 u hlu hb
      repeat' (first | apply pwp_seq | apply pwp_region | (apply px_run; (first | (apply opv_move; first | exact hid_int rfl | exact hid_bool rfl | rfl) | (apply opv_assign; first | exact hid_int rfl | exact hid_bool rfl) | (apply opv_lss <;> rfl) | (apply opv_geq <;> rfl) | (apply opv_eql <;> rfl) | (apply opv_and <;> rfl) | (apply opv_pick_t <;> rfl) | (apply opv_pick_f <;> rfl) | (apply opv_add_in; rfl; rfl; omega) | (apply opv_shl; rfl; rfl; omega) | (apply opv_shr; rfl; rfl; omega) | (apply opv_field fld_G0; rfl) | (apply opv_field fld_G1; rfl) | (apply opv_load_blk 0; (first | with_reducible exact sc_int | with_reducible exact sc_ints); rfl; rfl; rfl) | (apply opv_load_ints sc_int; rfl; (first | exact rd_old (by assumption)); (first | omega)) | (apply opv_index_nat (vs := ints _) el_int; rfl; rfl; (first | exact rd_old (by assumption)); (first | (simp only [ints_length]; omega)))); rfl; rfl) | apply px_nil | (apply px_skip; rfl; rfl) | apply qseq_normal | apply qseq_ret | apply pwp_block | apply qblock_normal | apply qblock_ret | apply pwp_skip | apply pwp_ret | apply qround_ret | (apply pwp_cond_t; rfl) | (apply pwp_cond_f; rfl) | (apply pwp_region_mix; kernel_rfl; decide +kernel; exact Cl.stable _ _ _) | (apply px_guard_dec; rfl; rfl; rfl; all_goals (intro hc; try (first | fail))) | (apply pwp_cond_dec; rfl; all_goals (intro hc; try (first | (exfalso; omega)))))
      · refine qbody_ret1 (v := .bool _) rfl rfl ⟨ret_false rfl fun h => ?_, fun _ h => h.below⟩
        have := (kk (hasB_iff.2 (by assumption)) h).1; omega
      · refine qbody_ret1 (v := .bool _) rfl rfl ⟨ret_false rfl fun h => ?_, fun _ h => h.below⟩
        have := (kk (hasB_iff.2 (by assumption)) h).1; omega
      · refine qbody_ret1 (v := .bool _) rfl rfl ⟨ret_false rfl fun h => ?_, fun _ h => h.below⟩
        have := (kk (hasB_iff.2 (by assumption)) h).2; rw [hasB_iff0.2 hc] at this; cases this
      · refine qround_normal ?_ ⟨u + 1, ⟨rfl, trivial⟩, ⟨by omega, fun x hx => ?_⟩, by omega, fun _ h => h⟩
        · repeat (first | exact same_refl | refine same_upd rfl ?_ | refine same_junk rfl ?_)
        · by_cases hvk : x < u
          · exact hsu x hvk
          · obtain rfl : x = u := by omega
            exact fun _ => ⟨by omega, by rw [hasB_iff]; have := iand_one (ishr (rows.getD x 0) k); omega⟩
      · refine qround_normal ?_ ⟨u + 1, ⟨rfl, trivial⟩, ⟨by omega, fun x hx => ?_⟩, by omega, fun _ h => h⟩
        · repeat (first | exact same_refl | refine same_upd rfl ?_ | refine same_junk rfl ?_)
        · by_cases hvk : x < u
          · exact hsu x hvk
          · obtain rfl : x = u := by omega
            exact fun hb => (hc (hasB_iff.1 hb)).elim
    · repeat' (first | apply pwp_seq | apply pwp_region | (apply px_run; (first | (apply opv_move; first | exact hid_int rfl) | (apply opv_assign; first | exact hid_int rfl) | (apply opv_lss <;> rfl) | (apply opv_add_in; rfl; rfl; omega) | (apply opv_field fld_G0; rfl) | (apply opv_load_blk 0; (first | with_reducible exact sc_int); rfl; rfl; rfl)); rfl; rfl) | apply px_nil | apply qseq_normal | apply qseq_exit | apply qblock_normal | (apply qblock_exit_same; rfl) | apply pwp_exit | apply qround_exit | (apply pwp_cond_dec; rfl; all_goals (intro hc; try (first | (exfalso; omega)))))
      refine qround_normal ?_ ⟨k + 1, ⟨rfl, trivial⟩, ⟨by omega, fun x hx => ?_⟩, by omega, fun _ h => h⟩
      · repeat (first | exact same_refl | refine same_upd rfl ?_ | refine same_junk rfl ?_)
      · by_cases hvk : x < k
        · exact hok x hvk
        · obtain rfl : x = k := by omega
          exact ⟨by omega, hself, fun y hy => hsu y (by omega)⟩
  · repeat' (first | apply pwp_seq | apply pwp_region | (apply px_run; (first | (apply opv_move; first | exact hid_int rfl) | (apply opv_assign; first | exact hid_bool rfl) | (apply opv_lss <;> rfl) | (apply opv_field fld_G0; rfl) | (apply opv_load_blk 0; (first | with_reducible exact sc_int); rfl; rfl; rfl)); rfl; rfl) | apply px_nil | apply qseq_normal | apply qseq_exit | (apply qblock_exit_same; rfl) | apply pwp_exit | apply pwp_ret | apply qround_exit | (apply pwp_cond_dec; rfl; all_goals (intro hc; try (first | (exfalso; omega)))))
    refine qbody_ret1 (v := .bool _) rfl rfl ⟨ret_true rfl (isG_of_rowS hsz (by omega) fun v hv => hok v (by omega)), fun _ h => h.below⟩
end Go.Proofs.YtoejpckfeflkaaaGreatDoor
/- Sets of vertices. -/
namespace Go.Proofs.YtoejpckfeflkaaaGreatDoor
open Go Go.RowKit Go.Pw

theorem en_i_all : Entry Tryz.prog 74 := ⟨_, Tryz.func74, by kernel_rfl, rfl⟩
theorem i_all_c (size : Int) (sv : Value) (w : World) (hsz : 0 ≤ size ∧ size ≤ 7) : Pure Tryz.prog 74 #[.agg #[.int .i64 size, sv]] w (.int .i64 (ishl 1 size - 1)) := by
  refine pure_enter (args := [_]) en_i_all Tryz.func74 rfl Tryz.ntmps74 rfl ?_
  obtain ⟨hp, h2, h3⟩ := shl1 hsz
  repeat' (first | apply pwp_seq | apply pwp_region | (apply px_run; (first | (apply opv_assign; first | exact hid_int rfl) | (apply opv_sub_in; rfl; rfl; omega) | (apply opv_shl; rfl; rfl; omega) | (apply opv_field fld_G0; rfl) | (apply opv_load_blk 0; (first | with_reducible exact sc_int); rfl; rfl; rfl)); rfl; rfl) | apply px_nil | apply qseq_normal | apply pwp_ret | (apply px_box; rfl; rfl; rfl; rfl; intro bk))
  refine qbody_ret1 (v := .int _ _) rfl rfl ⟨rfl, fun _ h => h.below⟩
theorem en_i_IsSet : Entry Tryz.prog 75 := ⟨_, Tryz.func75, by kernel_rfl, rfl⟩
theorem i_IsSet_c (size : Int) (sv : Value) (rows : List Int) (s : Int) (w : World) (hr : Arr w sv (ints rows)) :
    Pure Tryz.prog 75 #[.agg #[.int .i64 size, sv], .int .i64 s] w (.bool (decide (IsG size rows ∧ 0 ≤ s ∧ s < ishl 1 size))) := by
  refine pure_enter (args := [_, _]) en_i_IsSet Tryz.func75 rfl Tryz.ntmps75 rfl ?_
  by_cases hg : IsG size rows
  · have hsz : 0 ≤ size ∧ size ≤ 7 := ⟨by have := hg.1.1; omega, hg.1.2⟩
    repeat' (first | apply pwp_seq | apply pwp_region | (apply px_run; (first | (apply opv_move; first | exact hid_int rfl | exact hid_bool rfl) | (apply opv_assign; first | exact hid_bool rfl) | (apply opv_pick_t <;> rfl) | (apply opv_load_str 0 st_G; rfl; rfl; rfl) | (apply opv_call; rfl; rfl; exact Cl.stable _ _ _; exact fun w hw => i_IsGraph_c _ _ rows _ (hw.arr hr)) | (apply opv_call; rfl; rfl; exact Cl.stable _ _ _; exact fun w hw => i_all_c _ _ _ hsz) | (apply opv_call; rfl; rfl; exact Cl.stable _ _ _; exact fun w hw => i_within_c _ _ _ _)); rfl; rfl) | apply px_nil | apply qseq_normal | apply pwp_ret | (apply px_guard_dec; rfl; rfl; rfl; all_goals (intro hc; try (first | contradiction))) | (apply px_box; rfl; rfl; rfl; rfl; intro bk))
    · refine qbody_ret1 (v := .bool (decide _)) rfl rfl ⟨ret_iff ⟨fun h => ⟨hg, by omega, by omega⟩, fun h => ⟨h.2.1, by omega⟩⟩, fun _ h => h.below⟩
  · repeat' (first | apply pwp_seq | apply pwp_region | (apply px_run; (first | (apply opv_move; first | exact hid_int rfl | exact hid_bool rfl) | (apply opv_assign; first | exact hid_bool rfl) | (apply opv_pick_f <;> rfl) | (apply opv_load_str 0 st_G; rfl; rfl; rfl) | (apply opv_call; rfl; rfl; exact Cl.stable _ _ _; exact fun w hw => i_IsGraph_c _ _ rows _ (hw.arr hr))); rfl; rfl) | apply px_nil | (apply px_skip; rfl; rfl) | apply qseq_normal | apply pwp_ret | (apply px_guard_dec; rfl; rfl; rfl; all_goals (intro hc; try (first | contradiction))) | (apply px_box; rfl; rfl; rfl; rfl; intro bk))
    · refine qbody_ret1 (v := .bool _) rfl rfl ⟨ret_false rfl fun h => hg h.1, fun _ h => h.below⟩
theorem en_s_IsSet : Entry Tryz.prog 78 := ⟨_, Tryz.func78, by kernel_rfl, rfl⟩
theorem s_IsSet_c (size : Int) (sv : Value) (rows : List Int) (s : Int) (w : World) (hr : Arr w sv (ints rows)) :
    Pure Tryz.prog 78 #[.agg #[.int .i64 size, sv], .int .i64 s] w (.bool (decide (IsG size rows ∧ 0 ≤ s ∧ s < ishl 1 size))) := by
  refine pure_enter (args := [_, _]) en_s_IsSet Tryz.func78 rfl Tryz.ntmps78 rfl ?_
  by_cases hg : IsG size rows
  · have hsz : 0 ≤ size ∧ size ≤ 7 := ⟨by have := hg.1.1; omega, hg.1.2⟩
    obtain ⟨hz1, hz2⟩ := hsz
    repeat' (first | apply pwp_seq | apply pwp_region | (apply px_run; (first | (apply opv_move; first | exact hid_int rfl | exact hid_bool rfl) | (apply opv_assign; first | exact hid_bool rfl) | (apply opv_lss <;> rfl) | (apply opv_geq <;> rfl) | (apply opv_pick_t <;> rfl) | (apply opv_pick_f <;> rfl) | (apply opv_shl; rfl; rfl; omega) | (apply opv_field fld_G0; rfl) | (apply opv_load_blk 0; (first | with_reducible exact sc_int); rfl; rfl; rfl) | (apply opv_load_str 0 st_G; rfl; rfl; rfl) | (apply opv_call; rfl; rfl; exact Cl.stable _ _ _; exact fun w hw => s_IsGraph_c _ _ rows _ (hw.arr hr))); rfl; rfl) | apply px_nil | (apply px_skip; rfl; rfl) | apply qseq_normal | apply pwp_ret | (apply px_guard_dec; rfl; rfl; rfl; all_goals (intro hc; try (first | contradiction))) | (apply px_box; rfl; rfl; rfl; rfl; intro bk))
    · refine qbody_ret1 (v := .bool (decide _)) rfl rfl ⟨ret_iff ⟨fun h => ⟨hg, by omega, by omega⟩, fun h => h.2.2⟩, fun _ h => h.below⟩
    · refine qbody_ret1 (v := .bool _) rfl rfl ⟨ret_false rfl fun h => hc h.2.1, fun _ h => h.below⟩
  · repeat' (first | apply pwp_seq | apply pwp_region | (apply px_run; (first | (apply opv_move; first | exact hid_int rfl | exact hid_bool rfl) | (apply opv_assign; first | exact hid_bool rfl) | (apply opv_pick_f <;> rfl) | (apply opv_field fld_G0; rfl) | (apply opv_load_str 0 st_G; rfl; rfl; rfl) | (apply opv_call; rfl; rfl; exact Cl.stable _ _ _; exact fun w hw => s_IsGraph_c _ _ rows _ (hw.arr hr))); rfl; rfl) | apply px_nil | (apply px_skip; rfl; rfl) | apply qseq_normal | apply pwp_ret | (apply px_guard_dec; rfl; rfl; rfl; all_goals (intro hc; try (first | contradiction))) | (apply px_box; rfl; rfl; rfl; rfl; intro bk))
    · refine qbody_ret1 (v := .bool _) rfl rfl ⟨ret_false rfl fun h => hg h.1, fun _ h => h.below⟩
theorem en_s_l3Fine : Entry Tryz.prog 67 := ⟨_, Tryz.func67, by kernel_rfl, rfl⟩
theorem s_l3Fine_c (s : Int) (w : World) : Pure Tryz.prog 67 #[.int .i64 s] w (.bool (decide (0 ≤ s ∧ s ≤ 127))) := by
  refine pure_enter (args := [_]) en_s_l3Fine Tryz.func67 rfl Tryz.ntmps67 rfl ?_
  repeat' (first | apply pwp_seq | apply pwp_region | (apply px_run; (first | (apply opv_move; first | exact hid_int rfl) | (apply opv_assign; first | exact hid_bool rfl) | (apply opv_call; rfl; rfl; exact Cl.stable _ _ _; exact fun w hw => s_l1In_c _ _ _ _)); rfl; rfl) | apply px_nil | apply qseq_normal | apply pwp_ret)
  refine qbody_ret1 (v := .bool (decide _)) rfl rfl ⟨ret_iff Iff.rfl, fun _ h => h.below⟩
theorem en_s_l2Edge : Entry Tryz.prog 95 := ⟨_, Tryz.func95, by kernel_rfl, rfl⟩
theorem s_l2Edge_c (size : Int) (sv : Value) (rows : List Int) (v u : Int) (w : World) (hr : Arr w sv (ints rows)) (hv : 0 ≤ v ∧ v < rows.length) (hu : 0 ≤ u) :
    Pure Tryz.prog 95 #[.agg #[.int .i64 size, sv], .int .i64 v, .int .i64 u] w (.bool (hasB (rows.getD v.toNat 0) u)) := by
  refine pure_enter (args := [_, _, _]) en_s_l2Edge Tryz.func95 rfl Tryz.ntmps95 rfl ?_
  repeat' (first | apply pwp_seq | apply pwp_region | (apply px_run; (first | (apply opv_move; first | exact hid_int rfl) | (apply opv_assign; first | exact hid_bool rfl) | (apply opv_eql <;> rfl) | (apply opv_and <;> rfl) | (apply opv_shr; rfl; rfl; omega) | (apply opv_field fld_G1; rfl) | (apply opv_load_blk 0; (first | with_reducible exact sc_int | with_reducible exact sc_ints); rfl; rfl; rfl) | (apply opv_load_ints sc_int; rfl; (first | exact rd_old (by assumption)); (first | omega)) | (apply opv_index (vs := ints _) el_int; rfl; rfl; (first | exact rd_old (by assumption)); omega; (first | (simp only [ints_length]; omega)))); rfl; rfl) | apply px_nil | apply qseq_normal | apply pwp_ret | (apply px_box; rfl; rfl; rfl; rfl; intro bk))
  refine qbody_ret1 (v := .bool _) rfl rfl ⟨by rw [hasB_def], fun _ h => h.below⟩
theorem en_i_ListOf : Entry Tryz.prog 62 := ⟨_, Tryz.func62, by kernel_rfl, rfl⟩
set_option maxHeartbeats 400000 in
theorem i_ListOf_c (s : Int) (w : World) : Gives Tryz.prog 62 #[.int .i64 s] w (fun v objs => objs = [.row 3 v (ints (listS s))]) := by
  refine gives_enter (args := [_]) en_i_ListOf Tryz.func62 rfl Tryz.ntmps62 rfl ?_
  repeat' (first | apply pwp_seq | apply pwp_region | (apply px_run; (first | (apply opv_move; first | exact hid_int rfl | rfl) | (apply opv_assign; first | rfl) | (apply opv_not_dec <;> rfl) | (apply opv_call; rfl; rfl; exact Cl.stable _ _ _; exact fun w hw => i_within_c _ _ _ _)); rfl; rfl) | apply px_nil | apply qseq_normal | apply qseq_ret | apply pwp_block | apply pwp_skip | apply pwp_ret | (apply pwp_cond_ndec; rfl; all_goals (intro hc; try (first | fail))) | (apply px_lit0 ez_int; rfl; rfl; rfl; intro sv))
  · refine qbody_ret1 (v := sv) rfl rfl ⟨_, rfl, fun w' h => by simpa [listS, hc, ints] using h⟩
  refine pwp_loop (τ := Nat × Value) [(3,4), (10,20)] (fun x => [(10, .int .i64 (x.1 : Int)), (3, x.2)]) (fun x => Cl [] w [.row 3 x.2 (ints (listU s x.1))]) (fun x => x.1 ≤ 7) (fun x => 7 - x.1) (0, sv)
    ⟨rfl, rfl, trivial⟩ (Nat.zero_le _) (fun _ h => h) (fun J x hk => ?_)
  obtain ⟨k, so⟩ := x
  have hl := listU_length s k
  dsimp only at hk
  by_cases hlt : k < 7
  · have hsucc := listU_succ s k
    repeat' (first | apply pwp_seq | apply pwp_region | (apply px_run; (first | (apply opv_move; first | exact hid_int rfl | rfl) | (apply opv_assign; first | exact hid_int rfl | rfl) | (apply opv_lss <;> rfl) | (apply opv_add_in; rfl; rfl; omega) | (apply opv_call; rfl; rfl; exact Cl.stable _ _ _; exact fun w hw => i_has_c _ _ _ (by omega))); rfl; rfl) | apply px_nil | apply qseq_normal | apply pwp_block | apply qblock_normal | apply pwp_skip | (apply pwp_cond_dec; rfl; all_goals (intro hc; try (first | (exfalso; omega)))) | (apply pwp_cond; rfl; all_goals (intro hc; try (first | fail))) | (apply px_lit1 ez_int; rfl; (intro w hw; (first | rfl)); rfl; rfl; rfl; intro sv) | (apply px_append 1 ez_int; rfl; rfl; rfl; (first | exact rd_row 0 rfl); (first | (intro _ _ u hu; simp at hu; subst hu; rfl)); (simp [ints]; omega); decide; rfl; rfl; intro sv))
    · refine qround_normal ?_ ⟨(k + 1, _), ⟨rfl, rfl, trivial⟩, by dsimp only; omega, by dsimp only; omega, fun w' h => ?_⟩
      · repeat (first | exact same_refl | refine same_upd rfl ?_ | refine same_junk rfl ?_)
      · rw [if_pos hc] at hsucc
        simp only [hsucc, ← ints_snoc]
        exact Cl.sub (by assumption) (by repeat (first | exact List.Sublist.slnil | exact List.Sublist.refl _ | apply List.Sublist.cons_cons | exact List.sublist_append_left _ _ | exact List.sublist_append_right _ _ | apply List.Sublist.cons))
    · refine qround_normal ?_ ⟨(k + 1, so), ⟨rfl, rfl, trivial⟩, by dsimp only; omega, by dsimp only; omega, fun w' h => ?_⟩
      · repeat (first | exact same_refl | refine same_upd rfl ?_ | refine same_junk rfl ?_)
      · rw [if_neg (by rw [hc]; exact Bool.false_ne_true)] at hsucc
        simp only [hsucc]
        exact Cl.sub (by assumption) (by repeat (first | exact List.Sublist.slnil | exact List.Sublist.refl _ | apply List.Sublist.cons_cons | exact List.sublist_append_left _ _ | exact List.sublist_append_right _ _ | apply List.Sublist.cons))
  · repeat' (first | apply pwp_seq | apply pwp_region | (apply px_run; (first | (apply opv_move; first | rfl) | (apply opv_assign; first | rfl) | (apply opv_lss <;> rfl)); rfl; rfl) | apply px_nil | apply qseq_normal | apply qseq_exit | (apply qblock_exit_same; rfl) | apply pwp_exit | apply pwp_ret | apply qround_exit | (apply pwp_cond_dec; rfl; all_goals (intro hc; try (first | (exfalso; omega)))))
    obtain rfl : k = 7 := by omega
    refine qbody_ret1 (v := so) rfl rfl ⟨_, rfl, fun w' h => by rw [listS_eq (by assumption)]; exact h⟩
theorem en_s_ListOf : Entry Tryz.prog 65 := ⟨_, Tryz.func65, by kernel_rfl, rfl⟩
set_option maxHeartbeats 400000 in
theorem s_ListOf_c (s : Int) (w : World) : Gives Tryz.prog 65 #[.int .i64 s] w (fun v objs => objs = [.row 3 v (ints (listS s))]) := by
  refine gives_enter (args := [_]) en_s_ListOf Tryz.func65 rfl Tryz.ntmps65 rfl ?_
  by_cases hs : 0 ≤ s ∧ s ≤ 127
  case neg =>
    repeat' (first | apply pwp_seq | apply pwp_region | (apply px_run; (first | (apply opv_assign; first | exact hid_int rfl | rfl)); rfl; rfl) | apply px_nil | apply qseq_normal | apply pwp_block | (apply px_lit0 ez_int; rfl; rfl; rfl; intro sv))
    refine pwp_loop_once ?_
    repeat' (first | apply pwp_seq | apply pwp_region | (apply px_run; (first | (apply opv_move; first | exact hid_int rfl | exact hid_bool rfl | rfl) | (apply opv_assign; first | rfl) | (apply opv_lss <;> rfl) | (apply opv_pick_t <;> rfl) | (apply opv_call; rfl; rfl; exact Cl.stable _ _ _; exact fun w hw => s_l3Fine_c _ _)); rfl; rfl) | apply px_nil | apply qseq_normal | apply qseq_exit | (apply qblock_exit_same; rfl) | apply pwp_exit | apply pwp_ret | apply qonce_exit | (apply pwp_cond_dec; rfl; all_goals (intro hc; try (first | contradiction))))
    refine qbody_ret1 (v := sv) rfl rfl ⟨_, rfl, fun w' h => by simpa [listS, hs, ints] using h⟩
  obtain ⟨hs1, hs2⟩ := hs
  repeat' (first | apply pwp_seq | apply pwp_region | (apply px_run; (first | (apply opv_assign; first | exact hid_int rfl | rfl)); rfl; rfl) | apply px_nil | apply qseq_normal | apply pwp_block | (apply px_lit0 ez_int; rfl; rfl; rfl; intro sv))
  refine pwp_loop (τ := Nat × Value) [(3,4), (6,22)] (fun x => [(4, .int .i64 (x.1 : Int)), (3, x.2)]) (fun x => Cl [] w [.row 3 x.2 (ints (listU s x.1))]) (fun x => x.1 ≤ 7) (fun x => 7 - x.1) (0, sv)
    ⟨rfl, rfl, trivial⟩ (Nat.zero_le _) (fun _ h => h) (fun J x hk => ?_)
  obtain ⟨k, so⟩ := x
  have hl := listU_length s k
  dsimp only at hk
  by_cases hlt : k < 7
  · have hsucc := listU_succ s k
    repeat' (first | apply pwp_seq | apply pwp_region | (apply px_run; (first | (apply opv_move; first | exact hid_int rfl | exact hid_bool rfl | rfl) | (apply opv_assign; first | exact hid_int rfl | rfl) | (apply opv_lss <;> rfl) | (apply opv_eql <;> rfl) | (apply opv_and <;> rfl) | (apply opv_pick_t <;> rfl) | (apply opv_add_in; rfl; rfl; omega) | (apply opv_shr; rfl; rfl; omega) | (apply opv_call; rfl; rfl; exact Cl.stable _ _ _; exact fun w hw => s_l3Fine_c _ _)); rfl; rfl) | apply px_nil | apply qseq_normal | apply pwp_block | apply qblock_normal | apply pwp_skip | (apply px_guard_dec; rfl; rfl; rfl; all_goals (intro hc; try (first | (exfalso; omega)))) | (apply pwp_cond_dec; rfl; all_goals (intro hc; try (first | (exfalso; omega)))) | (apply px_lit1 ez_int; rfl; (intro w hw; (first | rfl)); rfl; rfl; rfl; intro sv) | (apply px_append 1 ez_int; rfl; rfl; rfl; (first | exact rd_row 0 rfl); (first | (intro _ _ u hu; simp at hu; subst hu; rfl)); (simp [ints]; omega); decide; rfl; rfl; intro sv))
    · refine qround_normal ?_ ⟨(k + 1, _), ⟨rfl, rfl, trivial⟩, by dsimp only; omega, by dsimp only; omega, fun w' h => ?_⟩
      · repeat (first | exact same_refl | refine same_upd rfl ?_ | refine same_junk rfl ?_)
      · rw [if_pos (hasB_iff.2 hc)] at hsucc
        simp only [hsucc, ← ints_snoc]
        exact Cl.sub (by assumption) (by repeat (first | exact List.Sublist.slnil | exact List.Sublist.refl _ | apply List.Sublist.cons_cons | exact List.sublist_append_left _ _ | exact List.sublist_append_right _ _ | apply List.Sublist.cons))
    · refine qround_normal ?_ ⟨(k + 1, so), ⟨rfl, rfl, trivial⟩, by dsimp only; omega, by dsimp only; omega, fun w' h => ?_⟩
      · repeat (first | exact same_refl | refine same_upd rfl ?_ | refine same_junk rfl ?_)
      · rw [if_neg (fun h => hc (hasB_iff.1 h))] at hsucc
        simp only [hsucc]
        exact Cl.sub (by assumption) (by repeat (first | exact List.Sublist.slnil | exact List.Sublist.refl _ | apply List.Sublist.cons_cons | exact List.sublist_append_left _ _ | exact List.sublist_append_right _ _ | apply List.Sublist.cons))
  · repeat' (first | apply pwp_seq | apply pwp_region | (apply px_run; (first | (apply opv_move; first | exact hid_int rfl | exact hid_bool rfl | rfl) | (apply opv_assign; first | rfl) | (apply opv_lss <;> rfl) | (apply opv_pick_f <;> rfl)); rfl; rfl) | apply px_nil | (apply px_skip; rfl; rfl) | apply qseq_normal | apply qseq_exit | (apply qblock_exit_same; rfl) | apply pwp_exit | apply pwp_ret | apply qround_exit | (apply pwp_cond_f; rfl) | (apply px_guard_dec; rfl; rfl; rfl; all_goals (intro hc; try (first | (exfalso; omega)))))
    obtain rfl : k = 7 := by omega
    refine qbody_ret1 (v := so) rfl rfl ⟨_, rfl, fun w' h => by rw [listS_eq ⟨hs1, hs2⟩]; exact h⟩
theorem en_i_neighbors : Entry Tryz.prog 91 := ⟨_, Tryz.func91, by kernel_rfl, rfl⟩
set_option maxHeartbeats 400000 in
theorem i_neighbors_c (size : Int) (sv : Value) (rows : List Int) (s : Int) (w : World) (hr : Arr w sv (ints rows)) (hg : IsG size rows) (hs : 0 ≤ s ∧ s < ishl 1 size) :
    Pure Tryz.prog 91 #[.agg #[.int .i64 size, sv], .int .i64 s] w (.int .i64 (nbr rows s)) := by
  refine pure_enter (args := [_, _]) en_i_neighbors Tryz.func91 rfl Tryz.ntmps91 rfl ?_
  have hin := listS_lt hg hs
  have hl7 := listS_length s
  repeat' (first | apply pwp_seq | apply pwp_region | (apply px_run; (first | (apply opv_move; first | exact hid_int rfl) | (apply opv_assign; first | exact hid_int rfl) | (apply opv_len_ints el_int; rfl; (first | exact rd_row 0 rfl))); rfl; rfl) | apply px_nil | apply qseq_normal | apply pwp_block | (apply px_box; rfl; rfl; rfl; rfl; intro bk) | (apply px_gives; rfl; rfl; rfl; rfl; rfl; exact fun w hw => i_ListOf_c _ _; rintro sl _ rfl))
  refine pwp_loop (τ := Nat) [(5,5), (7,7), (11,22)] (fun k => [(11, .int .i64 (k : Int)), (5, .int .i64 (nbrL rows ((listS s).take k)))]) (fun k => Cl [] w [.row 3 sl (ints (listS s)), .blk bk [.int .i64 size, sv]]) (fun k => k ≤ (listS s).length) (fun k => (listS s).length - k) 0
    ⟨rfl, rfl, trivial⟩ (Nat.zero_le _) (fun _ h => h) (fun J k hk => ?_)
  by_cases hlt : k < (listS s).length
  · have hmem : (listS s).getD k 0 ∈ listS s := by simp [List.getD, hlt]
    obtain ⟨hx1, hx2⟩ := hin _ hmem
    repeat' (first | apply pwp_seq | apply pwp_region | (apply px_run; (first | (apply opv_move; first | exact hid_int rfl) | (apply opv_assign; first | exact hid_int rfl) | (apply opv_lss <;> rfl) | (apply opv_or <;> rfl) | (apply opv_add_in; rfl; rfl; omega) | (apply opv_field fld_G1; rfl) | (apply opv_load_blk 1; (first | with_reducible exact sc_int | with_reducible exact sc_ints); rfl; rfl; rfl) | (apply opv_load_ints sc_int; rfl; (first | exact rd_old (by assumption) | exact rd_row 0 rfl); (first | omega)) | (apply opv_index_nat (vs := ints _) el_int; rfl; rfl; (first | exact rd_row 0 rfl); (first | (simp only [ints_length]; omega))) | (apply opv_index (vs := ints _) el_int; rfl; rfl; (first | exact rd_old (by assumption)); omega; (first | (simp only [ints_length]; omega)))); rfl; rfl) | apply px_nil | apply qseq_normal | apply pwp_block | apply qblock_normal | apply pwp_skip | (apply pwp_cond_dec; rfl; all_goals (intro hc; try (first | (exfalso; omega)))))
    refine qround_normal ?_ ⟨k + 1, ⟨rfl, ?_, trivial⟩, by omega, by omega, fun _ h => h⟩
    · repeat (first | exact same_refl | refine same_upd rfl ?_ | refine same_junk rfl ?_)
    · rw [take_snoc hlt, nbrL_snoc]; rfl
  · repeat' (first | apply pwp_seq | apply pwp_region | (apply px_run; (first | (apply opv_move; first | exact hid_int rfl) | (apply opv_assign; first | exact hid_int rfl) | (apply opv_lss <;> rfl)); rfl; rfl) | apply px_nil | apply qseq_normal | apply qseq_exit | (apply qblock_exit_same; rfl) | apply pwp_exit | apply pwp_ret | apply qround_exit | (apply pwp_cond_dec; rfl; all_goals (intro hc; try (first | (exfalso; omega)))))
    obtain rfl : k = (listS s).length := by omega
    refine qbody_ret1 (v := .int _ _) rfl rfl ⟨by rw [List.take_length]; rfl, fun _ h => h.below⟩
end Go.Proofs.YtoejpckfeflkaaaGreatDoor
