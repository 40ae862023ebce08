/- Graphs: their validity, sets, neighbours, in the program and in the reference. -/
import Derived.Test.YteopfbfcnggbbaaFacts
import Derived.Test.YteopfbfcnggbbaaPwPlain
namespace Go.Proofs.Yteopfbfcnggbbaa
open Go Go.RowKit Go.Pw

theorem en_i_within : Entry Try.prog 56 := ⟨_, Try.func56, by kernel_rfl, rfl⟩
theorem i_within_c (n a b : Int) (w : World) : Pure Try.prog 56 #[.int .i64 n, .int .i64 a, .int .i64 b] w (.bool (decide (a ≤ n ∧ n ≤ b))) := by
  refine pure_enter (args := [_, _, _]) en_i_within Try.func56 rfl Try.ntmps56 rfl ?_
  repeat' (first | apply pwp_seq | apply pwp_region | (apply px_run; (first | (apply opv_move; first | exact hid_int rfl | exact hid_bool rfl) | (apply opv_assign; first | exact hid_bool rfl) | (apply opv_leq <;> rfl) | (apply opv_pick_t <;> rfl) | (apply opv_pick_f <;> rfl)); rfl; rfl) | apply px_nil | (apply px_skip; rfl; rfl) | apply qseq_normal | apply pwp_ret | (apply px_guard_dec; rfl; rfl; rfl; all_goals (intro hc; try (first | fail))))
  · refine qbody_ret1 (v := .bool _) rfl rfl ⟨?_, fun _ h => h.below⟩
    by_cases h2 : n ≤ b
    · exact ret_true (decide_eq_true h2) ⟨hc, h2⟩
    · exact ret_false (decide_eq_false h2) fun h => h2 h.2
  · refine qbody_ret1 (v := .bool _) rfl rfl ⟨ret_false rfl fun h => hc h.1, fun _ h => h.below⟩
theorem en_s_l1In : Entry Try.prog 60 := ⟨_, Try.func60, by kernel_rfl, rfl⟩
theorem s_l1In_c (n a b : Int) (w : World) : Pure Try.prog 60 #[.int .i64 n, .int .i64 a, .int .i64 b] w (.bool (decide (a ≤ n ∧ n ≤ b))) := by
  refine pure_enter (args := [_, _, _]) en_s_l1In Try.func60 rfl Try.ntmps60 rfl ?_
  repeat' (first | apply pwp_seq | apply pwp_region | (apply px_run; (first | (apply opv_move; first | exact hid_int rfl | exact hid_bool rfl) | (apply opv_assign; first | exact hid_bool rfl) | (apply opv_leq <;> rfl) | (apply opv_geq <;> rfl) | (apply opv_pick_t <;> rfl) | (apply opv_pick_f <;> rfl)); rfl; rfl) | apply px_nil | (apply px_skip; rfl; rfl) | apply qseq_normal | apply pwp_ret | (apply px_guard_dec; rfl; rfl; rfl; all_goals (intro hc; try (first | fail))))
  · refine qbody_ret1 (v := .bool _) rfl rfl ⟨?_, fun _ h => h.below⟩
    by_cases h2 : n ≤ b
    · exact ret_true (decide_eq_true h2) ⟨by omega, h2⟩
    · exact ret_false (decide_eq_false h2) fun h => h2 h.2
  · refine qbody_ret1 (v := .bool _) rfl rfl ⟨ret_false rfl fun h => hc (by omega), fun _ h => h.below⟩
theorem en_i_has : Entry Try.prog 57 := ⟨_, Try.func57, by kernel_rfl, rfl⟩
theorem i_has_c (s v : Int) (w : World) (hv : 0 ≤ v) : Pure Try.prog 57 #[.int .i64 s, .int .i64 v] w (.bool (hasB s v)) := by
  refine pure_enter (args := [_, _]) en_i_has Try.func57 rfl Try.ntmps57 rfl ?_
  repeat' (first | apply pwp_seq | apply pwp_region | (apply px_run; (first | (apply opv_move; first | exact hid_int rfl) | (apply opv_assign; first | exact hid_bool rfl) | (apply opv_eql <;> rfl) | (apply opv_and <;> rfl) | (apply opv_shr; rfl; rfl; omega)); rfl; rfl) | apply px_nil | apply qseq_normal | apply pwp_ret)
  refine qbody_ret1 (v := .bool _) rfl rfl ⟨by rw [hasB_def], fun _ h => h.below⟩
theorem en_i_IsGraph : Entry Try.prog 31 := ⟨_, Try.func31, by kernel_rfl, rfl⟩
set_option maxHeartbeats 1000000 in
theorem i_IsGraph_c (size : Int) (sv : Value) (rows : List Int) (w : World) (hr : Arr w sv (ints rows)) :
    Pure Try.prog 31 #[.agg #[.int .i64 size, sv]] w (.bool (decide (IsG size rows))) := by
  refine pure_enter (args := [_]) en_i_IsGraph Try.func31 rfl Try.ntmps31 rfl ?_
  have hlen := hr.len
  by_cases hsz : 1 ≤ size ∧ size ≤ 7
  case neg =>
    repeat' (first | apply pwp_seq | apply pwp_region | (apply px_run; (first | (apply opv_move; first | exact hid_bool rfl) | (apply opv_assign; first | exact hid_bool rfl) | (apply opv_pick_t <;> rfl) | (apply opv_not_dec <;> rfl) | (apply opv_field fld_G0; rfl) | (apply opv_field fld_G1; rfl) | (apply opv_load_blk 0; (first | with_reducible exact sc_int | with_reducible exact sc_ints); rfl; rfl; rfl) | (apply opv_call; rfl; rfl; exact Cl.stable _ _ _; exact fun w hw => i_within_c _ _ _ _)); rfl; rfl) | apply px_nil | (apply px_skip; rfl; rfl) | apply qseq_normal | apply qseq_ret | apply pwp_ret | (apply pwp_cond_t; rfl) | (apply px_guard_ndec; rfl; rfl; rfl; all_goals (intro hc; try (first | contradiction))) | (apply px_box; rfl; rfl; rfl; rfl; intro bk))
    refine qbody_ret1 (v := .bool _) rfl rfl ⟨ret_false rfl fun h => hsz h.1, fun _ h => h.below⟩
  obtain ⟨hp, h2, h3⟩ := shl1 ⟨by omega, hsz.2⟩
  repeat' (first | apply pwp_seq | apply pwp_region | (apply px_run; (first | (apply opv_move; first | exact hid_int rfl | exact hid_bool rfl) | (apply opv_assign; first | exact hid_bool rfl) | (apply opv_neq <;> rfl) | (apply opv_pick_f <;> rfl) | (apply opv_not_dec <;> rfl) | (apply opv_field fld_G0; rfl) | (apply opv_field fld_G1; rfl) | (apply opv_load_blk 0; (first | with_reducible exact sc_int | with_reducible exact sc_ints); rfl; rfl; rfl) | (apply opv_len_ints el_int; rfl; (first | exact rd_old (by assumption))) | (apply opv_call; rfl; rfl; exact Cl.stable _ _ _; exact fun w hw => i_within_c _ _ _ _)); rfl; rfl) | apply px_nil | apply qseq_normal | apply qseq_ret | apply pwp_block | apply pwp_skip | apply pwp_ret | (apply px_guard_ndec; rfl; rfl; rfl; all_goals (intro hc; try (first | contradiction))) | (apply pwp_cond_ndec; rfl; all_goals (intro hc; try (first | fail))) | (apply px_box; rfl; rfl; rfl; rfl; intro bk))
  · refine qbody_ret1 (v := .bool _) rfl rfl ⟨ret_false rfl fun h => hc h.2.1, fun _ h => h.below⟩
  rename_i hl
  refine pwp_loop [(3,4),(23,40)] (fun k : Nat => [(23, .int .i64 (k : Int))]) (fun _ => Cl [] w [.blk bk [.int .i64 size, sv]]) (fun k => k ≤ rows.length ∧ ∀ v, v < k → okRow size rows v) (fun k => rows.length - k) 0
    ⟨rfl, trivial⟩ ⟨Nat.zero_le _, fun v hv => by omega⟩ (fun _ h => h) (fun J k hk => ?_)
  obtain ⟨hk, hok⟩ := hk
  by_cases hlt : k < rows.length
  · repeat' (first | apply pwp_seq | apply pwp_region | (apply px_run; (first | (apply opv_move; first | exact hid_int rfl | exact hid_bool rfl) | (apply opv_assign; first | exact hid_int rfl | exact hid_bool rfl) | (apply opv_lss <;> rfl) | (apply opv_pick_t <;> rfl) | (apply opv_pick_f <;> rfl) | (apply opv_not_dec <;> rfl) | (apply opv_add_in; rfl; rfl; omega) | (apply opv_sub_in; rfl; rfl; omega) | (apply opv_shl; rfl; rfl; omega) | (apply opv_field fld_G0; rfl) | (apply opv_load_blk 0; (first | with_reducible exact sc_int); rfl; rfl; rfl) | (apply opv_load_ints sc_int; rfl; (first | exact rd_old (by assumption)); (first | omega)) | (apply opv_index_nat (vs := ints _) el_int; rfl; rfl; (first | exact rd_old (by assumption)); (first | (simp only [ints_length]; omega))) | (apply opv_call; rfl; rfl; exact Cl.stable _ _ _; exact fun w hw => i_within_c _ _ _ _) | (apply opv_call; rfl; rfl; exact Cl.stable _ _ _; exact fun w hw => i_has_c _ _ _ (by omega))); rfl; rfl) | apply px_nil | (apply px_skip; rfl; rfl) | apply qseq_normal | apply qseq_ret | apply pwp_block | apply qblock_normal | apply qblock_ret | apply pwp_skip | apply pwp_ret | apply qround_ret | (apply pwp_cond_t; rfl) | (apply px_guard_ndec; rfl; rfl; rfl; all_goals (intro hc; try (first | fail))) | (apply pwp_cond_dec; rfl; all_goals (intro hc; try (first | (exfalso; omega)))) | (apply pwp_cond; rfl; all_goals (intro hc; try (first | fail))))
    · refine qbody_ret1 (v := .bool _) rfl rfl ⟨ret_false rfl fun h => hc (h.2.2.1 k hlt).1, fun _ h => h.below⟩
    · refine qbody_ret1 (v := .bool _) rfl rfl ⟨ret_false rfl fun h => ?_, fun _ h => h.below⟩
      have := (h.2.2.1 k hlt).2; rw [hc] at this; cases this
    · refine qround_normal ?_ ⟨k + 1, ⟨rfl, trivial⟩, ⟨by omega, fun v hv => ?_⟩, by omega, fun _ h => h⟩
      · repeat (first | exact same_refl | refine same_upd rfl ?_ | refine same_junk rfl ?_)
      · by_cases hvk : v < k
        · exact hok v hvk
        · obtain rfl : v = k := by omega
          exact ⟨by assumption, hc⟩
  · repeat' (first | apply pwp_seq | apply pwp_region | (apply px_run; (first | (apply opv_move; first | exact hid_int rfl) | (apply opv_lss <;> rfl) | (apply opv_field fld_G1; rfl) | (apply opv_load_blk 0; (first | with_reducible exact sc_ints); rfl; rfl; rfl) | (apply opv_len_ints el_int; rfl; (first | exact rd_old (by assumption)))); rfl; rfl) | apply px_nil | apply qseq_normal | apply qseq_exit | apply pwp_block | (apply qblock_exit_same; rfl) | apply pwp_exit | apply qround_exit | (apply pwp_cond_dec; rfl; all_goals (intro hc; try (first | (exfalso; omega)))))
    have hall : ∀ v, v < rows.length → okRow size rows v := fun v hv => hok v (by omega)
    clear hok hlt hc
    refine pwp_loop [(5,7),(44,65)] (fun k : Nat => [(44, .int .i64 (k : Int))]) (fun _ => Cl [] w [.blk bk [.int .i64 size, sv]]) (fun k => k ≤ rows.length ∧ ∀ v, v < k → ∀ u, u < v → okSym rows v u) (fun k => rows.length - k) 0
      ⟨rfl, trivial⟩ ⟨Nat.zero_le _, fun v hv => by omega⟩ (fun _ h => h) (fun J2 v hv => ?_)
    obtain ⟨hv, hsy⟩ := hv
    by_cases hlt : v < rows.length
    · repeat' (first | apply pwp_seq | apply pwp_region | (apply px_run; (first | (apply opv_move; first | exact hid_int rfl) | (apply opv_assign; first | exact hid_int rfl) | (apply opv_lss <;> rfl) | (apply opv_load_ints sc_int; rfl; (first | exact rd_old (by assumption)); (first | omega)) | (apply opv_index_nat (vs := ints _) el_int; rfl; rfl; (first | exact rd_old (by assumption)); (first | (simp only [ints_length]; omega)))); rfl; rfl) | apply px_nil | apply qseq_normal | apply pwp_block | apply pwp_skip | (apply pwp_cond_dec; rfl; all_goals (intro hc; try (first | (exfalso; omega)))))
      refine pwp_loop [(7,7),(50,64)] (fun k : Nat => [(50, .int .i64 (k : Int))]) (fun _ => Cl [] w [.blk bk [.int .i64 size, sv]]) (fun u => u ≤ v ∧ ∀ x, x < u → okSym rows v x) (fun u => v - u) 0
        ⟨rfl, trivial⟩ ⟨Nat.zero_le _, fun v hv => by omega⟩ (fun _ h => h) (fun J3 u hu => ?_)
      obtain ⟨hu, hsu⟩ := hu
      by_cases hlu : u < v
      · repeat' (first | apply pwp_seq | apply pwp_region | (apply px_run; (first | (apply opv_move; first | exact hid_int rfl) | (apply opv_assign; first | exact hid_int rfl | exact hid_bool rfl) | (apply opv_lss <;> rfl) | (apply opv_add_in; rfl; rfl; omega) | (apply opv_field fld_G1; rfl) | (apply opv_load_blk 0; (first | with_reducible exact sc_int | with_reducible exact sc_ints); rfl; rfl; rfl) | (apply opv_load_ints sc_int; rfl; (first | exact rd_old (by assumption)); (first | omega)) | (apply opv_index_nat (vs := ints _) el_int; rfl; rfl; (first | exact rd_old (by assumption)); (first | (simp only [ints_length]; omega))) | (apply opv_call; rfl; rfl; exact Cl.stable _ _ _; exact fun w hw => i_has_c _ _ _ (by omega)) | (apply opv_neq_bool ty_bool <;> rfl)); rfl; rfl) | apply px_nil | apply qseq_normal | apply qseq_ret | apply pwp_block | apply qblock_normal | apply qblock_ret | apply pwp_skip | apply pwp_ret | apply qround_ret | (apply pwp_region_draw; kernel_rfl; kernel_rfl; exact Cl.stable _ _ _) | (apply pwp_cond_dec; rfl; all_goals (intro hc; try (first | (exfalso; omega)))) | (apply pwp_cond_not; rfl; all_goals (intro hc; try (first | fail))))
        · refine qbody_ret1 (v := .bool _) rfl rfl ⟨ret_false rfl fun h => ?_, fun _ h => h.below⟩
          have := h.2.2.2 v hlt u hlu; simp [okSym] at this; simp [this] at hc
        · refine qround_normal ?_ ⟨u + 1, ⟨rfl, trivial⟩, ⟨by omega, fun x hx => ?_⟩, by omega, fun _ h => h⟩
          · repeat (first | exact same_refl | refine same_upd rfl ?_ | refine same_junk rfl ?_)
          · by_cases hvk : x < u
            · exact hsu x hvk
            · obtain rfl : x = u := by omega
              simpa [okSym] using hc
      · repeat' (first | apply pwp_seq | apply pwp_region | (apply px_run; (first | (apply opv_move; first | exact hid_int rfl) | (apply opv_lss <;> rfl) | (apply opv_add_in; rfl; rfl; omega)); rfl; rfl) | apply px_nil | apply qseq_normal | apply qseq_exit | apply qblock_normal | (apply qblock_exit_same; rfl) | apply pwp_exit | apply qround_exit | (apply pwp_cond_dec; rfl; all_goals (intro hc; try (first | (exfalso; omega)))))
        refine qround_normal ?_ ⟨v + 1, ⟨rfl, trivial⟩, ⟨by omega, fun x hx => ?_⟩, by omega, fun _ h => h⟩
        · repeat (first | exact same_refl | refine same_upd rfl ?_ | refine same_junk rfl ?_)
        · by_cases hvk : x < v
          · exact hsy x hvk
          · obtain rfl : x = v := by omega
            exact fun u hu => hsu u (by omega)
    · repeat' (first | apply pwp_seq | apply pwp_region | (apply px_run; (first | (apply opv_assign; first | exact hid_bool rfl) | (apply opv_lss <;> rfl)); rfl; rfl) | apply px_nil | apply qseq_normal | apply qseq_exit | (apply qblock_exit_same; rfl) | apply pwp_exit | apply pwp_ret | apply qround_exit | (apply pwp_cond_dec; rfl; all_goals (intro hc; try (first | (exfalso; omega)))))
      refine qbody_ret1 (v := .bool _) rfl rfl ⟨ret_true rfl ⟨hsz, by omega, hall, fun x hx => hsy x (by omega)⟩, fun _ h => h.below⟩

theorem en_s_IsGraph : Entry Try.prog 37 := ⟨_, Try.func37, by kernel_rfl, rfl⟩
set_option maxHeartbeats 1000000 in
theorem s_IsGraph_c (size : Int) (sv : Value) (rows : List Int) (w : World) (hr : Arr w sv (ints rows)) :
    Pure Try.prog 37 #[.agg #[.int .i64 size, sv]] w (.bool (decide (IsG size rows))) := by
  refine pure_enter (args := [_]) en_s_IsGraph Try.func37 rfl Try.ntmps37 rfl ?_
  have hlen := hr.len
  by_cases hsz : 1 ≤ size ∧ size ≤ 7
  case neg =>
    repeat' (first | apply pwp_seq | apply pwp_region | (apply px_run; (first | (apply opv_move; first | exact hid_bool rfl) | (apply opv_assign; first | exact hid_bool rfl) | (apply opv_pick_t <;> rfl) | (apply opv_not_dec <;> rfl) | (apply opv_field fld_G0; rfl) | (apply opv_field fld_G1; rfl) | (apply opv_load_blk 0; (first | with_reducible exact sc_int | with_reducible exact sc_ints); rfl; rfl; rfl) | (apply opv_call; rfl; rfl; exact Cl.stable _ _ _; exact fun w hw => s_l1In_c _ _ _ _)); rfl; rfl) | apply px_nil | (apply px_skip; rfl; rfl) | apply qseq_normal | apply qseq_ret | apply pwp_ret | (apply pwp_cond_t; rfl) | (apply px_guard_ndec; rfl; rfl; rfl; all_goals (intro hc; try (first | contradiction))) | (apply px_box; rfl; rfl; rfl; rfl; intro bk))
    refine qbody_ret1 (v := .bool _) rfl rfl ⟨ret_false rfl fun h => hsz h.1, fun _ h => h.below⟩
  obtain ⟨hp, h2, h3⟩ := shl1 ⟨by omega, hsz.2⟩
  repeat' (first | apply pwp_seq | apply pwp_region | (apply px_run; (first | (apply opv_move; first | exact hid_bool rfl) | (apply opv_assign; first | exact hid_int rfl | exact hid_bool rfl) | (apply opv_neq <;> rfl) | (apply opv_pick_f <;> rfl) | (apply opv_not_dec <;> rfl) | (apply opv_field fld_G0; rfl) | (apply opv_field fld_G1; rfl) | (apply opv_load_blk 0; (first | with_reducible exact sc_int | with_reducible exact sc_ints); rfl; rfl; rfl) | (apply opv_len_ints el_int; rfl; (first | exact rd_old (by assumption))) | (apply opv_call; rfl; rfl; exact Cl.stable _ _ _; exact fun w hw => s_l1In_c _ _ _ _)); rfl; rfl) | apply px_nil | apply qseq_normal | apply qseq_ret | apply pwp_block | apply pwp_skip | apply pwp_ret | (apply px_guard_ndec; rfl; rfl; rfl; all_goals (intro hc; try (first | contradiction))) | (apply pwp_cond_ndec; rfl; all_goals (intro hc; try (first | fail))) | (apply px_box; rfl; rfl; rfl; rfl; intro bk))
  · refine qbody_ret1 (v := .bool _) rfl rfl ⟨ret_false rfl fun h => hc h.2.1, fun _ h => h.below⟩
  rename_i hl
  refine pwp_loop [(2,4), (17,95)] (fun k : Nat => [(3, .int .i64 (k : Int))]) (fun _ => Cl [] w [.blk bk [.int .i64 size, sv]]) (fun k => k ≤ rows.length ∧ ∀ v, v < k → rowS size rows v) (fun k => rows.length - k) 0
    ⟨rfl, trivial⟩ ⟨Nat.zero_le _, fun v hv => by omega⟩ (fun _ h => h) (fun J k hk => ?_)
  obtain ⟨hk, hok⟩ := hk
  by_cases hlt : k < rows.length
  · have key : ∀ (h : IsG size rows), rowS size rows k := fun h => rowS_of_isG h k hlt
    repeat' (first | apply pwp_seq | apply pwp_region | (apply px_run; (first | (apply opv_move; first | exact hid_int rfl | exact hid_bool rfl) | (apply opv_assign; first | exact hid_int rfl | exact hid_bool rfl) | (apply opv_lss <;> rfl) | (apply opv_geq <;> rfl) | (apply opv_eql <;> rfl) | (apply opv_and <;> rfl) | (apply opv_pick_t <;> rfl) | (apply opv_pick_f <;> rfl) | (apply opv_shl; rfl; rfl; omega) | (apply opv_shr; rfl; rfl; omega) | (apply opv_field fld_G0; rfl) | (apply opv_field fld_G1; rfl) | (apply opv_load_blk 0; (first | with_reducible exact sc_int | with_reducible exact sc_ints); rfl; rfl; rfl) | (apply opv_load_ints sc_int; rfl; (first | exact rd_old (by assumption)); (first | omega)) | (apply opv_index_nat (vs := ints _) el_int; rfl; rfl; (first | exact rd_old (by assumption)); (first | (simp only [ints_length]; omega)))); rfl; rfl) | apply px_nil | (apply px_skip; rfl; rfl) | apply qseq_normal | apply qseq_ret | apply pwp_block | apply qblock_ret | apply pwp_skip | apply pwp_ret | apply qround_ret | (apply pwp_cond_t; rfl) | (apply pwp_region_mix; kernel_rfl; decide +kernel; exact Cl.stable _ _ _) | (apply px_guard_dec; rfl; rfl; rfl; all_goals (intro hc; try (first | fail))) | (apply pwp_cond_dec; rfl; all_goals (intro hc; try (first | (exfalso; omega)))))
    · refine qbody_ret1 (v := .bool _) rfl rfl ⟨ret_false rfl fun h => ?_, fun _ h => h.below⟩
      have := (key h).1; omega
    · refine qbody_ret1 (v := .bool _) rfl rfl ⟨ret_false rfl fun h => ?_, fun _ h => h.below⟩
      have := (key h).1; omega
    · refine qbody_ret1 (v := .bool _) rfl rfl ⟨ret_false rfl fun h => ?_, fun _ h => h.below⟩
      have := (key h).2.1; rw [hasB_iff.2 hc] at this; cases this
    have hself : hasB (rows.getD k 0) k = false := by rw [hasB_iff0]; have := iand_one (ishr (rows.getD k 0) k); omega
    refine pwp_loop [(2,2), (4,4), (51,95)] (fun u : Nat => [(4, .int .i64 (u : Int))]) (fun _ => Cl [] w [.blk bk [.int .i64 size, sv]])
      (fun u => u ≤ rows.length ∧ ∀ x, x < u → hasB (rows.getD k 0) x = true → (0 ≤ rows.getD x 0 ∧ rows.getD x 0 < ishl 1 size) ∧ hasB (rows.getD x 0) k = true) (fun u => rows.length - u) 0
      ⟨rfl, trivial⟩ ⟨Nat.zero_le _, fun v hv => by omega⟩ (fun _ h => h) (fun J2 u hu => ?_)
    obtain ⟨hu, hsu⟩ := hu
    by_cases hlu : u < rows.length
    · have kk : hasB (rows.getD k 0) u = true → IsG size rows → (0 ≤ rows.getD u 0 ∧ rows.getD u 0 < ishl 1 size) ∧ hasB (rows.getD u 0) k = true := fun hb h => (key h).2.2 u hlu hb
      repeat' (first | apply pwp_seq | apply pwp_region | (apply px_run; (first | (apply opv_move; first | exact hid_int rfl | exact hid_bool rfl | rfl) | (apply opv_assign; first | exact hid_int rfl | exact hid_bool rfl) | (apply opv_lss <;> rfl) | (apply opv_geq <;> rfl) | (apply opv_eql <;> rfl) | (apply opv_and <;> rfl) | (apply opv_pick_t <;> rfl) | (apply opv_pick_f <;> rfl) | (apply opv_add_in; rfl; rfl; omega) | (apply opv_shl; rfl; rfl; omega) | (apply opv_shr; rfl; rfl; omega) | (apply opv_field fld_G0; rfl) | (apply opv_field fld_G1; rfl) | (apply opv_load_blk 0; (first | with_reducible exact sc_int | with_reducible exact sc_ints); rfl; rfl; rfl) | (apply opv_load_ints sc_int; rfl; (first | exact rd_old (by assumption)); (first | omega)) | (apply opv_index_nat (vs := ints _) el_int; rfl; rfl; (first | exact rd_old (by assumption)); (first | (simp only [ints_length]; omega)))); rfl; rfl) | apply px_nil | (apply px_skip; rfl; rfl) | apply qseq_normal | apply qseq_ret | apply pwp_block | apply qblock_normal | apply qblock_ret | apply pwp_skip | apply pwp_ret | apply qround_ret | (apply pwp_cond_t; rfl) | (apply pwp_cond_f; rfl) | (apply pwp_region_mix; kernel_rfl; decide +kernel; exact Cl.stable _ _ _) | (apply px_guard_dec; rfl; rfl; rfl; all_goals (intro hc; try (first | fail))) | (apply pwp_cond_dec; rfl; all_goals (intro hc; try (first | (exfalso; omega)))))
      · refine qbody_ret1 (v := .bool _) rfl rfl ⟨ret_false rfl fun h => ?_, fun _ h => h.below⟩
        have := (kk (hasB_iff.2 (by assumption)) h).1; omega
      · refine qbody_ret1 (v := .bool _) rfl rfl ⟨ret_false rfl fun h => ?_, fun _ h => h.below⟩
        have := (kk (hasB_iff.2 (by assumption)) h).1; omega
      · refine qbody_ret1 (v := .bool _) rfl rfl ⟨ret_false rfl fun h => ?_, fun _ h => h.below⟩
        have := (kk (hasB_iff.2 (by assumption)) h).2; rw [hasB_iff0.2 hc] at this; cases this
      · refine qround_normal ?_ ⟨u + 1, ⟨rfl, trivial⟩, ⟨by omega, fun x hx => ?_⟩, by omega, fun _ h => h⟩
        · repeat (first | exact same_refl | refine same_upd rfl ?_ | refine same_junk rfl ?_)
        · by_cases hvk : x < u
          · exact hsu x hvk
          · obtain rfl : x = u := by omega
            exact fun _ => ⟨by omega, by rw [hasB_iff]; have := iand_one (ishr (rows.getD x 0) k); omega⟩
      · refine qround_normal ?_ ⟨u + 1, ⟨rfl, trivial⟩, ⟨by omega, fun x hx => ?_⟩, by omega, fun _ h => h⟩
        · repeat (first | exact same_refl | refine same_upd rfl ?_ | refine same_junk rfl ?_)
        · by_cases hvk : x < u
          · exact hsu x hvk
          · obtain rfl : x = u := by omega
            exact fun hb => (hc (hasB_iff.1 hb)).elim
    · repeat' (first | apply pwp_seq | apply pwp_region | (apply px_run; (first | (apply opv_move; first | exact hid_int rfl) | (apply opv_assign; first | exact hid_int rfl) | (apply opv_lss <;> rfl) | (apply opv_add_in; rfl; rfl; omega) | (apply opv_field fld_G0; rfl) | (apply opv_load_blk 0; (first | with_reducible exact sc_int); rfl; rfl; rfl)); rfl; rfl) | apply px_nil | apply qseq_normal | apply qseq_exit | apply qblock_normal | (apply qblock_exit_same; rfl) | apply pwp_exit | apply qround_exit | (apply pwp_cond_dec; rfl; all_goals (intro hc; try (first | (exfalso; omega)))))
      refine qround_normal ?_ ⟨k + 1, ⟨rfl, trivial⟩, ⟨by omega, fun x hx => ?_⟩, by omega, fun _ h => h⟩
      · repeat (first | exact same_refl | refine same_upd rfl ?_ | refine same_junk rfl ?_)
      · by_cases hvk : x < k
        · exact hok x hvk
        · obtain rfl : x = k := by omega
          exact ⟨by omega, hself, fun y hy => hsu y (by omega)⟩
  · repeat' (first | apply pwp_seq | apply pwp_region | (apply px_run; (first | (apply opv_move; first | exact hid_int rfl) | (apply opv_assign; first | exact hid_bool rfl) | (apply opv_lss <;> rfl) | (apply opv_field fld_G0; rfl) | (apply opv_load_blk 0; (first | with_reducible exact sc_int); rfl; rfl; rfl)); rfl; rfl) | apply px_nil | apply qseq_normal | apply qseq_exit | (apply qblock_exit_same; rfl) | apply pwp_exit | apply pwp_ret | apply qround_exit | (apply pwp_cond_dec; rfl; all_goals (intro hc; try (first | (exfalso; omega)))))
    refine qbody_ret1 (v := .bool _) rfl rfl ⟨ret_true rfl (isG_of_rowS hsz (by omega) fun v hv => hok v (by omega)), fun _ h => h.below⟩
end Go.Proofs.Yteopfbfcnggbbaa
