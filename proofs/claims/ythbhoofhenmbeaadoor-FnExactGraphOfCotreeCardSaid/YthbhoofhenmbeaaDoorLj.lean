/- Lists whose pairs are joined as told: holes, paths, two edges. -/
import Derived.Test.YthbhoofhenmbeaaDoorLd
namespace Go.Proofs.YthbhoofhenmbeaaDoor
open Go Go.RowKit Go.Pw

theorem en_i_areJoined : Entry Tryd.prog 89 := ⟨_, Tryd.func89, by kernel_rfl, rfl⟩
set_option maxHeartbeats 800000 in
theorem i_areJoined_c (size : Int) (gv lv : Value) (rows l : List Int) (f : FuncId) (cs : List Value) (K : Nat → Nat → Bool) (w : World) (hr : Arr w gv (ints rows)) (hv : Arr w lv (ints l))
    (hp : ∀ (i k : Nat) w', i < k → k < l.length → Below w.heap.size w w' → Pure Tryd.prog f ([Value.int .i64 i, Value.int .i64 k] ++ cs).toArray w' (.bool (K i k))) :
    Pure Tryd.prog 89 #[.agg #[.int .i64 size, gv], lv, .func (.func f) #[] cs.toArray] w (.bool (decide (joinP size rows l K))) := by
  refine pure_enter (args := [_, _, _]) en_i_areJoined Tryd.func89 rfl Tryd.ntmps89 rfl ?_
  have hl := hv.len
  repeat' (first | apply pwp_seq | apply pwp_region | (apply px_run; (first | (apply opv_move; first | exact hid_int rfl | rfl) | (apply opv_assign; first | exact hid_bool rfl) | (apply opv_not_dec <;> rfl) | (apply opv_len_ints el_int; rfl; (first | exact rd_old (by assumption))) | (apply opv_load_str 0 st_G; rfl; rfl; rfl) | (apply opv_call; rfl; rfl; exact Cl.stable _ _ _; exact fun w hw => i_areVertices_c _ _ _ rows l _ (by first | exact hw.arr (by assumption)) (by first | exact hw.arr (by assumption)))); rfl; rfl) | apply px_nil | apply qseq_normal | apply qseq_ret | apply pwp_block | apply pwp_skip | apply pwp_ret | (apply pwp_cond_ndec; rfl; all_goals (intro hc; try (first | fail))) | (apply px_box; rfl; rfl; rfl; rfl; intro bk))
  all_goals try (refine qbody_ret1 (v := .bool _) rfl rfl ⟨ret_false rfl fun h => hc h.1, fun _ h => h.below⟩)
  have hd : distinctP size rows l := hc
  refine pwp_loop (τ := Nat) [(6,8), (15,41)] (fun k => [(15, .int .i64 (k : Int))]) (fun _ => Cl [] w [.blk bk [.int .i64 size, gv]]) (fun k => k ≤ l.length ∧ ∀ j, j < k → ∀ i, i < j → joinQ rows l K j i) (fun k => l.length - k) 0
    ⟨rfl, trivial⟩ ⟨Nat.zero_le _, fun v hv => by omega⟩ (fun _ h => h) (fun J k hk => ?_)
  obtain ⟨hk, hok⟩ := hk
  by_cases hlt : k < l.length
  · obtain ⟨ha1, ha2⟩ := distinct_at hd hlt
    repeat' (first | apply pwp_seq | apply pwp_region | (apply px_run; (first | (apply opv_move; first | exact hid_int rfl) | (apply opv_assign; first | exact hid_int rfl) | (apply opv_lss <;> rfl)); rfl; rfl) | apply px_nil | apply qseq_normal | apply pwp_block | apply pwp_skip | (apply pwp_cond_dec; rfl; all_goals (intro hc; try (first | (exfalso; omega)))))
    refine pwp_loop (τ := Nat) [(6,6), (8,8), (19,40)] (fun i => [(19, .int .i64 (i : Int))]) (fun _ => Cl [] w [.blk bk [.int .i64 size, gv]]) (fun i => i ≤ k ∧ ∀ j, j < i → joinQ rows l K k j) (fun i => k - i) 0
      ⟨rfl, trivial⟩ ⟨Nat.zero_le _, fun v hv => by omega⟩ (fun _ h => h) (fun J2 i hi => ?_)
    obtain ⟨hi, hsi⟩ := hi
    by_cases hli : i < k
    · obtain ⟨hb1, hb2⟩ := distinct_at hd (i := i) (by omega)
      repeat' (first | apply pwp_seq | apply pwp_region | (apply px_run; (first | (apply opv_move; first | exact hid_int rfl | rfl) | (apply opv_assign; first | exact hid_int rfl | exact hid_bool rfl) | (apply opv_lss <;> rfl) | (apply opv_add_in; rfl; rfl; omega) | (apply opv_field fld_G1; rfl) | (apply opv_load_blk 0; (first | with_reducible exact sc_int | with_reducible exact sc_ints); rfl; rfl; rfl) | (apply opv_load_ints sc_int; rfl; (first | exact rd_old (by assumption)); (first | omega)) | (apply opv_index_nat (vs := ints _) el_int; rfl; rfl; (first | exact rd_old (by assumption)); (first | (simp only [ints_length]; omega))) | (apply opv_index (vs := ints _) el_int; rfl; rfl; (first | exact rd_old (by assumption)); omega; (first | (simp only [ints_length]; omega))) | (apply opv_callx; rfl; rfl; exact Cl.stable _ _ _; exact fun w hw => hp i k w hli hlt hw.below) | (apply opv_call; rfl; rfl; exact Cl.stable _ _ _; exact fun w hw => i_has_c _ _ _ (by omega)) | (apply opv_neq_bool ty_bool <;> rfl)); rfl; rfl) | apply px_nil | apply qseq_normal | apply qseq_ret | apply pwp_block | apply qblock_normal | apply qblock_ret | apply pwp_skip | apply pwp_ret | apply qround_ret | (apply pwp_region_mix; kernel_rfl; decide +kernel; exact Cl.stable _ _ _) | (apply pwp_cond_dec; rfl; all_goals (intro hc; try (first | (exfalso; omega)))) | (apply pwp_cond_not; rfl; all_goals (intro hc; try (first | fail))))
      · refine qbody_ret1 (v := .bool _) rfl rfl ⟨ret_false rfl fun h => ?_, fun _ h => h.below⟩
        have := h.2 k hlt i hli
        unfold joinQ at this
        rw [this] at hc
        simp at hc
      · refine qround_normal ?_ ⟨i + 1, ⟨rfl, trivial⟩, ⟨by omega, fun x hx => ?_⟩, by omega, fun _ h => h⟩
        · repeat (first | exact same_refl | refine same_upd rfl ?_ | refine same_junk rfl ?_)
        · by_cases hvk : x < i
          · exact hsi x hvk
          · obtain rfl : x = i := by omega
            unfold joinQ
            simpa using hc
    · repeat' (first | apply pwp_seq | apply pwp_region | (apply px_run; (first | (apply opv_move; first | exact hid_int rfl) | (apply opv_lss <;> rfl) | (apply opv_add_in; rfl; rfl; omega)); rfl; rfl) | apply px_nil | apply qseq_normal | apply qseq_exit | apply qblock_normal | (apply qblock_exit_same; rfl) | apply pwp_exit | apply qround_exit | (apply pwp_cond_dec; rfl; all_goals (intro hc; try (first | (exfalso; omega)))))
      refine qround_normal ?_ ⟨k + 1, ⟨rfl, trivial⟩, ⟨by omega, fun x hx => ?_⟩, by omega, fun _ h => h⟩
      · repeat (first | exact same_refl | refine same_upd rfl ?_ | refine same_junk rfl ?_)
      · by_cases hvk : x < k
        · exact hok x hvk
        · obtain rfl : x = k := by omega
          exact fun y hy => hsi y (by omega)
  · repeat' (first | apply pwp_seq | apply pwp_region | (apply px_run; (first | (apply opv_assign; first | exact hid_bool rfl) | (apply opv_lss <;> rfl)); rfl; rfl) | apply px_nil | apply qseq_normal | apply qseq_exit | (apply qblock_exit_same; rfl) | apply pwp_exit | apply pwp_ret | apply qround_exit | (apply pwp_cond_dec; rfl; all_goals (intro hc; try (first | (exfalso; omega)))))
    refine qbody_ret1 (v := .bool _) rfl rfl ⟨ret_true rfl ⟨hd, fun v hv => hok v (by omega)⟩, fun _ h => h.below⟩
theorem en_s_IsHole : Entry Tryd.prog 85 := ⟨_, Tryd.func85, by kernel_rfl, rfl⟩
set_option maxHeartbeats 800000 in
theorem s_IsHole_c (size : Int) (gv lv : Value) (rows l : List Int) (w : World) (hr : Arr w gv (ints rows)) (hv : Arr w lv (ints l)) :
    Pure Tryd.prog 85 #[.agg #[.int .i64 size, gv], lv] w (.bool (decide (holeP size rows l))) := by
  refine pure_enter (args := [_, _]) en_s_IsHole Tryd.func85 rfl Tryd.ntmps85 rfl ?_
  have hl := hv.len
  repeat' (first | apply pwp_seq | apply pwp_region | (apply px_run; (first | (apply opv_move; first | exact hid_bool rfl | rfl) | (apply opv_assign; first | exact hid_int rfl | exact hid_bool rfl) | (apply opv_lss <;> rfl) | (apply opv_pick_t <;> rfl) | (apply opv_pick_f <;> rfl) | (apply opv_not_dec <;> rfl) | (apply opv_len_ints el_int; rfl; (first | exact rd_old (by assumption))) | (apply opv_load_str 0 st_G; rfl; rfl; rfl) | (apply opv_call; rfl; rfl; exact Cl.stable _ _ _; exact fun w hw => s_l4Distinct_c _ _ _ rows l _ (by first | exact hw.arr (by assumption)) (by first | exact hw.arr (by assumption)))); rfl; rfl) | apply px_nil | (apply px_skip; rfl; rfl) | apply qseq_normal | apply qseq_ret | apply pwp_block | apply pwp_skip | apply pwp_ret | (apply pwp_cond_t; rfl) | (apply px_guard_ndec; rfl; rfl; rfl; all_goals (intro hc; try (first | fail))) | (apply pwp_cond_dec; rfl; all_goals (intro hc; try (first | fail))) | (apply px_box; rfl; rfl; rfl; rfl; intro bk))
  all_goals try (refine qbody_ret1 (v := .bool _) rfl rfl ⟨ret_false rfl fun h => hc h.2.1, fun _ h => h.below⟩)
  all_goals try (refine qbody_ret1 (v := .bool _) rfl rfl ⟨ret_false rfl fun h => ?_, fun _ h => h.below⟩; have q := h.1; omega)
  have hd : distinctP size rows l := by assumption
  refine pwp_loop (τ := Nat) [(4,6), (16,52)] (fun k => [(5, .int .i64 (k : Int))]) (fun _ => Cl [] w [.blk bk [.int .i64 size, gv]]) (fun k => k ≤ l.length ∧ ∀ j, j < k → ∀ i, i < j → joinQ rows l (holeJ l.length) j i) (fun k => l.length - k) 0
    ⟨rfl, trivial⟩ ⟨Nat.zero_le _, fun v hv => by omega⟩ (fun _ h => h) (fun J k hk => ?_)
  obtain ⟨hk, hok⟩ := hk
  by_cases hlt : k < l.length
  · obtain ⟨ha1, ha2⟩ := distinct_at hd hlt
    repeat' (first | apply pwp_seq | apply pwp_region | (apply px_run; (first | (apply opv_move; first | exact hid_int rfl | rfl) | (apply opv_assign; first | exact hid_int rfl) | (apply opv_lss <;> rfl) | (apply opv_len_ints el_int; rfl; (first | exact rd_old (by assumption)))); rfl; rfl) | apply px_nil | apply qseq_normal | apply pwp_block | apply pwp_skip | (apply pwp_cond_dec; rfl; all_goals (intro hc; try (first | (exfalso; omega)))))
    refine pwp_loop (τ := Nat) [(4,4), (6,6), (22,52)] (fun i => [(6, .int .i64 (i : Int))]) (fun _ => Cl [] w [.blk bk [.int .i64 size, gv]]) (fun i => i ≤ k ∧ ∀ j, j < i → joinQ rows l (holeJ l.length) k j) (fun i => k - i) 0
      ⟨rfl, trivial⟩ ⟨Nat.zero_le _, fun v hv => by omega⟩ (fun _ h => h) (fun J2 i hi => ?_)
    obtain ⟨hi, hsi⟩ := hi
    by_cases hli : i < k
    · obtain ⟨hb1, hb2⟩ := distinct_at hd (i := i) (by omega)
      have he := edge_l hd (i := i) (k := k) (by omega) hlt
      have hq : joinQ rows l (holeJ l.length) k i ↔ hasB (rows.getD (l.getD k 0).toNat 0) (l.getD i 0) = decide (k = i + 1 ∨ (i = 0 ∧ k + 1 = l.length)) := by unfold joinQ holeJ; rw [he]
      repeat' (first | apply pwp_seq | apply pwp_region | (apply px_run; (first | (apply opv_move; first | exact hid_int rfl | exact hid_bool rfl | rfl) | (apply opv_assign; first | exact hid_int rfl | exact hid_bool rfl) | (apply opv_lss <;> rfl) | (apply opv_eql <;> rfl) | (apply opv_pick_t <;> rfl) | (apply opv_pick_f <;> rfl) | (apply opv_add_in; rfl; rfl; omega) | (apply opv_sub_in; rfl; rfl; omega) | (apply opv_load_ints sc_int; rfl; (first | exact rd_old (by assumption)); (first | omega)) | (apply opv_index_nat (vs := ints _) el_int; rfl; rfl; (first | exact rd_old (by assumption)); (first | (simp only [ints_length]; omega))) | (apply opv_len_ints el_int; rfl; (first | exact rd_old (by assumption))) | (apply opv_load_str 0 st_G; rfl; rfl; rfl) | (apply opv_call; rfl; rfl; exact Cl.stable _ _ _; exact fun w hw => s_l2Edge_c _ _ rows _ _ _ (by first | exact hw.arr (by assumption)) (by omega) (by omega)) | (apply opv_neq_bool ty_bool <;> rfl)); rfl; rfl) | apply px_nil | (apply px_skip; rfl; rfl) | apply qseq_normal | apply qseq_ret | apply pwp_block | apply qblock_normal | apply qblock_ret | apply pwp_skip | apply pwp_ret | apply qround_ret | (apply pwp_region_draw; kernel_rfl; kernel_rfl; exact Cl.stable _ _ _) | (apply px_guard_dec; rfl; rfl; rfl; all_goals (intro hc; try (first | fail))) | (apply pwp_cond_dec; rfl; all_goals (intro hc; try (first | (exfalso; omega)))) | (apply pwp_cond_not; rfl; all_goals (intro hc; try (first | fail))))
      all_goals first
        | (refine qbody_ret1 (v := .bool _) rfl rfl ⟨ret_false rfl fun h => ?_, fun _ h => h.below⟩
           have := hq.1 (h.2.2 k hlt i hli)
           rw [this] at hc
           first | (simp at hc; done) | (simp at hc; omega) | (simp only [beq_eq_false_iff_ne, bne_iff_ne, ne_eq, decide_eq_decide] at hc; omega))
        | (refine qround_normal ?_ ⟨i + 1, ⟨rfl, trivial⟩, ⟨by omega, fun x hx => ?_⟩, by omega, fun _ h => h⟩
           · repeat (first | exact same_refl | refine same_upd rfl ?_ | refine same_junk rfl ?_)
           · by_cases hvk : x < i
             · exact hsi x hvk
             · obtain rfl : x = i := by omega
               first | rw [hq, bne_eq_false_iff_eq.1 hc] | rw [hq, eq_of_beq hc]
               first | (symm; exact decide_eq_true (by omega)) | (symm; exact decide_eq_false (by omega)) | exact decide_eq_decide.2 (by omega))
    · repeat' (first | apply pwp_seq | apply pwp_region | (apply px_run; (first | (apply opv_move; first | exact hid_int rfl) | (apply opv_assign; first | exact hid_int rfl) | (apply opv_lss <;> rfl) | (apply opv_add_in; rfl; rfl; omega)); rfl; rfl) | apply px_nil | apply qseq_normal | apply qseq_exit | apply qblock_normal | (apply qblock_exit_same; rfl) | apply pwp_exit | apply qround_exit | (apply pwp_cond_dec; rfl; all_goals (intro hc; try (first | (exfalso; omega)))))
      refine qround_normal ?_ ⟨k + 1, ⟨rfl, trivial⟩, ⟨by omega, fun x hx => ?_⟩, by omega, fun _ h => h⟩
      · repeat (first | exact same_refl | refine same_upd rfl ?_ | refine same_junk rfl ?_)
      · by_cases hvk : x < k
        · exact hok x hvk
        · obtain rfl : x = k := by omega
          exact fun y hy => hsi y (by omega)
  · repeat' (first | apply pwp_seq | apply pwp_region | (apply px_run; (first | (apply opv_move; first | exact hid_int rfl | rfl) | (apply opv_assign; first | exact hid_bool rfl) | (apply opv_lss <;> rfl) | (apply opv_len_ints el_int; rfl; (first | exact rd_old (by assumption)))); rfl; rfl) | apply px_nil | apply qseq_normal | apply qseq_exit | (apply qblock_exit_same; rfl) | apply pwp_exit | apply pwp_ret | apply qround_exit | (apply pwp_cond_dec; rfl; all_goals (intro hc; try (first | (exfalso; omega)))))
    refine qbody_ret1 (v := .bool _) rfl rfl ⟨ret_true rfl ⟨by omega, hd, fun v hv => hok v (by omega)⟩, fun _ h => h.below⟩
theorem en_i_IsInducedPath_1 : Entry Tryd.prog 90 := ⟨_, Tryd.func90, by kernel_rfl, rfl⟩
theorem i_IsInducedPath_1_c (i k : Nat) (w : World) (hi : (i : Int) ≤ 9223372036854775806) : Pure Tryd.prog 90 #[.int .i64 i, .int .i64 k] w (.bool (pathJ i k)) := by
  refine pure_enter (args := [_, _]) en_i_IsInducedPath_1 Tryd.func90 rfl Tryd.ntmps90 rfl ?_
  unfold pathJ
  repeat' (first | apply pwp_seq | apply pwp_region | (apply px_run; (first | (apply opv_move; first | exact hid_int rfl) | (apply opv_assign; first | exact hid_bool rfl) | (apply opv_eql <;> rfl) | (apply opv_add_in; rfl; rfl; omega)); rfl; rfl) | apply px_nil | apply qseq_normal | apply pwp_ret)
  all_goals (refine qbody_ret1 (v := .bool _) rfl rfl ⟨by first | exact ret_true rfl (by omega) | exact ret_false rfl (by omega) | exact ret_iff (by omega), fun _ h => h.below⟩)
theorem en_i_IsInducedPath : Entry Tryd.prog 81 := ⟨_, Tryd.func81, by kernel_rfl, rfl⟩
theorem i_IsInducedPath_c (size : Int) (gv lv : Value) (rows l : List Int) (w : World) (hr : Arr w gv (ints rows)) (hv : Arr w lv (ints l)) :
    Pure Tryd.prog 81 #[.agg #[.int .i64 size, gv], lv] w (.bool (decide (pathP size rows l))) := by
  refine pure_enter (args := [_, _]) en_i_IsInducedPath Tryd.func81 rfl Tryd.ntmps81 rfl ?_
  have hl := hv.len
  repeat' (first | apply pwp_seq | apply pwp_region | (apply px_run; (first | (apply opv_move; first | exact hid_bool rfl | rfl) | (apply opv_assign; first | exact hid_bool rfl) | (apply opv_gtr <;> rfl) | (apply opv_pick_t <;> rfl) | (apply opv_pick_f <;> rfl) | (apply opv_len_ints el_int; rfl; (first | exact rd_old (by assumption))) | (apply opv_load_str 0 st_G; rfl; rfl; rfl) | (apply opv_call; rfl; rfl; exact Cl.stable _ _ _; exact fun w hw => i_areJoined_c _ _ _ rows l 90 [] pathJ _ (by first | exact hw.arr (by assumption)) (by first | exact hw.arr (by assumption)) (fun i k w' h1 h2 h3 => i_IsInducedPath_1_c i k w' (by omega)))); rfl; rfl) | apply px_nil | (apply px_skip; rfl; rfl) | apply qseq_normal | apply pwp_ret | (apply px_guard_dec; rfl; rfl; rfl; all_goals (intro hc; try (first | fail))) | (apply px_box; rfl; rfl; rfl; rfl; intro bk))
  · refine qbody_ret1 (v := .bool (decide _)) rfl rfl ⟨ret_iff ⟨fun h => ⟨by omega, h⟩, fun h => h.2⟩, fun _ h => h.below⟩
  · refine qbody_ret1 (v := .bool _) rfl rfl ⟨ret_false rfl fun h => hc (by have := h.1; omega), fun _ h => h.below⟩
theorem en_s_IsInducedPath : Entry Tryd.prog 86 := ⟨_, Tryd.func86, by kernel_rfl, rfl⟩
set_option maxHeartbeats 800000 in
theorem s_IsInducedPath_c (size : Int) (gv lv : Value) (rows l : List Int) (w : World) (hr : Arr w gv (ints rows)) (hv : Arr w lv (ints l)) :
    Pure Tryd.prog 86 #[.agg #[.int .i64 size, gv], lv] w (.bool (decide (pathP size rows l))) := by
  refine pure_enter (args := [_, _]) en_s_IsInducedPath Tryd.func86 rfl Tryd.ntmps86 rfl ?_
  have hl := hv.len
  repeat' (first | apply pwp_seq | apply pwp_region | (apply px_run; (first | (apply opv_move; first | exact hid_bool rfl | rfl) | (apply opv_assign; first | exact hid_int rfl | exact hid_bool rfl) | (apply opv_eql <;> rfl) | (apply opv_pick_t <;> rfl) | (apply opv_pick_f <;> rfl) | (apply opv_not_dec <;> rfl) | (apply opv_len_ints el_int; rfl; (first | exact rd_old (by assumption))) | (apply opv_load_str 0 st_G; rfl; rfl; rfl) | (apply opv_call; rfl; rfl; exact Cl.stable _ _ _; exact fun w hw => s_l4Distinct_c _ _ _ rows l _ (by first | exact hw.arr (by assumption)) (by first | exact hw.arr (by assumption)))); rfl; rfl) | apply px_nil | (apply px_skip; rfl; rfl) | apply qseq_normal | apply qseq_ret | apply pwp_block | apply pwp_skip | apply pwp_ret | (apply pwp_cond_t; rfl) | (apply px_guard_ndec; rfl; rfl; rfl; all_goals (intro hc; try (first | fail))) | (apply pwp_cond_dec; rfl; all_goals (intro hc; try (first | fail))) | (apply px_box; rfl; rfl; rfl; rfl; intro bk))
  all_goals try (refine qbody_ret1 (v := .bool _) rfl rfl ⟨ret_false rfl fun h => hc h.2.1, fun _ h => h.below⟩)
  all_goals try (refine qbody_ret1 (v := .bool _) rfl rfl ⟨ret_false rfl fun h => ?_, fun _ h => h.below⟩; have q := h.1; omega)
  have hd : distinctP size rows l := by assumption
  refine pwp_loop (τ := Nat) [(4,6), (16,41)] (fun k => [(5, .int .i64 (k : Int))]) (fun _ => Cl [] w [.blk bk [.int .i64 size, gv]]) (fun k => k ≤ l.length ∧ ∀ j, j < k → ∀ i, i < j → joinQ rows l pathJ j i) (fun k => l.length - k) 0
    ⟨rfl, trivial⟩ ⟨Nat.zero_le _, fun v hv => by omega⟩ (fun _ h => h) (fun J k hk => ?_)
  obtain ⟨hk, hok⟩ := hk
  by_cases hlt : k < l.length
  · obtain ⟨ha1, ha2⟩ := distinct_at hd hlt
    repeat' (first | apply pwp_seq | apply pwp_region | (apply px_run; (first | (apply opv_move; first | exact hid_int rfl | rfl) | (apply opv_assign; first | exact hid_int rfl) | (apply opv_lss <;> rfl) | (apply opv_len_ints el_int; rfl; (first | exact rd_old (by assumption)))); rfl; rfl) | apply px_nil | apply qseq_normal | apply pwp_block | apply pwp_skip | (apply pwp_cond_dec; rfl; all_goals (intro hc; try (first | (exfalso; omega)))))
    refine pwp_loop (τ := Nat) [(4,4), (6,6), (22,41)] (fun i => [(6, .int .i64 (i : Int))]) (fun _ => Cl [] w [.blk bk [.int .i64 size, gv]]) (fun i => i ≤ k ∧ ∀ j, j < i → joinQ rows l pathJ k j) (fun i => k - i) 0
      ⟨rfl, trivial⟩ ⟨Nat.zero_le _, fun v hv => by omega⟩ (fun _ h => h) (fun J2 i hi => ?_)
    obtain ⟨hi, hsi⟩ := hi
    by_cases hli : i < k
    · obtain ⟨hb1, hb2⟩ := distinct_at hd (i := i) (by omega)
      have he := edge_l hd (i := i) (k := k) (by omega) hlt
      have hq : joinQ rows l pathJ k i ↔ hasB (rows.getD (l.getD k 0).toNat 0) (l.getD i 0) = decide (k = i + 1) := by unfold joinQ pathJ; rw [he]
      repeat' (first | apply pwp_seq | apply pwp_region | (apply px_run; (first | (apply opv_move; first | exact hid_int rfl | rfl) | (apply opv_assign; first | exact hid_int rfl | exact hid_bool rfl) | (apply opv_lss <;> rfl) | (apply opv_eql <;> rfl) | (apply opv_add_in; rfl; rfl; omega) | (apply opv_sub_in; rfl; rfl; omega) | (apply opv_load_ints sc_int; rfl; (first | exact rd_old (by assumption)); (first | omega)) | (apply opv_index_nat (vs := ints _) el_int; rfl; rfl; (first | exact rd_old (by assumption)); (first | (simp only [ints_length]; omega))) | (apply opv_load_str 0 st_G; rfl; rfl; rfl) | (apply opv_call; rfl; rfl; exact Cl.stable _ _ _; exact fun w hw => s_l2Edge_c _ _ rows _ _ _ (by first | exact hw.arr (by assumption)) (by omega) (by omega)) | (apply opv_neq_bool ty_bool <;> rfl)); rfl; rfl) | apply px_nil | apply qseq_normal | apply qseq_ret | apply pwp_block | apply qblock_normal | apply qblock_ret | apply pwp_skip | apply pwp_ret | apply qround_ret | (apply pwp_region_draw; kernel_rfl; kernel_rfl; exact Cl.stable _ _ _) | (apply pwp_cond_dec; rfl; all_goals (intro hc; try (first | (exfalso; omega)))) | (apply pwp_cond_not; rfl; all_goals (intro hc; try (first | fail))))
      · refine qbody_ret1 (v := .bool _) rfl rfl ⟨ret_false rfl fun h => ?_, fun _ h => h.below⟩
        have := hq.1 (h.2.2 k hlt i hli)
        rw [this] at hc
        simp only [beq_eq_false_iff_ne, bne_iff_ne, ne_eq, decide_eq_decide] at hc; omega
      · refine qround_normal ?_ ⟨i + 1, ⟨rfl, trivial⟩, ⟨by omega, fun x hx => ?_⟩, by omega, fun _ h => h⟩
        · repeat (first | exact same_refl | refine same_upd rfl ?_ | refine same_junk rfl ?_)
        · by_cases hvk : x < i
          · exact hsi x hvk
          · obtain rfl : x = i := by omega
            first | rw [hq, bne_eq_false_iff_eq.1 hc] | rw [hq, eq_of_beq hc]
            exact decide_eq_decide.2 (by omega)
    · repeat' (first | apply pwp_seq | apply pwp_region | (apply px_run; (first | (apply opv_move; first | exact hid_int rfl) | (apply opv_assign; first | exact hid_int rfl) | (apply opv_lss <;> rfl) | (apply opv_add_in; rfl; rfl; omega)); rfl; rfl) | apply px_nil | apply qseq_normal | apply qseq_exit | apply qblock_normal | (apply qblock_exit_same; rfl) | apply pwp_exit | apply qround_exit | (apply pwp_cond_dec; rfl; all_goals (intro hc; try (first | (exfalso; omega)))))
      refine qround_normal ?_ ⟨k + 1, ⟨rfl, trivial⟩, ⟨by omega, fun x hx => ?_⟩, by omega, fun _ h => h⟩
      · repeat (first | exact same_refl | refine same_upd rfl ?_ | refine same_junk rfl ?_)
      · by_cases hvk : x < k
        · exact hok x hvk
        · obtain rfl : x = k := by omega
          exact fun y hy => hsi y (by omega)
  · repeat' (first | apply pwp_seq | apply pwp_region | (apply px_run; (first | (apply opv_move; first | exact hid_int rfl | rfl) | (apply opv_assign; first | exact hid_bool rfl) | (apply opv_lss <;> rfl) | (apply opv_len_ints el_int; rfl; (first | exact rd_old (by assumption)))); rfl; rfl) | apply px_nil | apply qseq_normal | apply qseq_exit | (apply qblock_exit_same; rfl) | apply pwp_exit | apply pwp_ret | apply qround_exit | (apply pwp_cond_dec; rfl; all_goals (intro hc; try (first | (exfalso; omega)))))
    refine qbody_ret1 (v := .bool _) rfl rfl ⟨ret_true rfl ⟨by omega, hd, fun v hv => hok v (by omega)⟩, fun _ h => h.below⟩
end Go.Proofs.YthbhoofhenmbeaaDoor
