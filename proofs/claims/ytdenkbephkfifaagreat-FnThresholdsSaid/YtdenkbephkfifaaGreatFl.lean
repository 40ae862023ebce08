import Derived.Test.YtdenkbephkfifaaGreatLd
import Derived.Test.YtdenkbephkfifaaGreatSl
import Derived.Test.YtdenkbephkfifaaGreatPwPfl
import Derived.Test.YtdenkbephkfifaaGreatPwClos
/- Lists whose pairs are joined as told: holes, paths, two edges. -/
namespace Go.Proofs.YtdenkbephkfifaaGreat
open Go Go.RowKit Go.Pw

theorem en_i_areJoined : Entry Tryz.prog 71 := ⟨_, Tryz.func71, by kernel_rfl, rfl⟩
set_option maxHeartbeats 800000 in
theorem i_areJoined_c (size : Int) (gv lv : Value) (rows l : List Int) (f : FuncId) (cs : List Value) (K : Nat → Nat → Bool) (w : World) (hr : Arr w gv (ints rows)) (hv : Arr w lv (ints l))
    (hp : ∀ (i k : Nat) w', i < k → k < l.length → Below w.heap.size w w' → Pure Tryz.prog f ([Value.int .i64 i, Value.int .i64 k] ++ cs).toArray w' (.bool (K i k))) :
    Pure Tryz.prog 71 #[.agg #[.int .i64 size, gv], lv, .func (.func f) #[] cs.toArray] w (.bool (decide (joinP size rows l K))) := by
  refine pure_enter (args := [_, _, _]) en_i_areJoined Tryz.func71 rfl Tryz.ntmps71 rfl ?_
  have hl := hv.len
  repeat' (first | apply pwp_seq | apply pwp_region | (apply px_run; (first | (apply opv_move; first | exact hid_int rfl | rfl) | (apply opv_assign; first | exact hid_bool rfl) | (apply opv_not_dec <;> rfl) | (apply opv_len_ints el_int; rfl; (first | exact rd_old (by assumption))) | (apply opv_load_str 0 st_G; rfl; rfl; rfl) | (apply opv_call; rfl; rfl; exact Cl.stable _ _ _; exact fun w hw => i_areVertices_c _ _ _ rows l _ (by first | exact hw.arr (by assumption)) (by first | exact hw.arr (by assumption)))); rfl; rfl) | apply px_nil | apply qseq_normal | apply qseq_ret | apply pwp_block | apply pwp_skip | apply pwp_ret | (apply pwp_cond_ndec; rfl; all_goals (intro hc; try (first | fail))) | (apply px_box; rfl; rfl; rfl; rfl; intro bk))
  all_goals try (refine qbody_ret1 (v := .bool _) rfl rfl ⟨ret_false rfl fun h => hc h.1, fun _ h => h.below⟩)
  have hd : distinctP size rows l := hc
  refine pwp_loop (τ := Nat) [(6,8), (15,41)] (fun k => [(15, .int .i64 (k : Int))]) (fun _ => Cl [] w [.blk bk [.int .i64 size, gv]]) (fun k => k ≤ l.length ∧ ∀ j, j < k → ∀ i, i < j → joinQ rows l K j i) (fun k => l.length - k) 0
    ⟨rfl, trivial⟩ ⟨Nat.zero_le _, fun v hv => by omega⟩ (fun _ h => h) (fun J k hk => ?_)
  obtain ⟨hk, hok⟩ := hk
  by_cases hlt : k < l.length
  · obtain ⟨ha1, ha2⟩ := distinct_at hd hlt
    repeat' (first | apply pwp_seq | apply pwp_region | (apply px_run; (first | (apply opv_move; first | exact hid_int rfl) | (apply opv_assign; first | exact hid_int rfl) | (apply opv_lss <;> rfl)); rfl; rfl) | apply px_nil | apply qseq_normal | apply pwp_block | apply pwp_skip | (apply pwp_cond_dec; rfl; all_goals (intro hc; try (first | (exfalso; omega)))))
    refine pwp_loop (τ := Nat) [(6,6), (8,8), (19,40)] (fun i => [(19, .int .i64 (i : Int))]) (fun _ => Cl [] w [.blk bk [.int .i64 size, gv]]) (fun i => i ≤ k ∧ ∀ j, j < i → joinQ rows l K k j) (fun i => k - i) 0
      ⟨rfl, trivial⟩ ⟨Nat.zero_le _, fun v hv => by omega⟩ (fun _ h => h) (fun J2 i hi => ?_)
    obtain ⟨hi, hsi⟩ := hi
    by_cases hli : i < k
    · obtain ⟨hb1, hb2⟩ := distinct_at hd (i := i) (by omega)
      repeat' (first | apply pwp_seq | apply pwp_region | (apply px_run; (first | (apply opv_move; first | exact hid_int rfl | rfl) | (apply opv_assign; first | exact hid_int rfl | exact hid_bool rfl) | (apply opv_lss <;> rfl) | (apply opv_add_in; rfl; rfl; omega) | (apply opv_field fld_G1; rfl) | (apply opv_load_blk 0; (first | with_reducible exact sc_int | with_reducible exact sc_ints); rfl; rfl; rfl) | (apply opv_load_ints sc_int; rfl; (first | exact rd_old (by assumption)); (first | omega)) | (apply opv_index_nat (vs := ints _) el_int; rfl; rfl; (first | exact rd_old (by assumption)); (first | (simp only [ints_length]; omega))) | (apply opv_index (vs := ints _) el_int; rfl; rfl; (first | exact rd_old (by assumption)); omega; (first | (simp only [ints_length]; omega))) | (apply opv_callx; rfl; rfl; exact Cl.stable _ _ _; exact fun w hw => hp i k w hli hlt hw.below) | (apply opv_call; rfl; rfl; exact Cl.stable _ _ _; exact fun w hw => i_has_c _ _ _ (by omega)) | (apply opv_neq_bool ty_bool <;> rfl)); rfl; rfl) | apply px_nil | apply qseq_normal | apply qseq_ret | apply pwp_block | apply qblock_normal | apply qblock_ret | apply pwp_skip | apply pwp_ret | apply qround_ret | (apply pwp_region_mix; kernel_rfl; decide +kernel; exact Cl.stable _ _ _) | (apply pwp_cond_dec; rfl; all_goals (intro hc; try (first | (exfalso; omega)))) | (apply pwp_cond_not; rfl; all_goals (intro hc; try (first | fail))))
      · refine qbody_ret1 (v := .bool _) rfl rfl ⟨ret_false rfl fun h => ?_, fun _ h => h.below⟩
        have := h.2 k hlt i hli
        unfold joinQ at this
        rw [this] at hc
        simp at hc
      · refine qround_normal ?_ ⟨i + 1, ⟨rfl, trivial⟩, ⟨by omega, fun x hx => ?_⟩, by omega, fun _ h => h⟩
        · repeat (first | exact same_refl | refine same_upd rfl ?_ | refine same_junk rfl ?_)
        · by_cases hvk : x < i
          · exact hsi x hvk
          · obtain rfl : x = i := by omega
            unfold joinQ
            simpa using hc
    · repeat' (first | apply pwp_seq | apply pwp_region | (apply px_run; (first | (apply opv_move; first | exact hid_int rfl) | (apply opv_lss <;> rfl) | (apply opv_add_in; rfl; rfl; omega)); rfl; rfl) | apply px_nil | apply qseq_normal | apply qseq_exit | apply qblock_normal | (apply qblock_exit_same; rfl) | apply pwp_exit | apply qround_exit | (apply pwp_cond_dec; rfl; all_goals (intro hc; try (first | (exfalso; omega)))))
      refine qround_normal ?_ ⟨k + 1, ⟨rfl, trivial⟩, ⟨by omega, fun x hx => ?_⟩, by omega, fun _ h => h⟩
      · repeat (first | exact same_refl | refine same_upd rfl ?_ | refine same_junk rfl ?_)
      · by_cases hvk : x < k
        · exact hok x hvk
        · obtain rfl : x = k := by omega
          exact fun y hy => hsi y (by omega)
  · repeat' (first | apply pwp_seq | apply pwp_region | (apply px_run; (first | (apply opv_assign; first | exact hid_bool rfl) | (apply opv_lss <;> rfl)); rfl; rfl) | apply px_nil | apply qseq_normal | apply qseq_exit | (apply qblock_exit_same; rfl) | apply pwp_exit | apply pwp_ret | apply qround_exit | (apply pwp_cond_dec; rfl; all_goals (intro hc; try (first | (exfalso; omega)))))
    refine qbody_ret1 (v := .bool _) rfl rfl ⟨ret_true rfl ⟨hd, fun v hv => hok v (by omega)⟩, fun _ h => h.below⟩
theorem en_i_IsHole_1 : Entry Tryz.prog 73 := ⟨_, Tryz.func73, by kernel_rfl, rfl⟩
theorem i_IsHole_1_c (i k b : Nat) (lv : Value) (l : List Int) (w : World) (hb : Bk w b [lv]) (hv : Arr w lv (ints l)) (hik : i < k) (hk : k < l.length) :
    Pure Tryz.prog 73 #[.int .i64 i, .int .i64 k, .pointer (some ⟨b, 0, none⟩)] w (.bool (holeJ l.length i k)) := by
  refine pure_enter (args := [_, _, _]) en_i_IsHole_1 Tryz.func73 rfl Tryz.ntmps73 rfl ?_
  have hl := hv.len
  unfold holeJ
  repeat' (first | apply pwp_seq | apply pwp_region | (apply px_run; (first | (apply opv_move; first | exact hid_int rfl | exact hid_bool rfl | rfl) | (apply opv_assign; first | exact hid_bool rfl) | (apply opv_eql <;> rfl) | (apply opv_pick_t <;> rfl) | (apply opv_pick_f <;> rfl) | (apply opv_add_in; rfl; rfl; omega) | (apply opv_sub_in; rfl; rfl; omega) | (apply opv_len_ints el_int; rfl; (first | exact rd_old (by assumption))) | (apply opv_load_old; (first | with_reducible exact sc_ints); rfl; assumption; rfl)); rfl; rfl) | apply px_nil | (apply px_skip; rfl; rfl) | apply qseq_normal | apply pwp_ret | (apply px_guard_dec; rfl; rfl; rfl; all_goals (intro hc; try (first | fail))))
  all_goals (refine qbody_ret1 (v := .bool _) rfl rfl ⟨by first | exact ret_true rfl (by omega) | exact ret_false rfl (by omega) | exact ret_iff (by omega), fun _ h => h.below⟩)
theorem en_i_IsHole : Entry Tryz.prog 54 := ⟨_, Tryz.func54, by kernel_rfl, rfl⟩
theorem i_IsHole_c (size : Int) (gv lv : Value) (rows l : List Int) (w : World) (hr : Arr w gv (ints rows)) (hv : Arr w lv (ints l)) :
    Pure Tryz.prog 54 #[.agg #[.int .i64 size, gv], lv] w (.bool (decide (holeP size rows l))) := by
  refine pure_enter (args := [_, _]) en_i_IsHole Tryz.func54 rfl Tryz.ntmps54 rfl ?_
  have hl := hv.len
  repeat' (first | apply pwp_seq | apply pwp_region | (apply px_run; (first | (apply opv_move; first | exact hid_bool rfl) | (apply opv_assign; first | exact hid_bool rfl) | (apply opv_geq <;> rfl) | (apply opv_pick_t <;> rfl) | (apply opv_pick_f <;> rfl) | (apply opv_load_blk 0; (first | with_reducible exact sc_ints); rfl; rfl; rfl) | (apply opv_len_ints el_int; rfl; (first | exact rd_old (by assumption))) | (apply opv_load_str 1 st_G; rfl; rfl; rfl) | (apply opv_make_func; rfl) | (apply opv_call; rfl; rfl; exact Cl.stable _ _ _; exact fun w hw => i_areJoined_c _ _ _ rows l 73 _ (holeJ l.length) _ (by first | exact hw.arr (by assumption)) (by first | exact hw.arr (by assumption)) (fun i k w' h1 h2 h3 => i_IsHole_1_c i k _ lv l w' ((hw.bk (k := 0) rfl).below h3) ((hw.arr hv).below h3) h1 h2))); rfl; rfl) | apply px_nil | (apply px_skip; rfl; rfl) | apply qseq_normal | apply pwp_ret | (apply px_guard_dec; rfl; rfl; rfl; all_goals (intro hc; try (first | fail))) | (apply px_box; rfl; rfl; rfl; rfl; intro bk) | (apply px_box1; rfl; (intro w hw; (first | exact stor_arr (by assumption))); rfl; rfl; rfl; intro bk))
  · refine qbody_ret1 (v := .bool (decide _)) rfl rfl ⟨ret_iff ⟨fun h => ⟨by omega, h⟩, fun h => h.2⟩, fun _ h => h.below⟩
  · refine qbody_ret1 (v := .bool _) rfl rfl ⟨ret_false rfl fun h => hc (by have := h.1; omega), fun _ h => h.below⟩
theorem en_s_IsHole : Entry Tryz.prog 57 := ⟨_, Tryz.func57, by kernel_rfl, rfl⟩
set_option maxHeartbeats 800000 in
theorem s_IsHole_c (size : Int) (gv lv : Value) (rows l : List Int) (w : World) (hr : Arr w gv (ints rows)) (hv : Arr w lv (ints l)) :
    Pure Tryz.prog 57 #[.agg #[.int .i64 size, gv], lv] w (.bool (decide (holeP size rows l))) := by
  refine pure_enter (args := [_, _]) en_s_IsHole Tryz.func57 rfl Tryz.ntmps57 rfl ?_
  have hl := hv.len
  repeat' (first | apply pwp_seq | apply pwp_region | (apply px_run; (first | (apply opv_move; first | exact hid_bool rfl | rfl) | (apply opv_assign; first | exact hid_int rfl | exact hid_bool rfl) | (apply opv_lss <;> rfl) | (apply opv_pick_t <;> rfl) | (apply opv_pick_f <;> rfl) | (apply opv_not_dec <;> rfl) | (apply opv_len_ints el_int; rfl; (first | exact rd_old (by assumption))) | (apply opv_load_str 0 st_G; rfl; rfl; rfl) | (apply opv_call; rfl; rfl; exact Cl.stable _ _ _; exact fun w hw => s_l4Distinct_c _ _ _ rows l _ (by first | exact hw.arr (by assumption)) (by first | exact hw.arr (by assumption)))); rfl; rfl) | apply px_nil | (apply px_skip; rfl; rfl) | apply qseq_normal | apply qseq_ret | apply pwp_block | apply pwp_skip | apply pwp_ret | (apply pwp_cond_t; rfl) | (apply px_guard_ndec; rfl; rfl; rfl; all_goals (intro hc; try (first | fail))) | (apply pwp_cond_dec; rfl; all_goals (intro hc; try (first | fail))) | (apply px_box; rfl; rfl; rfl; rfl; intro bk))
  all_goals try (refine qbody_ret1 (v := .bool _) rfl rfl ⟨ret_false rfl fun h => hc h.2.1, fun _ h => h.below⟩)
  all_goals try (refine qbody_ret1 (v := .bool _) rfl rfl ⟨ret_false rfl fun h => ?_, fun _ h => h.below⟩; have q := h.1; omega)
  have hd : distinctP size rows l := by assumption
  refine pwp_loop (τ := Nat) [(4,6), (16,52)] (fun k => [(5, .int .i64 (k : Int))]) (fun _ => Cl [] w [.blk bk [.int .i64 size, gv]]) (fun k => k ≤ l.length ∧ ∀ j, j < k → ∀ i, i < j → joinQ rows l (holeJ l.length) j i) (fun k => l.length - k) 0
    ⟨rfl, trivial⟩ ⟨Nat.zero_le _, fun v hv => by omega⟩ (fun _ h => h) (fun J k hk => ?_)
  obtain ⟨hk, hok⟩ := hk
  by_cases hlt : k < l.length
  · obtain ⟨ha1, ha2⟩ := distinct_at hd hlt
    repeat' (first | apply pwp_seq | apply pwp_region | (apply px_run; (first | (apply opv_move; first | exact hid_int rfl | rfl) | (apply opv_assign; first | exact hid_int rfl) | (apply opv_lss <;> rfl) | (apply opv_len_ints el_int; rfl; (first | exact rd_old (by assumption)))); rfl; rfl) | apply px_nil | apply qseq_normal | apply pwp_block | apply pwp_skip | (apply pwp_cond_dec; rfl; all_goals (intro hc; try (first | (exfalso; omega)))))
    refine pwp_loop (τ := Nat) [(4,4), (6,6), (22,52)] (fun i => [(6, .int .i64 (i : Int))]) (fun _ => Cl [] w [.blk bk [.int .i64 size, gv]]) (fun i => i ≤ k ∧ ∀ j, j < i → joinQ rows l (holeJ l.length) k j) (fun i => k - i) 0
      ⟨rfl, trivial⟩ ⟨Nat.zero_le _, fun v hv => by omega⟩ (fun _ h => h) (fun J2 i hi => ?_)
    obtain ⟨hi, hsi⟩ := hi
    by_cases hli : i < k
    · obtain ⟨hb1, hb2⟩ := distinct_at hd (i := i) (by omega)
      have he := edge_l hd (i := i) (k := k) (by omega) hlt
      have hq : joinQ rows l (holeJ l.length) k i ↔ hasB (rows.getD (l.getD k 0).toNat 0) (l.getD i 0) = decide (k = i + 1 ∨ (i = 0 ∧ k + 1 = l.length)) := by unfold joinQ holeJ; rw [he]
      repeat' (first | apply pwp_seq | apply pwp_region | (apply px_run; (first | (apply opv_move; first | exact hid_int rfl | exact hid_bool rfl | rfl) | (apply opv_assign; first | exact hid_int rfl | exact hid_bool rfl) | (apply opv_lss <;> rfl) | (apply opv_eql <;> rfl) | (apply opv_pick_t <;> rfl) | (apply opv_pick_f <;> rfl) | (apply opv_add_in; rfl; rfl; omega) | (apply opv_sub_in; rfl; rfl; omega) | (apply opv_load_ints sc_int; rfl; (first | exact rd_old (by assumption)); (first | omega)) | (apply opv_index_nat (vs := ints _) el_int; rfl; rfl; (first | exact rd_old (by assumption)); (first | (simp only [ints_length]; omega))) | (apply opv_len_ints el_int; rfl; (first | exact rd_old (by assumption))) | (apply opv_load_str 0 st_G; rfl; rfl; rfl) | (apply opv_call; rfl; rfl; exact Cl.stable _ _ _; exact fun w hw => s_l2Edge_c _ _ rows _ _ _ (by first | exact hw.arr (by assumption)) (by omega) (by omega)) | (apply opv_neq_bool ty_bool <;> rfl)); rfl; rfl) | apply px_nil | (apply px_skip; rfl; rfl) | apply qseq_normal | apply qseq_ret | apply pwp_block | apply qblock_normal | apply qblock_ret | apply pwp_skip | apply pwp_ret | apply qround_ret | (apply pwp_region_draw; kernel_rfl; kernel_rfl; exact Cl.stable _ _ _) | (apply px_guard_dec; rfl; rfl; rfl; all_goals (intro hc; try (first | fail))) | (apply pwp_cond_dec; rfl; all_goals (intro hc; try (first | (exfalso; omega)))) | (apply pwp_cond_not; rfl; all_goals (intro hc; try (first | fail))))
      all_goals first
        | (refine qbody_ret1 (v := .bool _) rfl rfl ⟨ret_false rfl fun h => ?_, fun _ h => h.below⟩
           have := hq.1 (h.2.2 k hlt i hli)
           rw [this] at hc
           first | (simp at hc; done) | (simp at hc; omega) | (simp only [beq_eq_false_iff_ne, bne_iff_ne, ne_eq, decide_eq_decide] at hc; omega))
        | (refine qround_normal ?_ ⟨i + 1, ⟨rfl, trivial⟩, ⟨by omega, fun x hx => ?_⟩, by omega, fun _ h => h⟩
           · repeat (first | exact same_refl | refine same_upd rfl ?_ | refine same_junk rfl ?_)
           · by_cases hvk : x < i
             · exact hsi x hvk
             · obtain rfl : x = i := by omega
               first | rw [hq, bne_eq_false_iff_eq.1 hc] | rw [hq, eq_of_beq hc]
               first | (symm; exact decide_eq_true (by omega)) | (symm; exact decide_eq_false (by omega)) | exact decide_eq_decide.2 (by omega))
    · repeat' (first | apply pwp_seq | apply pwp_region | (apply px_run; (first | (apply opv_move; first | exact hid_int rfl) | (apply opv_assign; first | exact hid_int rfl) | (apply opv_lss <;> rfl) | (apply opv_add_in; rfl; rfl; omega)); rfl; rfl) | apply px_nil | apply qseq_normal | apply qseq_exit | apply qblock_normal | (apply qblock_exit_same; rfl) | apply pwp_exit | apply qround_exit | (apply pwp_cond_dec; rfl; all_goals (intro hc; try (first | (exfalso; omega)))))
      refine qround_normal ?_ ⟨k + 1, ⟨rfl, trivial⟩, ⟨by omega, fun x hx => ?_⟩, by omega, fun _ h => h⟩
      · repeat (first | exact same_refl | refine same_upd rfl ?_ | refine same_junk rfl ?_)
      · by_cases hvk : x < k
        · exact hok x hvk
        · obtain rfl : x = k := by omega
          exact fun y hy => hsi y (by omega)
  · repeat' (first | apply pwp_seq | apply pwp_region | (apply px_run; (first | (apply opv_move; first | exact hid_int rfl | rfl) | (apply opv_assign; first | exact hid_bool rfl) | (apply opv_lss <;> rfl) | (apply opv_len_ints el_int; rfl; (first | exact rd_old (by assumption)))); rfl; rfl) | apply px_nil | apply qseq_normal | apply qseq_exit | (apply qblock_exit_same; rfl) | apply pwp_exit | apply pwp_ret | apply qround_exit | (apply pwp_cond_dec; rfl; all_goals (intro hc; try (first | (exfalso; omega)))))
    refine qbody_ret1 (v := .bool _) rfl rfl ⟨ret_true rfl ⟨by omega, hd, fun v hv => hok v (by omega)⟩, fun _ h => h.below⟩
theorem en_i_IsTwoEdges_1 : Entry Tryz.prog 72 := ⟨_, Tryz.func72, by kernel_rfl, rfl⟩
theorem i_IsTwoEdges_1_c (i k : Nat) (w : World) : Pure Tryz.prog 72 #[.int .i64 i, .int .i64 k] w (.bool (twoJ i k)) := by
  refine pure_enter (args := [_, _]) en_i_IsTwoEdges_1 Tryz.func72 rfl Tryz.ntmps72 rfl ?_
  unfold twoJ
  repeat' (first | apply pwp_seq | apply pwp_region | (apply px_run; (first | (apply opv_move; first | exact hid_int rfl | exact hid_bool rfl | rfl) | (apply opv_assign; first | exact hid_bool rfl) | (apply opv_eql <;> rfl) | (apply opv_pick_t <;> rfl) | (apply opv_pick_f <;> rfl)); rfl; rfl) | apply px_nil | (apply px_skip; rfl; rfl) | apply qseq_normal | apply pwp_ret | (apply px_guard_dec; rfl; rfl; rfl; all_goals (intro hc; try (first | (exfalso; omega)))))
  all_goals (refine qbody_ret1 (v := .bool _) rfl rfl ⟨by first | exact ret_true rfl (by omega) | exact ret_false rfl (by omega) | exact ret_iff (by omega), fun _ h => h.below⟩)
theorem en_i_IsTwoEdges : Entry Tryz.prog 53 := ⟨_, Tryz.func53, by kernel_rfl, rfl⟩
theorem i_IsTwoEdges_c (size : Int) (gv lv : Value) (rows l : List Int) (w : World) (hr : Arr w gv (ints rows)) (hv : Arr w lv (ints l)) :
    Pure Tryz.prog 53 #[.agg #[.int .i64 size, gv], lv] w (.bool (decide (twoP size rows l))) := by
  refine pure_enter (args := [_, _]) en_i_IsTwoEdges Tryz.func53 rfl Tryz.ntmps53 rfl ?_
  have hl := hv.len
  repeat' (first | apply pwp_seq | apply pwp_region | (apply px_run; (first | (apply opv_move; first | exact hid_bool rfl | rfl) | (apply opv_assign; first | exact hid_bool rfl) | (apply opv_eql <;> rfl) | (apply opv_pick_t <;> rfl) | (apply opv_pick_f <;> rfl) | (apply opv_len_ints el_int; rfl; (first | exact rd_old (by assumption))) | (apply opv_load_str 0 st_G; rfl; rfl; rfl) | (apply opv_call; rfl; rfl; exact Cl.stable _ _ _; exact fun w hw => i_areJoined_c _ _ _ rows l 72 [] twoJ _ (by first | exact hw.arr (by assumption)) (by first | exact hw.arr (by assumption)) (fun i k w' h1 h2 h3 => i_IsTwoEdges_1_c i k w'))); rfl; rfl) | apply px_nil | (apply px_skip; rfl; rfl) | apply qseq_normal | apply pwp_ret | (apply px_guard_dec; rfl; rfl; rfl; all_goals (intro hc; try (first | fail))) | (apply px_box; rfl; rfl; rfl; rfl; intro bk))
  · refine qbody_ret1 (v := .bool (decide _)) rfl rfl ⟨ret_iff ⟨fun h => ⟨by omega, h⟩, fun h => h.2⟩, fun _ h => h.below⟩
  · refine qbody_ret1 (v := .bool _) rfl rfl ⟨ret_false rfl fun h => hc (by have := h.1; omega), fun _ h => h.below⟩
theorem en_s_IsTwoEdges : Entry Tryz.prog 56 := ⟨_, Tryz.func56, by kernel_rfl, rfl⟩
set_option maxHeartbeats 1600000 in
theorem s_IsTwoEdges_c (size : Int) (gv lv : Value) (rows l : List Int) (w : World) (hr : Arr w gv (ints rows)) (hv : Arr w lv (ints l)) :
    Pure Tryz.prog 56 #[.agg #[.int .i64 size, gv], lv] w (.bool (decide (twoP size rows l))) := by
  refine pure_enter (args := [_, _]) en_s_IsTwoEdges Tryz.func56 rfl Tryz.ntmps56 rfl ?_
  have hl := hv.len
  by_cases hd : l.length = 4 ∧ distinctP size rows l
  · obtain ⟨h4, hd⟩ := hd
    obtain ⟨a1, a2⟩ := distinct_at hd (i := 0) (by omega)
    obtain ⟨b1, b2⟩ := distinct_at hd (i := 1) (by omega)
    obtain ⟨c1, c2⟩ := distinct_at hd (i := 2) (by omega)
    obtain ⟨d1, d2⟩ := distinct_at hd (i := 3) (by omega)
    have hiff := two_iff h4 hd
    repeat' (first | apply pwp_seq | apply pwp_region | (apply px_run; (first | (apply opv_move; first | exact hid_bool rfl | rfl) | (apply opv_assign; first | exact hid_bool rfl) | (apply opv_eql <;> rfl) | (apply opv_pick_t <;> rfl) | (apply opv_pick_f <;> rfl) | (apply opv_not <;> rfl) | (apply opv_load_ints sc_int; rfl; (first | exact rd_old (by assumption)); (first | omega)) | (apply opv_index_nat (k := 0) (vs := ints _) el_int; rfl; rfl; (first | exact rd_old (by assumption)); (first | (simp only [ints_length]; first | omega))) | (apply opv_index_nat (k := 1) (vs := ints _) el_int; rfl; rfl; (first | exact rd_old (by assumption)); (first | (simp only [ints_length]; first | omega))) | (apply opv_index_nat (k := 2) (vs := ints _) el_int; rfl; rfl; (first | exact rd_old (by assumption)); (first | (simp only [ints_length]; first | omega))) | (apply opv_index_nat (k := 3) (vs := ints _) el_int; rfl; rfl; (first | exact rd_old (by assumption)); (first | (simp only [ints_length]; first | omega))) | (apply opv_len_ints el_int; rfl; (first | exact rd_old (by assumption))) | (apply opv_load_str 0 st_G; rfl; rfl; rfl) | (apply opv_call; rfl; rfl; exact Cl.stable _ _ _; exact fun w hw => s_l4Distinct_c _ _ _ rows l _ (by first | exact hw.arr (by assumption)) (by first | exact hw.arr (by assumption))) | (apply opv_call; rfl; rfl; exact Cl.stable _ _ _; exact fun w hw => s_l2Edge_c _ _ rows _ _ _ (by first | exact hw.arr (by assumption)) (by omega) (by omega))); rfl; rfl) | apply px_nil | (apply px_skip; rfl; rfl) | apply qseq_normal | apply pwp_ret | (apply pwp_region_draw; kernel_rfl; kernel_rfl; exact Cl.stable _ _ _) | (apply px_guard_dec; rfl; rfl; rfl; all_goals (intro hc; try (first | contradiction | (exfalso; omega)))) | (apply px_guard_not; rfl; rfl; rfl; all_goals (intro hc; try (first | fail))) | (apply px_guard; rfl; rfl; rfl; all_goals (intro hc; (first | (fail_if_success (cases hc); try (first | fail))))) | (apply px_box; rfl; rfl; rfl; rfl; intro bk))
    all_goals first
      | (refine qbody_ret1 (v := .bool _) rfl rfl ⟨ret_false rfl fun h => ?_, fun _ h => h.below⟩
         have h' := hiff.1 h
         simp [h'.1, h'.2.1, h'.2.2.1, h'.2.2.2.1, h'.2.2.2.2.1, h'.2.2.2.2.2] at hc; done)
      | (refine qbody_ret1 (v := .bool _) rfl rfl ⟨?_, fun _ h => h.below⟩
         congr 1
         rw [Bool.eq_iff_iff, decide_eq_true_eq, hiff]
         simp_all)
  · repeat' (first | apply pwp_seq | apply pwp_region | (apply px_run; (first | (apply opv_move; first | exact hid_bool rfl | rfl) | (apply opv_assign; first | exact hid_bool rfl) | (apply opv_eql <;> rfl) | (apply opv_pick_t <;> rfl) | (apply opv_pick_f <;> rfl) | (apply opv_load_ints sc_int; rfl; (first | exact rd_old (by assumption)); (first | omega)) | (apply opv_index_nat (k := 0) (vs := ints _) el_int; rfl; rfl; (first | exact rd_old (by assumption)); (first | (simp only [ints_length]; first | omega))) | (apply opv_index_nat (k := 1) (vs := ints _) el_int; rfl; rfl; (first | exact rd_old (by assumption)); (first | (simp only [ints_length]; first | omega))) | (apply opv_len_ints el_int; rfl; (first | exact rd_old (by assumption))) | (apply opv_load_str 0 st_G; rfl; rfl; rfl) | (apply opv_call; rfl; rfl; exact Cl.stable _ _ _; exact fun w hw => s_l4Distinct_c _ _ _ rows l _ (by first | exact hw.arr (by assumption)) (by first | exact hw.arr (by assumption)))); rfl; rfl) | apply px_nil | (apply px_skip; rfl; rfl) | apply qseq_normal | apply pwp_ret | (apply pwp_region_draw; kernel_rfl; kernel_rfl; exact Cl.stable _ _ _) | (apply px_guard_dec; rfl; rfl; rfl; all_goals (intro hc; try (first | fail))) | (apply px_box; rfl; rfl; rfl; rfl; intro bk))
    all_goals first
      | exact (hd ⟨by omega, by assumption⟩).elim
      | (refine qbody_ret1 (v := .bool _) rfl rfl ⟨ret_false rfl fun h => hd ⟨h.1, h.2.1⟩, fun _ h => h.below⟩)
theorem en_i_IsInducedPath_1 : Entry Tryz.prog 74 := ⟨_, Tryz.func74, by kernel_rfl, rfl⟩
theorem i_IsInducedPath_1_c (i k : Nat) (w : World) (hi : (i : Int) ≤ 9223372036854775806) : Pure Tryz.prog 74 #[.int .i64 i, .int .i64 k] w (.bool (pathJ i k)) := by
  refine pure_enter (args := [_, _]) en_i_IsInducedPath_1 Tryz.func74 rfl Tryz.ntmps74 rfl ?_
  unfold pathJ
  repeat' (first | apply pwp_seq | apply pwp_region | (apply px_run; (first | (apply opv_move; first | exact hid_int rfl) | (apply opv_assign; first | exact hid_bool rfl) | (apply opv_eql <;> rfl) | (apply opv_add_in; rfl; rfl; omega)); rfl; rfl) | apply px_nil | apply qseq_normal | apply pwp_ret)
  all_goals (refine qbody_ret1 (v := .bool _) rfl rfl ⟨by first | exact ret_true rfl (by omega) | exact ret_false rfl (by omega) | exact ret_iff (by omega), fun _ h => h.below⟩)
theorem en_i_IsInducedPath : Entry Tryz.prog 55 := ⟨_, Tryz.func55, by kernel_rfl, rfl⟩
theorem i_IsInducedPath_c (size : Int) (gv lv : Value) (rows l : List Int) (w : World) (hr : Arr w gv (ints rows)) (hv : Arr w lv (ints l)) :
    Pure Tryz.prog 55 #[.agg #[.int .i64 size, gv], lv] w (.bool (decide (pathP size rows l))) := by
  refine pure_enter (args := [_, _]) en_i_IsInducedPath Tryz.func55 rfl Tryz.ntmps55 rfl ?_
  have hl := hv.len
  repeat' (first | apply pwp_seq | apply pwp_region | (apply px_run; (first | (apply opv_move; first | exact hid_bool rfl | rfl) | (apply opv_assign; first | exact hid_bool rfl) | (apply opv_gtr <;> rfl) | (apply opv_pick_t <;> rfl) | (apply opv_pick_f <;> rfl) | (apply opv_len_ints el_int; rfl; (first | exact rd_old (by assumption))) | (apply opv_load_str 0 st_G; rfl; rfl; rfl) | (apply opv_call; rfl; rfl; exact Cl.stable _ _ _; exact fun w hw => i_areJoined_c _ _ _ rows l 74 [] pathJ _ (by first | exact hw.arr (by assumption)) (by first | exact hw.arr (by assumption)) (fun i k w' h1 h2 h3 => i_IsInducedPath_1_c i k w' (by omega)))); rfl; rfl) | apply px_nil | (apply px_skip; rfl; rfl) | apply qseq_normal | apply pwp_ret | (apply px_guard_dec; rfl; rfl; rfl; all_goals (intro hc; try (first | fail))) | (apply px_box; rfl; rfl; rfl; rfl; intro bk))
  · refine qbody_ret1 (v := .bool (decide _)) rfl rfl ⟨ret_iff ⟨fun h => ⟨by omega, h⟩, fun h => h.2⟩, fun _ h => h.below⟩
  · refine qbody_ret1 (v := .bool _) rfl rfl ⟨ret_false rfl fun h => hc (by have := h.1; omega), fun _ h => h.below⟩
theorem en_s_IsInducedPath : Entry Tryz.prog 58 := ⟨_, Tryz.func58, by kernel_rfl, rfl⟩
set_option maxHeartbeats 800000 in
theorem s_IsInducedPath_c (size : Int) (gv lv : Value) (rows l : List Int) (w : World) (hr : Arr w gv (ints rows)) (hv : Arr w lv (ints l)) :
    Pure Tryz.prog 58 #[.agg #[.int .i64 size, gv], lv] w (.bool (decide (pathP size rows l))) := by
  refine pure_enter (args := [_, _]) en_s_IsInducedPath Tryz.func58 rfl Tryz.ntmps58 rfl ?_
  have hl := hv.len
  repeat' (first | apply pwp_seq | apply pwp_region | (apply px_run; (first | (apply opv_move; first | exact hid_bool rfl | rfl) | (apply opv_assign; first | exact hid_int rfl | exact hid_bool rfl) | (apply opv_eql <;> rfl) | (apply opv_pick_t <;> rfl) | (apply opv_pick_f <;> rfl) | (apply opv_not_dec <;> rfl) | (apply opv_len_ints el_int; rfl; (first | exact rd_old (by assumption))) | (apply opv_load_str 0 st_G; rfl; rfl; rfl) | (apply opv_call; rfl; rfl; exact Cl.stable _ _ _; exact fun w hw => s_l4Distinct_c _ _ _ rows l _ (by first | exact hw.arr (by assumption)) (by first | exact hw.arr (by assumption)))); rfl; rfl) | apply px_nil | (apply px_skip; rfl; rfl) | apply qseq_normal | apply qseq_ret | apply pwp_block | apply pwp_skip | apply pwp_ret | (apply pwp_cond_t; rfl) | (apply px_guard_ndec; rfl; rfl; rfl; all_goals (intro hc; try (first | fail))) | (apply pwp_cond_dec; rfl; all_goals (intro hc; try (first | fail))) | (apply px_box; rfl; rfl; rfl; rfl; intro bk))
  all_goals try (refine qbody_ret1 (v := .bool _) rfl rfl ⟨ret_false rfl fun h => hc h.2.1, fun _ h => h.below⟩)
  all_goals try (refine qbody_ret1 (v := .bool _) rfl rfl ⟨ret_false rfl fun h => ?_, fun _ h => h.below⟩; have q := h.1; omega)
  have hd : distinctP size rows l := by assumption
  refine pwp_loop (τ := Nat) [(4,6), (16,41)] (fun k => [(5, .int .i64 (k : Int))]) (fun _ => Cl [] w [.blk bk [.int .i64 size, gv]]) (fun k => k ≤ l.length ∧ ∀ j, j < k → ∀ i, i < j → joinQ rows l pathJ j i) (fun k => l.length - k) 0
    ⟨rfl, trivial⟩ ⟨Nat.zero_le _, fun v hv => by omega⟩ (fun _ h => h) (fun J k hk => ?_)
  obtain ⟨hk, hok⟩ := hk
  by_cases hlt : k < l.length
  · obtain ⟨ha1, ha2⟩ := distinct_at hd hlt
    repeat' (first | apply pwp_seq | apply pwp_region | (apply px_run; (first | (apply opv_move; first | exact hid_int rfl | rfl) | (apply opv_assign; first | exact hid_int rfl) | (apply opv_lss <;> rfl) | (apply opv_len_ints el_int; rfl; (first | exact rd_old (by assumption)))); rfl; rfl) | apply px_nil | apply qseq_normal | apply pwp_block | apply pwp_skip | (apply pwp_cond_dec; rfl; all_goals (intro hc; try (first | (exfalso; omega)))))
    refine pwp_loop (τ := Nat) [(4,4), (6,6), (22,41)] (fun i => [(6, .int .i64 (i : Int))]) (fun _ => Cl [] w [.blk bk [.int .i64 size, gv]]) (fun i => i ≤ k ∧ ∀ j, j < i → joinQ rows l pathJ k j) (fun i => k - i) 0
      ⟨rfl, trivial⟩ ⟨Nat.zero_le _, fun v hv => by omega⟩ (fun _ h => h) (fun J2 i hi => ?_)
    obtain ⟨hi, hsi⟩ := hi
    by_cases hli : i < k
    · obtain ⟨hb1, hb2⟩ := distinct_at hd (i := i) (by omega)
      have he := edge_l hd (i := i) (k := k) (by omega) hlt
      have hq : joinQ rows l pathJ k i ↔ hasB (rows.getD (l.getD k 0).toNat 0) (l.getD i 0) = decide (k = i + 1) := by unfold joinQ pathJ; rw [he]
      repeat' (first | apply pwp_seq | apply pwp_region | (apply px_run; (first | (apply opv_move; first | exact hid_int rfl | rfl) | (apply opv_assign; first | exact hid_int rfl | exact hid_bool rfl) | (apply opv_lss <;> rfl) | (apply opv_eql <;> rfl) | (apply opv_add_in; rfl; rfl; omega) | (apply opv_sub_in; rfl; rfl; omega) | (apply opv_load_ints sc_int; rfl; (first | exact rd_old (by assumption)); (first | omega)) | (apply opv_index_nat (vs := ints _) el_int; rfl; rfl; (first | exact rd_old (by assumption)); (first | (simp only [ints_length]; omega))) | (apply opv_load_str 0 st_G; rfl; rfl; rfl) | (apply opv_call; rfl; rfl; exact Cl.stable _ _ _; exact fun w hw => s_l2Edge_c _ _ rows _ _ _ (by first | exact hw.arr (by assumption)) (by omega) (by omega)) | (apply opv_neq_bool ty_bool <;> rfl)); rfl; rfl) | apply px_nil | apply qseq_normal | apply qseq_ret | apply pwp_block | apply qblock_normal | apply qblock_ret | apply pwp_skip | apply pwp_ret | apply qround_ret | (apply pwp_region_draw; kernel_rfl; kernel_rfl; exact Cl.stable _ _ _) | (apply pwp_cond_dec; rfl; all_goals (intro hc; try (first | (exfalso; omega)))) | (apply pwp_cond_not; rfl; all_goals (intro hc; try (first | fail))))
      · refine qbody_ret1 (v := .bool _) rfl rfl ⟨ret_false rfl fun h => ?_, fun _ h => h.below⟩
        have := hq.1 (h.2.2 k hlt i hli)
        rw [this] at hc
        simp only [beq_eq_false_iff_ne, bne_iff_ne, ne_eq, decide_eq_decide] at hc; omega
      · refine qround_normal ?_ ⟨i + 1, ⟨rfl, trivial⟩, ⟨by omega, fun x hx => ?_⟩, by omega, fun _ h => h⟩
        · repeat (first | exact same_refl | refine same_upd rfl ?_ | refine same_junk rfl ?_)
        · by_cases hvk : x < i
          · exact hsi x hvk
          · obtain rfl : x = i := by omega
            first | rw [hq, bne_eq_false_iff_eq.1 hc] | rw [hq, eq_of_beq hc]
            exact decide_eq_decide.2 (by omega)
    · repeat' (first | apply pwp_seq | apply pwp_region | (apply px_run; (first | (apply opv_move; first | exact hid_int rfl) | (apply opv_assign; first | exact hid_int rfl) | (apply opv_lss <;> rfl) | (apply opv_add_in; rfl; rfl; omega)); rfl; rfl) | apply px_nil | apply qseq_normal | apply qseq_exit | apply qblock_normal | (apply qblock_exit_same; rfl) | apply pwp_exit | apply qround_exit | (apply pwp_cond_dec; rfl; all_goals (intro hc; try (first | (exfalso; omega)))))
      refine qround_normal ?_ ⟨k + 1, ⟨rfl, trivial⟩, ⟨by omega, fun x hx => ?_⟩, by omega, fun _ h => h⟩
      · repeat (first | exact same_refl | refine same_upd rfl ?_ | refine same_junk rfl ?_)
      · by_cases hvk : x < k
        · exact hok x hvk
        · obtain rfl : x = k := by omega
          exact fun y hy => hsi y (by omega)
  · repeat' (first | apply pwp_seq | apply pwp_region | (apply px_run; (first | (apply opv_move; first | exact hid_int rfl | rfl) | (apply opv_assign; first | exact hid_bool rfl) | (apply opv_lss <;> rfl) | (apply opv_len_ints el_int; rfl; (first | exact rd_old (by assumption)))); rfl; rfl) | apply px_nil | apply qseq_normal | apply qseq_exit | (apply qblock_exit_same; rfl) | apply pwp_exit | apply pwp_ret | apply qround_exit | (apply pwp_cond_dec; rfl; all_goals (intro hc; try (first | (exfalso; omega)))))
    refine qbody_ret1 (v := .bool _) rfl rfl ⟨ret_true rfl ⟨by omega, hd, fun v hv => hok v (by omega)⟩, fun _ h => h.below⟩
theorem en_i_IsThresholdObstacle : Entry Tryz.prog 25 := ⟨_, Tryz.func25, by kernel_rfl, rfl⟩
theorem i_IsThresholdObstacle_c (size : Int) (gv lv : Value) (rows l : List Int) (w : World) (hr : Arr w gv (ints rows)) (hv : Arr w lv (ints l)) :
    Pure Tryz.prog 25 #[.agg #[.int .i64 size, gv], lv] w (.bool (decide (thrObsP size rows l))) := by
  refine pure_enter (args := [_, _]) en_i_IsThresholdObstacle Tryz.func25 rfl Tryz.ntmps25 rfl ?_
  have hl := hv.len
  repeat' (first | apply pwp_seq | apply pwp_region | (apply px_run; (first | (apply opv_move; first | exact hid_bool rfl | rfl) | (apply opv_assign; first | exact hid_bool rfl) | (apply opv_eql <;> rfl) | (apply opv_pick_t <;> rfl) | (apply opv_pick_f <;> rfl) | (apply opv_len_ints el_int; rfl; (first | exact rd_old (by assumption))) | (apply opv_load_str 0 st_G; rfl; rfl; rfl) | (apply opv_call; rfl; rfl; exact Cl.stable _ _ _; exact fun w hw => i_IsTwoEdges_c _ _ _ rows l _ (by first | exact hw.arr (by assumption)) (by first | exact hw.arr (by assumption))) | (apply opv_call; rfl; rfl; exact Cl.stable _ _ _; exact fun w hw => i_IsHole_c _ _ _ rows l _ (by first | exact hw.arr (by assumption)) (by first | exact hw.arr (by assumption))) | (apply opv_call; rfl; rfl; exact Cl.stable _ _ _; exact fun w hw => i_IsInducedPath_c _ _ _ rows l _ (by first | exact hw.arr (by assumption)) (by first | exact hw.arr (by assumption)))); rfl; rfl) | apply px_nil | (apply px_skip; rfl; rfl) | apply qseq_normal | apply pwp_ret | (apply px_guard_dec; rfl; rfl; rfl; all_goals (intro hc; try (first | fail))) | (apply px_box; rfl; rfl; rfl; rfl; intro bk))
  all_goals first
    | (refine qbody_ret1 (v := .bool _) rfl rfl ⟨ret_true rfl ⟨by omega, .inl hc⟩, fun _ h => h.below⟩; done)
    | (refine qbody_ret1 (v := .bool _) rfl rfl ⟨ret_true rfl ⟨by omega, .inr (.inl hc)⟩, fun _ h => h.below⟩; done)
    | (refine qbody_ret1 (v := .bool (decide _)) rfl rfl ⟨ret_iff ⟨fun h => ⟨by omega, .inr (.inr h)⟩, fun h => by rcases h.2 with h | h | h; exact absurd h (by assumption); exact absurd h (by assumption); exact h⟩, fun _ h => h.below⟩; done)
    | (refine qbody_ret1 (v := .bool _) rfl rfl ⟨ret_false rfl fun h => hc (by have := h.1; omega), fun _ h => h.below⟩; done)
theorem en_s_IsThresholdObstacle : Entry Tryz.prog 26 := ⟨_, Tryz.func26, by kernel_rfl, rfl⟩
theorem s_IsThresholdObstacle_c (size : Int) (gv lv : Value) (rows l : List Int) (w : World) (hr : Arr w gv (ints rows)) (hv : Arr w lv (ints l)) :
    Pure Tryz.prog 26 #[.agg #[.int .i64 size, gv], lv] w (.bool (decide (thrObsP size rows l))) := by
  refine pure_enter (args := [_, _]) en_s_IsThresholdObstacle Tryz.func26 rfl Tryz.ntmps26 rfl ?_
  have hl := hv.len
  repeat' (first | apply pwp_seq | apply pwp_region | (apply px_run; (first | (apply opv_move; first | exact hid_bool rfl | rfl) | (apply opv_assign; first | exact hid_bool rfl) | (apply opv_eql <;> rfl) | (apply opv_pick_t <;> rfl) | (apply opv_pick_f <;> rfl) | (apply opv_len_ints el_int; rfl; (first | exact rd_old (by assumption))) | (apply opv_load_str 0 st_G; rfl; rfl; rfl) | (apply opv_call; rfl; rfl; exact Cl.stable _ _ _; exact fun w hw => s_IsTwoEdges_c _ _ _ rows l _ (by first | exact hw.arr (by assumption)) (by first | exact hw.arr (by assumption))) | (apply opv_call; rfl; rfl; exact Cl.stable _ _ _; exact fun w hw => s_IsHole_c _ _ _ rows l _ (by first | exact hw.arr (by assumption)) (by first | exact hw.arr (by assumption))) | (apply opv_call; rfl; rfl; exact Cl.stable _ _ _; exact fun w hw => s_IsInducedPath_c _ _ _ rows l _ (by first | exact hw.arr (by assumption)) (by first | exact hw.arr (by assumption)))); rfl; rfl) | apply px_nil | (apply px_skip; rfl; rfl) | apply qseq_normal | apply pwp_ret | (apply px_guard_dec; rfl; rfl; rfl; all_goals (intro hc; try (first | fail))) | (apply px_box; rfl; rfl; rfl; rfl; intro bk))
  all_goals first
    | (refine qbody_ret1 (v := .bool _) rfl rfl ⟨ret_true rfl ⟨by omega, .inl hc⟩, fun _ h => h.below⟩; done)
    | (refine qbody_ret1 (v := .bool _) rfl rfl ⟨ret_true rfl ⟨by omega, .inr (.inl hc)⟩, fun _ h => h.below⟩; done)
    | (refine qbody_ret1 (v := .bool (decide _)) rfl rfl ⟨ret_iff ⟨fun h => ⟨by omega, .inr (.inr h)⟩, fun h => by rcases h.2 with h | h | h; exact absurd h (by assumption); exact absurd h (by assumption); exact h⟩, fun _ h => h.below⟩; done)
    | (refine qbody_ret1 (v := .bool _) rfl rfl ⟨ret_false rfl fun h => hc (by have := h.1; omega), fun _ h => h.below⟩; done)
end Go.Proofs.YtdenkbephkfifaaGreat
/- Searches for a first list. -/
namespace Go.Proofs.YtdenkbephkfifaaGreat
open Go Go.RowKit Go.Pw
theorem en_i_always : Entry Tryz.prog 47 := ⟨_, Tryz.func47, by kernel_rfl, rfl⟩
theorem i_always_c (lv : Value) (w : World) : Pure Tryz.prog 47 #[lv] w (.bool true) := by
  refine pure_enter (args := [_]) en_i_always Tryz.func47 rfl Tryz.ntmps47 rfl ?_
  repeat' (first | apply pwp_seq | apply pwp_region | (apply px_run; (first | (apply opv_assign; first | exact hid_bool rfl)); rfl; rfl) | apply px_nil | apply qseq_normal | apply pwp_ret)
  refine qbody_ret1 (v := .bool _) rfl rfl ⟨rfl, fun _ h => h.below⟩
theorem en_i_firstList_1 : Entry Tryz.prog 69 := ⟨_, Tryz.func69, by kernel_rfl, rfl⟩
set_option maxHeartbeats 1600000 in
theorem i_search_c (size : Int) (N n : Nat) (gv : Value) (fh fm : FuncId) (ch cm : List Value) (may fin : List Int → Bool) (bn bh bg bm bs : Nat) (hN : size = N) (hN2 : N ≤ 1000) (hn : n ≤ 1000) (hn1 : 1 ≤ n) :
    ∀ (d : Nat) (l : List Int) (lv : Value) (w : World), l.length + d = n → Arr w lv (ints l) → Bk w bn [.int .i64 n] → Bk w bh [.func (.func fh) #[] ch.toArray] → Bk w bg [.int .i64 size, gv] → Bk w bm [.func (.func fm) #[] cm.toArray] →
      Bk w bs [.func (.func 69) #[] [.pointer (some ⟨bn, 0, none⟩), .pointer (some ⟨bh, 0, none⟩), .pointer (some ⟨bg, 0, none⟩), .pointer (some ⟨bm, 0, none⟩), .pointer (some ⟨bs, 0, none⟩)].toArray] →
      (∀ (x : List Int) xv w', Below w.heap.size w w' → Arr w' xv (ints x) → Pure Tryz.prog fm ([xv] ++ cm).toArray w' (.bool (may x))) →
      (∀ (x : List Int) xv w', Below w.heap.size w w' → Arr w' xv (ints x) → Pure Tryz.prog fh ([xv] ++ ch).toArray w' (.bool (fin x))) →
      Gives Tryz.prog 69 #[lv, .pointer (some ⟨bn, 0, none⟩), .pointer (some ⟨bh, 0, none⟩), .pointer (some ⟨bg, 0, none⟩), .pointer (some ⟨bm, 0, none⟩), .pointer (some ⟨bs, 0, none⟩)] w (FoundR 3 (firstG N (okI may) fin d l)) := by
  intro d
  induction d with
  | zero =>
    intro l lv w hl hv h1 h2 h3 h4 h5 hm hh
    refine gives_enter (args := [_, _, _, _, _, _]) en_i_firstList_1 Tryz.func69 rfl Tryz.ntmps69 rfl ?_
    have hln : (l.length : Int) = n := by omega
    unfold firstG
    repeat' (first | apply pwp_seq | apply pwp_region | (apply px_run; (first | (apply opv_move; first | rfl) | (apply opv_assign; first | rfl) | (apply opv_eql <;> rfl) | (apply opv_len_ints el_int; rfl; (first | exact rd_old (by assumption))) | (apply opv_callx; rfl; rfl; exact Cl.stable _ _ _; exact fun w hw => hh l _ _ hw.below (by first | exact hw.arr (by assumption))) | (apply opv_load_old; (first | with_reducible exact sc_int | with_reducible exact sc_fnB); rfl; assumption; rfl)); rfl; rfl) | apply px_nil | apply qseq_normal | apply qseq_ret | apply pwp_skip | apply pwp_ret | (apply pwp_cond_dec; rfl; all_goals (intro hc; try (first | contradiction))) | (apply pwp_cond; rfl; all_goals (intro hc; try (first | fail))) | (apply px_gives; rfl; rfl; rfl; rfl; rfl; exact fun w hw => x_Clone_c _ l _ (by first | exact hw.arr (by assumption)) (by omega); rintro _ _ rfl))
    · refine qbody_ret1 rfl rfl ⟨_, ?_, fun w' h => h⟩
      rw [if_pos (by assumption)]; rfl
    · refine qbody_ret1 (v := .slice none 0 0) rfl rfl ⟨[], ?_, fun w' h => h⟩
      rw [if_neg (by simp_all)]; exact ⟨rfl, rfl⟩
  | succ d ih =>
    intro l lv w hl hv h1 h2 h3 h4 h5 hm hh
    refine gives_enter (args := [_, _, _, _, _, _]) en_i_firstList_1 Tryz.func69 rfl Tryz.ntmps69 rfl ?_
    repeat' (first | apply pwp_seq | apply pwp_region | (apply px_run; (first | (apply opv_move; first | exact hid_int rfl | rfl) | (apply opv_assign; first | rfl) | (apply opv_eql <;> rfl) | (apply opv_field fld_G0; rfl) | (apply opv_len_ints el_int; rfl; (first | exact rd_old (by assumption))) | (apply opv_load_old; (first | with_reducible exact sc_int); rfl; assumption; rfl)); rfl; rfl) | apply px_nil | apply qseq_normal | apply pwp_block | apply pwp_skip | (apply pwp_cond_dec; rfl; all_goals (intro hc; try (first | (exfalso; omega)))))
    refine pwp_loop (τ := Nat) [(7,10), (22,49)] (fun k => [(22, .int .i64 (k : Int))]) (fun _ => Cl [] w []) (fun k => k ≤ N ∧ firstK N (okI may) fin d l k = none) (fun k => N - k) 0
      ⟨rfl, trivial⟩ ⟨Nat.zero_le _, rfl⟩ (fun _ h => h) (fun J k hk => ?_)
    obtain ⟨hk, hno⟩ := hk
    by_cases hlt : k < N
    · have ih1 : ∀ xv w', Below w.heap.size w w' → Arr w' xv (ints (l ++ [(k : Int)])) → Gives Tryz.prog 69 #[xv, .pointer (some ⟨bn, 0, none⟩), .pointer (some ⟨bh, 0, none⟩), .pointer (some ⟨bg, 0, none⟩), .pointer (some ⟨bm, 0, none⟩), .pointer (some ⟨bs, 0, none⟩)] w' (FoundR 3 (firstG N (okI may) fin d (l ++ [(k : Int)]))) :=
        fun xv w' hb hx => ih (l ++ [(k : Int)]) xv w' (by simp; omega) hx (h1.below hb) (h2.below hb) (h3.below hb) (h4.below hb) (h5.below hb) (fun x xv w2 hb2 => hm x xv w2 (below_comp hb hb2)) (fun x xv w2 hb2 => hh x xv w2 (below_comp hb hb2))
      cases hf : firstG N (okI may) fin d (l ++ [(k : Int)]) with
      | none =>
        rw [hf] at ih1
        repeat' (first | apply pwp_seq | apply pwp_region | (apply px_run; (first | (apply opv_move; first | exact hid_int rfl | exact hid_bool rfl | rfl) | (apply opv_assign; first | exact hid_int rfl | rfl) | (apply opv_lss <;> rfl) | (apply opv_pick_t <;> rfl) | (apply opv_pick_f <;> rfl) | (apply opv_not_dec <;> rfl) | (apply opv_add_in; rfl; rfl; omega) | (apply opv_len_ints el_int; rfl; (first | exact rd_old (by assumption))) | (apply opv_full el_int; rfl; rfl; rfl; (first | exact rd_old (by assumption)); (simp only [ints_length])) | (apply opv_neq_nil_f el_int; rfl; rfl; rfl) | (apply opv_callx; rfl; rfl; exact Cl.stable _ _ _; exact fun w hw => hm (l ++ [(k : Int)]) _ _ hw.below (by first | exact hw.rowArr (k := 0) rfl)) | (apply opv_load_old; (first | with_reducible exact sc_fnB | with_reducible exact sc_fnS); rfl; assumption; rfl) | (apply opv_call; rfl; rfl; exact Cl.stable _ _ _; exact fun w hw => x_Contains_c _ l _ _ (by first | exact hw.arr (by assumption)))); rfl; rfl) | apply px_nil | (apply px_skip; rfl; rfl) | apply qseq_normal | apply pwp_block | apply qblock_normal | apply pwp_skip | (apply pwp_cond_f; rfl) | (apply px_guard_ndec; rfl; rfl; rfl; all_goals (intro hc; try (first | fail))) | (apply pwp_cond_dec; rfl; all_goals (intro hc; try (first | (exfalso; omega)))) | (apply pwp_cond; rfl; all_goals (intro hc; try (first | fail))) | (apply px_lit1 ez_int; rfl; (intro w hw; (first | rfl)); rfl; rfl; rfl; intro sv) | (apply px_append_full1 ez_int; rfl; rfl; (first | exact rd_old (by assumption)); (first | exact rd_row 0 rfl); omega; decide; rfl; rfl; rfl; intro sv) | (apply px_givesx; rfl; rfl; rfl; rfl; rfl; exact fun w hw => ih1 _ _ hw.below (by first | exact hw.rowArr (k := 0) rfl); rintro _ _ ⟨rfl, rfl⟩))
        all_goals
          refine qround_normal ?_ ⟨k + 1, ⟨rfl, trivial⟩, ⟨by omega, firstK_miss hno fun _ => hf⟩, by omega, fun w' h => h.sub (List.nil_sublist _)⟩
          repeat (first | exact same_refl | refine same_upd rfl ?_ | refine same_junk rfl ?_)
      | some L =>
        rw [hf] at ih1
        have hLl := firstG_len _ _ _ hf
        have hL0 : 0 < L.length := by simp at hLl; omega
        repeat' (first | apply pwp_seq | apply pwp_region | (apply px_run; (first | (apply opv_move; first | exact hid_int rfl | exact hid_bool rfl | rfl) | (apply opv_assign; first | exact hid_int rfl | rfl) | (apply opv_lss <;> rfl) | (apply opv_pick_t <;> rfl) | (apply opv_pick_f <;> rfl) | (apply opv_not_dec <;> rfl) | (apply opv_add_in; rfl; rfl; omega) | (apply opv_len_ints el_int; rfl; (first | exact rd_old (by assumption))) | (apply opv_full el_int; rfl; rfl; rfl; (first | exact rd_old (by assumption)); (simp only [ints_length])) | (apply opv_neq_nil_t el_int; rfl; rfl; (first | exact rd_row 0 rfl); (simp only [ints_length]; omega)) | (apply opv_callx; rfl; rfl; exact Cl.stable _ _ _; exact fun w hw => hm (l ++ [(k : Int)]) _ _ hw.below (by first | exact hw.rowArr (k := 0) rfl)) | (apply opv_load_old; (first | with_reducible exact sc_fnB | with_reducible exact sc_fnS); rfl; assumption; rfl) | (apply opv_call; rfl; rfl; exact Cl.stable _ _ _; exact fun w hw => x_Contains_c _ l _ _ (by first | exact hw.arr (by assumption)))); rfl; rfl) | apply px_nil | (apply px_skip; rfl; rfl) | apply qseq_normal | apply qseq_ret | apply pwp_block | apply qblock_normal | apply qblock_ret | apply pwp_skip | apply pwp_ret | apply qround_ret | (apply pwp_cond_t; rfl) | (apply pwp_cond_f; rfl) | (apply px_guard_ndec; rfl; rfl; rfl; all_goals (intro hc; try (first | fail))) | (apply pwp_cond_dec; rfl; all_goals (intro hc; try (first | (exfalso; omega)))) | (apply pwp_cond; rfl; all_goals (intro hc; try (first | fail))) | (apply px_lit1 ez_int; rfl; (intro w hw; (first | rfl)); rfl; rfl; rfl; intro sv) | (apply px_append_full1 ez_int; rfl; rfl; (first | exact rd_old (by assumption)); (first | exact rd_row 0 rfl); omega; decide; rfl; rfl; rfl; intro sv) | (apply px_givesx; rfl; rfl; rfl; rfl; rfl; exact fun w hw => ih1 _ _ hw.below (by first | exact hw.rowArr (k := 0) rfl); rintro sr _ rfl))
        all_goals first
          | (refine qround_normal ?_ ⟨k + 1, ⟨rfl, trivial⟩, ⟨by omega, firstK_miss hno fun h => by simp_all [okI]⟩, by omega, fun w' h => h.sub (List.nil_sublist _)⟩
             repeat (first | exact same_refl | refine same_upd rfl ?_ | refine same_junk rfl ?_))
          | (refine qbody_ret1 (v := sr) rfl rfl ⟨[.row 3 sr (ints L)], ?_, fun w' h => ?_⟩
             · rw [firstK_hit hlt hno (by simp_all [okI]) hf]; rfl
             · exact Cl.sub (by assumption) (by repeat (first | exact List.Sublist.slnil | exact List.Sublist.refl _ | apply List.Sublist.cons_cons | exact List.sublist_append_left _ _ | exact List.sublist_append_right _ _ | apply List.Sublist.cons)))
    · obtain rfl : k = N := by omega
      repeat' (first | apply pwp_seq | apply pwp_region | (apply px_run; (first | (apply opv_assign; first | rfl) | (apply opv_lss <;> rfl)); rfl; rfl) | apply px_nil | apply qseq_normal | apply qseq_exit | (apply qblock_exit_same; rfl) | apply pwp_exit | apply pwp_ret | apply qround_exit | (apply pwp_cond_dec; rfl; all_goals (intro hc; try (first | (exfalso; omega)))))
      refine qbody_ret1 (v := .slice none 0 0) rfl rfl ⟨[], ?_, fun w' h => h⟩
      rw [firstG_all, hno]; exact ⟨rfl, rfl⟩
theorem en_i_firstList : Entry Tryz.prog 46 := ⟨_, Tryz.func46, by kernel_rfl, rfl⟩
set_option maxHeartbeats 1000000 in
theorem i_firstList_c (size : Int) (n : Nat) (gv : Value) (rows : List Int) (fm fh : FuncId) (cm ch : List Value) (may fin : List Int → Bool) (w : World) (hr : Arr w gv (ints rows)) (hn : n ≤ 1000) (hn1 : 1 ≤ n)
    (hm : ∀ (x : List Int) xv w', Below w.heap.size w w' → Arr w' xv (ints x) → Pure Tryz.prog fm ([xv] ++ cm).toArray w' (.bool (may x)))
    (hh : ∀ (x : List Int) xv w', Below w.heap.size w w' → Arr w' xv (ints x) → Pure Tryz.prog fh ([xv] ++ ch).toArray w' (.bool (fin x))) :
    Gives Tryz.prog 46 #[.agg #[.int .i64 size, gv], .int .i64 n, .func (.func fm) #[] cm.toArray, .func (.func fh) #[] ch.toArray] w
      (fun v objs => ∃ sv, v = .tuple #[sv, .bool (firstX size rows may fin n).isSome] ∧ objs = [.row 3 sv (ints ((firstX size rows may fin n).getD []))]) := by
  refine gives_enter (args := [_, _, _, _]) en_i_firstList Tryz.func46 rfl Tryz.ntmps46 rfl ?_
  by_cases hg : IsG size rows
  case neg =>
    have hx : firstX size rows may fin n = none := by unfold firstX; rw [if_neg hg]
    repeat' (first | apply pwp_seq | apply pwp_region | (apply px_run; (first | (apply opv_assign; first | exact hid_bool rfl | rfl) | (apply opv_not_dec <;> rfl) | (apply opv_load_str 4 st_G; rfl; rfl; rfl) | (apply opv_make_func; rfl) | (apply opv_call; rfl; rfl; exact Cl.stable _ _ _; exact fun w hw => i_IsGraph_c _ _ rows _ (by first | exact hw.arr (by assumption)))); rfl; rfl) | apply px_nil | apply qseq_normal | apply qseq_ret | apply pwp_ret | (apply pwp_cond_ndec; rfl; all_goals (intro hc; try (first | contradiction))) | (apply px_box; rfl; rfl; rfl; rfl; intro bk) | (apply px_box1; rfl; (intro w hw; (first | rfl)); rfl; rfl; rfl; intro bk) | (apply px_allocz zi_fnS; rfl; rfl; rfl; rfl; intro bk) | (apply px_store_blk 0; (with_reducible exact co_fnS); rfl; rfl; rfl; (intro w hw; (first | rfl)); rfl; rfl))
    refine qbody_ret2 rfl rfl rfl ⟨_, ⟨_, by rw [hx]; rfl, rfl⟩, fun w' h => ?_⟩
    rw [hx]
    exact (h.sub (List.nil_sublist _)).nilRow _
  obtain ⟨N, hN, _, _, hN7⟩ := isG_size hg
  have hx : firstX size rows may fin n = firstG N (okI may) fin n [] := by unfold firstX; rw [if_pos hg]; congr 1; omega
  have key := fun (bn bh bg bm bs : Nat) => i_search_c size N n gv fh fm ch cm may fin bn bh bg bm bs hN (by omega) hn hn1 n []
  rw [hx]
  cases hf : firstG N (okI may) fin n [] with
  | none =>
    simp only [hf] at key
    repeat' (first | apply pwp_seq | apply pwp_region | (apply px_run; (first | (apply opv_move; first | rfl) | (apply opv_assign; first | exact hid_bool rfl | rfl) | (apply opv_not_dec <;> rfl) | (apply opv_load_blk 0; (first | with_reducible exact sc_fnS); rfl; rfl; rfl) | (apply opv_load_str 4 st_G; rfl; rfl; rfl) | (apply opv_neq_nil_f el_int; rfl; rfl; rfl) | (apply opv_make_func; rfl) | (apply opv_call; rfl; rfl; exact Cl.stable _ _ _; exact fun w hw => i_IsGraph_c _ _ rows _ (by first | exact hw.arr (by assumption)))); rfl; rfl) | apply px_nil | apply qseq_normal | apply pwp_skip | apply pwp_ret | (apply pwp_cond_ndec; rfl; all_goals (intro hc; try (first | contradiction))) | (apply px_box; rfl; rfl; rfl; rfl; intro bk) | (apply px_box1; rfl; (intro w hw; (first | rfl)); rfl; rfl; rfl; intro bk) | (apply px_allocz zi_fnS; rfl; rfl; rfl; rfl; intro bk) | (apply px_store_blk 0; (with_reducible exact co_fnS); rfl; rfl; rfl; (intro w hw; (first | rfl)); rfl; rfl) | (apply px_givesx; rfl; rfl; rfl; rfl; rfl; exact fun w hw => key _ _ _ _ _ _ _ (by simp) (arr_nil _) (hw.bk (k := 3) rfl) (hw.bk (k := 1) rfl) (hw.bk (k := 4) rfl) (hw.bk (k := 2) rfl) (hw.bk (k := 0) rfl) (fun x xv w' hb => hm x xv w' (below_comp hw.below hb)) (fun x xv w' hb => hh x xv w' (below_comp hw.below hb)); rintro _ _ ⟨rfl, rfl⟩))
    refine qbody_ret2 rfl rfl rfl ⟨_, ⟨_, rfl, rfl⟩, fun w' h => ?_⟩
    exact (h.sub (List.nil_sublist _)).nilRow _
  | some L =>
    simp only [hf] at key
    have hLl := firstG_len _ _ _ hf
    have hL0 : 0 < L.length := by simp at hLl; omega
    repeat' (first | apply pwp_seq | apply pwp_region | (apply px_run; (first | (apply opv_move; first | rfl) | (apply opv_assign; first | exact hid_bool rfl | rfl) | (apply opv_not_dec <;> rfl) | (apply opv_load_blk 0; (first | with_reducible exact sc_fnS); rfl; rfl; rfl) | (apply opv_load_str 4 st_G; rfl; rfl; rfl) | (apply opv_neq_nil_t el_int; rfl; rfl; (first | exact rd_row 0 rfl); (simp only [ints_length]; omega)) | (apply opv_make_func; rfl) | (apply opv_call; rfl; rfl; exact Cl.stable _ _ _; exact fun w hw => i_IsGraph_c _ _ rows _ (by first | exact hw.arr (by assumption)))); rfl; rfl) | apply px_nil | apply qseq_normal | apply pwp_skip | apply pwp_ret | (apply pwp_cond_ndec; rfl; all_goals (intro hc; try (first | contradiction))) | (apply px_box; rfl; rfl; rfl; rfl; intro bk) | (apply px_box1; rfl; (intro w hw; (first | rfl)); rfl; rfl; rfl; intro bk) | (apply px_allocz zi_fnS; rfl; rfl; rfl; rfl; intro bk) | (apply px_store_blk 0; (with_reducible exact co_fnS); rfl; rfl; rfl; (intro w hw; (first | rfl)); rfl; rfl) | (apply px_givesx; rfl; rfl; rfl; rfl; rfl; exact fun w hw => key _ _ _ _ _ _ _ (by simp) (arr_nil _) (hw.bk (k := 3) rfl) (hw.bk (k := 1) rfl) (hw.bk (k := 4) rfl) (hw.bk (k := 2) rfl) (hw.bk (k := 0) rfl) (fun x xv w' hb => hm x xv w' (below_comp hw.below hb)) (fun x xv w' hb => hh x xv w' (below_comp hw.below hb)); rintro sr _ rfl))
    refine qbody_ret2 rfl rfl rfl ⟨_, ⟨_, rfl, rfl⟩, fun w' h => ?_⟩
    exact Cl.sub (by assumption) (by repeat (first | exact List.Sublist.slnil | exact List.Sublist.refl _ | apply List.Sublist.cons_cons | exact List.sublist_append_left _ _ | exact List.sublist_append_right _ _ | apply List.Sublist.cons))
theorem en_s_l4Search : Entry Tryz.prog 78 := ⟨_, Tryz.func78, by kernel_rfl, rfl⟩
theorem s_l4Search0_c (size : Int) (gv lv : Value) (rows l : List Int) (n : Nat) (closed : Bool) (w : World) (hr : Arr w gv (ints rows)) (hv : Arr w lv (ints l)) (hl : l.length = n) :
    Pure Tryz.prog 78 #[.agg #[.int .i64 size, gv], lv, .int .i64 n, .bool closed] w (.tuple #[lv, .bool (finS (fun x => decide (holeP size rows x)) closed l)]) := by
  refine pure_enter (args := [_, _, _, _]) en_s_l4Search Tryz.func78 rfl Tryz.ntmps78 rfl ?_
  have hln : (l.length : Int) = n := by omega
  unfold finS
  repeat' (first | apply pwp_seq | apply pwp_region | (apply px_run; (first | (apply opv_move; first | exact hid_int rfl | exact hid_bool rfl | rfl) | (apply opv_assign; first | exact hid_bool rfl | rfl) | (apply opv_eql <;> rfl) | (apply opv_len_ints el_int; rfl; (first | exact rd_old (by assumption))) | (apply opv_load_str 0 st_G; rfl; rfl; rfl) | (apply opv_call; rfl; rfl; exact Cl.stable _ _ _; exact fun w hw => s_IsHole_c _ _ _ rows l _ (by first | exact hw.arr (by assumption)) (by first | exact hw.arr (by assumption)))); rfl; rfl) | apply px_nil | apply qseq_normal | apply qseq_ret | apply pwp_skip | apply pwp_ret | (apply pwp_cond_dec; rfl; all_goals (intro hc; try (first | contradiction))) | (apply pwp_cond; rfl; all_goals (intro hc; try (first | fail))) | (apply px_box; rfl; rfl; rfl; rfl; intro bk))
  all_goals first
    | exact absurd hln (by assumption)
    | (refine qbody_ret2 (v := lv) (v' := .bool _) rfl rfl rfl ⟨by simp_all, fun _ h => h.below⟩)
set_option maxHeartbeats 1600000 in
theorem s_l4Search_c (size : Int) (N n : Nat) (gv : Value) (rows : List Int) (closed : Bool) (hN : size = N) (hN2 : N ≤ 1000) (hn : n ≤ 1000) :
    ∀ (d : Nat) (l : List Int) (lv : Value) (w : World), l.length + (d + 1) = n → Arr w gv (ints rows) → Arr w lv (ints l) →
      Gives Tryz.prog 78 #[.agg #[.int .i64 size, gv], lv, .int .i64 n, .bool closed] w (fun v objs => ∃ sv, v = .tuple #[sv, .bool (firstG N (okR (fun x => decide (pathP size rows x)) (fun x => decide (holeP size rows x)) n closed) (finS (fun x => decide (holeP size rows x)) closed) (d + 1) l).isSome] ∧
        objs = [.row 3 sv (ints ((firstG N (okR (fun x => decide (pathP size rows x)) (fun x => decide (holeP size rows x)) n closed) (finS (fun x => decide (holeP size rows x)) closed) (d + 1) l).getD []))]) := by
  intro d
  induction d with
  | zero =>
    intro l lv w hl hr hv
    refine gives_enter (args := [_, _, _, _]) en_s_l4Search Tryz.func78 rfl Tryz.ntmps78 rfl ?_
    generalize hok : okR (fun x => decide (pathP size rows x)) (fun x => decide (holeP size rows x)) n closed = ok
    generalize hfn : finS (fun x => decide (holeP size rows x)) closed = fin
    repeat' (first | apply pwp_seq | apply pwp_region | (apply px_run; (first | (apply opv_move; first | exact hid_int rfl | rfl) | (apply opv_assign; first | exact hid_int rfl | exact hid_bool rfl | rfl) | (apply opv_eql <;> rfl) | (apply opv_len_ints el_int; rfl; (first | exact rd_old (by assumption)))); rfl; rfl) | apply px_nil | apply qseq_normal | apply pwp_block | apply pwp_skip | (apply pwp_cond_dec; rfl; all_goals (intro hc; try (first | (exfalso; omega)))) | (apply px_box; rfl; rfl; rfl; rfl; intro bk))
    refine pwp_loop (τ := Nat) [(8,13), (24,62)] (fun k => [(10, .int .i64 (k : Int))]) (fun _ => Cl [] w [.blk bk [.int .i64 size, gv]]) (fun k => k ≤ N ∧ firstK N ok fin 0 l k = none) (fun k => N - k) 0
      ⟨rfl, trivial⟩ ⟨Nat.zero_le _, rfl⟩ (fun _ h => h) (fun J k hk => ?_)
    obtain ⟨hk, hno⟩ := hk
    by_cases hlt : k < N
    · have hlen : (l ++ [(k : Int)]).length = n := by simp; omega
      have hf : firstG N ok fin 0 (l ++ [(k : Int)]) = if fin (l ++ [(k : Int)]) = true then some (l ++ [(k : Int)]) else none := rfl
      have hko : ok l (k : Int) = (decide (pathP size rows (l ++ [(k : Int)])) || (closed && decide (holeP size rows (l ++ [(k : Int)])))) := by
        rw [← hok]; unfold okR; rw [decide_eq_true (show l.length + 1 = n by omega), Bool.and_true]
      have hfx : fin (l ++ [(k : Int)]) = if closed = true then decide (holeP size rows (l ++ [(k : Int)])) else true := by rw [← hfn]; rfl
      cases closed
      all_goals
        repeat' (first | apply pwp_seq | apply pwp_region | (apply px_run; (first | (apply opv_move; first | exact hid_int rfl | exact hid_bool rfl | rfl) | (apply opv_assign; first | exact hid_int rfl | exact hid_bool rfl | rfl) | (apply opv_lss <;> rfl) | (apply opv_eql <;> rfl) | (apply opv_pick_t <;> rfl) | (apply opv_pick_f <;> rfl) | (apply opv_add_in; rfl; rfl; omega) | (apply opv_field fld_G0; rfl) | (apply opv_load_blk 0; (first | with_reducible exact sc_int); rfl; rfl; rfl) | (apply opv_len_ints el_int; rfl; (first | exact rd_row 1 rfl)) | (apply opv_load_str 2 st_G; rfl; rfl; rfl) | (apply opv_extract; rfl; rfl) | (apply opv_call; rfl; rfl; exact Cl.stable _ _ _; exact fun w hw => s_IsInducedPath_c _ _ _ rows (l ++ [(k : Int)]) _ (by first | exact hw.arr (by assumption)) (by first | exact hw.rowArr (k := 1) rfl)) | (apply opv_call; rfl; rfl; exact Cl.stable _ _ _; exact fun w hw => s_IsHole_c _ _ _ rows (l ++ [(k : Int)]) _ (by first | exact hw.arr (by assumption)) (by first | exact hw.rowArr (k := 1) rfl)) | (apply opv_call; rfl; rfl; exact Cl.stable _ _ _; exact fun w hw => s_l4Search0_c _ _ _ rows (l ++ [(k : Int)]) n _ _ (by first | exact hw.arr (by assumption)) (by first | exact hw.rowArr (k := 1) rfl) hlen)); rfl; rfl) | apply px_nil | (apply px_skip; rfl; rfl) | apply qseq_normal | apply qseq_ret | apply pwp_block | apply qblock_normal | apply qblock_ret | apply pwp_skip | apply pwp_ret | apply qround_ret | (apply pwp_cond_t; rfl) | (apply pwp_cond_f; rfl) | (apply px_guard_dec; rfl; rfl; rfl; all_goals (intro hc; try (first | fail))) | (apply pwp_cond_dec; rfl; all_goals (intro hc; try (first | contradiction | (exfalso; omega)))) | (apply px_lit0i ez_int; rfl; rfl; rfl; intro sv) | (apply px_lit1 ez_int; rfl; (intro w hw; (first | rfl)); rfl; rfl; rfl; intro sv) | (apply px_append_ints 0 ez_int; rfl; rfl; rfl; (first | exact rd_old (by assumption)); (first | (focus (simp; omega))); decide; rfl; rfl; intro sv) | (apply px_append_int1 1 ez_int; rfl; rfl; rfl; (first | exact rd_row 0 rfl); (first | (focus (simp; omega))); decide; rfl; rfl; intro sv))
        all_goals first
          | (refine qround_normal ?_ ⟨k + 1, ⟨rfl, trivial⟩, ⟨by omega, firstK_miss hno fun h => by simp_all [finS]⟩, by omega, fun w' h => by exact Cl.sub (by assumption) (by repeat (first | exact List.Sublist.slnil | exact List.Sublist.refl _ | apply List.Sublist.cons_cons | exact List.sublist_append_left _ _ | exact List.sublist_append_right _ _ | apply List.Sublist.cons))⟩
             repeat (first | exact same_refl | refine same_upd rfl ?_ | refine same_junk rfl ?_))
          | (have hit := firstK_hit hlt hno (show ok l (k : Int) = true by simp_all [finS]) (hf.trans (if_pos (by simp_all [finS])))
             rw [hit]
             refine qbody_ret2 (v := sv) (v' := .bool true) rfl rfl rfl ⟨[.row 3 sv (ints (l ++ [(k : Int)]))], ⟨sv, rfl, rfl⟩, fun w' h => ?_⟩
             exact Cl.sub (by assumption) (by repeat (first | exact List.Sublist.slnil | exact List.Sublist.refl _ | apply List.Sublist.cons_cons | exact List.sublist_append_left _ _ | exact List.sublist_append_right _ _ | apply List.Sublist.cons)))
    · obtain rfl : k = N := by omega
      repeat' (first | apply pwp_seq | apply pwp_region | (apply px_run; (first | (apply opv_move; first | exact hid_int rfl) | (apply opv_assign; first | exact hid_bool rfl | rfl) | (apply opv_lss <;> rfl) | (apply opv_field fld_G0; rfl) | (apply opv_load_blk 0; (first | with_reducible exact sc_int); rfl; rfl; rfl)); rfl; rfl) | apply px_nil | apply qseq_normal | apply qseq_exit | (apply qblock_exit_same; rfl) | apply pwp_exit | apply pwp_ret | apply qround_exit | (apply pwp_cond_dec; rfl; all_goals (intro hc; try (first | (exfalso; omega)))) | (apply px_lit0 ez_int; rfl; rfl; rfl; intro sv))
      refine qbody_ret2 rfl rfl rfl ⟨_, ⟨_, by rw [firstG_all, hno]; rfl, rfl⟩, fun w' h => ?_⟩
      rw [firstG_all, hno]
      exact Cl.sub (by assumption) (by repeat (first | exact List.Sublist.slnil | exact List.Sublist.refl _ | apply List.Sublist.cons_cons | exact List.sublist_append_left _ _ | exact List.sublist_append_right _ _ | apply List.Sublist.cons))
  | succ d ih =>
    intro l lv w hl hr hv
    refine gives_enter (args := [_, _, _, _]) en_s_l4Search Tryz.func78 rfl Tryz.ntmps78 rfl ?_
    generalize hok : okR (fun x => decide (pathP size rows x)) (fun x => decide (holeP size rows x)) n closed = ok at ih ⊢
    generalize hfn : finS (fun x => decide (holeP size rows x)) closed = fin at ih ⊢
    repeat' (first | apply pwp_seq | apply pwp_region | (apply px_run; (first | (apply opv_move; first | exact hid_int rfl | rfl) | (apply opv_assign; first | exact hid_int rfl | exact hid_bool rfl | rfl) | (apply opv_eql <;> rfl) | (apply opv_len_ints el_int; rfl; (first | exact rd_old (by assumption)))); rfl; rfl) | apply px_nil | apply qseq_normal | apply pwp_block | apply pwp_skip | (apply pwp_cond_dec; rfl; all_goals (intro hc; try (first | (exfalso; omega)))) | (apply px_box; rfl; rfl; rfl; rfl; intro bk))
    refine pwp_loop (τ := Nat) [(8,13), (24,62)] (fun k => [(10, .int .i64 (k : Int))]) (fun _ => Cl [] w [.blk bk [.int .i64 size, gv]]) (fun k => k ≤ N ∧ firstK N ok fin (d + 1) l k = none) (fun k => N - k) 0
      ⟨rfl, trivial⟩ ⟨Nat.zero_le _, rfl⟩ (fun _ h => h) (fun J k hk => ?_)
    obtain ⟨hk, hno⟩ := hk
    by_cases hlt : k < N
    · have hlen : ¬ ((l ++ [(k : Int)]).length : Int) = n := by simp; omega
      have hko : ok l (k : Int) = decide (pathP size rows (l ++ [(k : Int)])) := by
        rw [← hok]; unfold okR; rw [decide_eq_false (show ¬ l.length + 1 = n by omega)]; simp
      have ih1 := fun xv w' => ih (l ++ [(k : Int)]) xv w' (by simp; omega)
      cases closed
      all_goals
        cases hf : firstG N ok fin (d + 1) (l ++ [(k : Int)]) with
        | none =>
          simp only [hf] at ih1
          repeat' (first | apply pwp_seq | apply pwp_region | (apply px_run; (first | (apply opv_move; first | exact hid_int rfl | exact hid_bool rfl | rfl) | (apply opv_assign; first | exact hid_int rfl | exact hid_bool rfl | rfl) | (apply opv_lss <;> rfl) | (apply opv_eql <;> rfl) | (apply opv_pick_t <;> rfl) | (apply opv_pick_f <;> rfl) | (apply opv_add_in; rfl; rfl; omega) | (apply opv_field fld_G0; rfl) | (apply opv_load_blk 0; (first | with_reducible exact sc_int); rfl; rfl; rfl) | (apply opv_len_ints el_int; rfl; (first | exact rd_row 1 rfl)) | (apply opv_load_str 2 st_G; rfl; rfl; rfl) | (apply opv_extract; rfl; rfl) | (apply opv_call; rfl; rfl; exact Cl.stable _ _ _; exact fun w hw => s_IsInducedPath_c _ _ _ rows (l ++ [(k : Int)]) _ (by first | exact hw.arr (by assumption)) (by first | exact hw.rowArr (k := 1) rfl))); rfl; rfl) | apply px_nil | (apply px_skip; rfl; rfl) | apply qseq_normal | apply pwp_block | apply qblock_normal | apply pwp_skip | (apply pwp_cond_t; rfl) | (apply pwp_cond_f; rfl) | (apply px_guard_dec; rfl; rfl; rfl; all_goals (intro hc; try (first | contradiction))) | (apply pwp_cond_dec; rfl; all_goals (intro hc; try (first | (exfalso; omega)))) | (apply px_lit0i ez_int; rfl; rfl; rfl; intro sv) | (apply px_lit1 ez_int; rfl; (intro w hw; (first | rfl)); rfl; rfl; rfl; intro sv) | (apply px_append_ints 0 ez_int; rfl; rfl; rfl; (first | exact rd_old (by assumption)); (first | (focus (simp; omega))); decide; rfl; rfl; intro sv) | (apply px_append_int1 1 ez_int; rfl; rfl; rfl; (first | exact rd_row 0 rfl); (first | (focus (simp; omega))); decide; rfl; rfl; intro sv) | (apply px_gives; rfl; rfl; rfl; rfl; rfl; exact fun w hw => ih1 _ _ (by first | exact hw.arr (by assumption)) (by first | exact hw.rowArr (k := 1) rfl); rintro _ _ ⟨sr, rfl, rfl⟩))
          all_goals
            refine qround_normal ?_ ⟨k + 1, ⟨rfl, trivial⟩, ⟨by omega, firstK_miss hno fun h => by simp_all [finS]⟩, by omega, fun w' h => by exact Cl.sub (by assumption) (by repeat (first | exact List.Sublist.slnil | exact List.Sublist.refl _ | apply List.Sublist.cons_cons | exact List.sublist_append_left _ _ | exact List.sublist_append_right _ _ | apply List.Sublist.cons))⟩
            repeat (first | exact same_refl | refine same_upd rfl ?_ | refine same_junk rfl ?_)
        | some L =>
          simp only [hf] at ih1
          repeat' (first | apply pwp_seq | apply pwp_region | (apply px_run; (first | (apply opv_move; first | exact hid_int rfl | exact hid_bool rfl | rfl) | (apply opv_assign; first | exact hid_int rfl | exact hid_bool rfl | rfl) | (apply opv_lss <;> rfl) | (apply opv_eql <;> rfl) | (apply opv_pick_t <;> rfl) | (apply opv_pick_f <;> rfl) | (apply opv_add_in; rfl; rfl; omega) | (apply opv_field fld_G0; rfl) | (apply opv_load_blk 0; (first | with_reducible exact sc_int); rfl; rfl; rfl) | (apply opv_len_ints el_int; rfl; (first | exact rd_row 1 rfl)) | (apply opv_load_str 2 st_G; rfl; rfl; rfl) | (apply opv_extract; rfl; rfl) | (apply opv_call; rfl; rfl; exact Cl.stable _ _ _; exact fun w hw => s_IsInducedPath_c _ _ _ rows (l ++ [(k : Int)]) _ (by first | exact hw.arr (by assumption)) (by first | exact hw.rowArr (k := 1) rfl))); rfl; rfl) | apply px_nil | (apply px_skip; rfl; rfl) | apply qseq_normal | apply qseq_ret | apply pwp_block | apply qblock_normal | apply qblock_ret | apply pwp_skip | apply pwp_ret | apply qround_ret | (apply pwp_cond_t; rfl) | (apply pwp_cond_f; rfl) | (apply px_guard_dec; rfl; rfl; rfl; all_goals (intro hc; try (first | contradiction))) | (apply pwp_cond_dec; rfl; all_goals (intro hc; try (first | (exfalso; omega)))) | (apply px_lit0i ez_int; rfl; rfl; rfl; intro sv) | (apply px_lit1 ez_int; rfl; (intro w hw; (first | rfl)); rfl; rfl; rfl; intro sv) | (apply px_append_ints 0 ez_int; rfl; rfl; rfl; (first | exact rd_old (by assumption)); (first | (focus (simp; omega))); decide; rfl; rfl; intro sv) | (apply px_append_int1 1 ez_int; rfl; rfl; rfl; (first | exact rd_row 0 rfl); (first | (focus (simp; omega))); decide; rfl; rfl; intro sv) | (apply px_gives; rfl; rfl; rfl; rfl; rfl; exact fun w hw => ih1 _ _ (by first | exact hw.arr (by assumption)) (by first | exact hw.rowArr (k := 1) rfl); rintro _ _ ⟨sr, rfl, rfl⟩))
          all_goals first
            | (refine qround_normal ?_ ⟨k + 1, ⟨rfl, trivial⟩, ⟨by omega, firstK_miss hno fun h => by simp_all [finS]⟩, by omega, fun w' h => by exact Cl.sub (by assumption) (by repeat (first | exact List.Sublist.slnil | exact List.Sublist.refl _ | apply List.Sublist.cons_cons | exact List.sublist_append_left _ _ | exact List.sublist_append_right _ _ | apply List.Sublist.cons))⟩
               repeat (first | exact same_refl | refine same_upd rfl ?_ | refine same_junk rfl ?_))
            | (rw [firstK_hit hlt hno (by simp_all [finS]) hf]
               refine qbody_ret2 (v := sr) (v' := .bool true) rfl rfl rfl ⟨[.row 3 sr (ints L)], ⟨sr, rfl, rfl⟩, fun w' h => ?_⟩
               exact Cl.sub (by assumption) (by repeat (first | exact List.Sublist.slnil | exact List.Sublist.refl _ | apply List.Sublist.cons_cons | exact List.sublist_append_left _ _ | exact List.sublist_append_right _ _ | apply List.Sublist.cons)))
    · obtain rfl : k = N := by omega
      repeat' (first | apply pwp_seq | apply pwp_region | (apply px_run; (first | (apply opv_move; first | exact hid_int rfl) | (apply opv_assign; first | exact hid_bool rfl | rfl) | (apply opv_lss <;> rfl) | (apply opv_field fld_G0; rfl) | (apply opv_load_blk 0; (first | with_reducible exact sc_int); rfl; rfl; rfl)); rfl; rfl) | apply px_nil | apply qseq_normal | apply qseq_exit | (apply qblock_exit_same; rfl) | apply pwp_exit | apply pwp_ret | apply qround_exit | (apply pwp_cond_dec; rfl; all_goals (intro hc; try (first | (exfalso; omega)))) | (apply px_lit0 ez_int; rfl; rfl; rfl; intro sv))
      refine qbody_ret2 rfl rfl rfl ⟨_, ⟨_, by rw [firstG_all, hno]; rfl, rfl⟩, fun w' h => ?_⟩
      rw [firstG_all, hno]
      exact Cl.sub (by assumption) (by repeat (first | exact List.Sublist.slnil | exact List.Sublist.refl _ | apply List.Sublist.cons_cons | exact List.sublist_append_left _ _ | exact List.sublist_append_right _ _ | apply List.Sublist.cons))
theorem en_s_FindInducedPath : Entry Tryz.prog 62 := ⟨_, Tryz.func62, by kernel_rfl, rfl⟩
set_option maxHeartbeats 1000000 in
theorem s_FindInducedPath_c (size n : Int) (gv : Value) (rows : List Int) (w : World) (hr : Arr w gv (ints rows)) (hn7 : n ≤ 7) :
    Gives Tryz.prog 62 #[.agg #[.int .i64 size, gv], .int .i64 n] w (fun v objs => ∃ sv, v = .tuple #[sv, .bool (pathX size rows n).isSome] ∧ objs = [.row 3 sv (ints ((pathX size rows n).getD []))]) := by
  refine gives_enter (args := [_, _]) en_s_FindInducedPath Tryz.func62 rfl Tryz.ntmps62 rfl ?_
  by_cases h1 : IsG size rows ∧ 1 ≤ n ∧ n ≤ size
  case neg =>
    have hx : pathX size rows n = none := by unfold pathX; rw [if_neg h1]
    repeat' (first | apply pwp_seq | apply pwp_region | (apply px_run; (first | (apply opv_move; first | exact hid_int rfl | exact hid_bool rfl) | (apply opv_assign; first | exact hid_bool rfl | rfl) | (apply opv_pick_t <;> rfl) | (apply opv_pick_f <;> rfl) | (apply opv_not_dec <;> rfl) | (apply opv_field fld_G0; rfl) | (apply opv_load_blk 0; (first | with_reducible exact sc_int); rfl; rfl; rfl) | (apply opv_load_str 0 st_G; rfl; rfl; rfl) | (apply opv_call; rfl; rfl; exact Cl.stable _ _ _; exact fun w hw => s_IsGraph_c _ _ rows _ (by first | exact hw.arr (by assumption))) | (apply opv_call; rfl; rfl; exact Cl.stable _ _ _; exact fun w hw => s_l1In_c _ _ _ _)); rfl; rfl) | apply px_nil | (apply px_skip; rfl; rfl) | apply qseq_normal | apply qseq_ret | apply pwp_skip | apply pwp_ret | (apply pwp_cond_t; rfl) | (apply px_guard_ndec; rfl; rfl; rfl; all_goals (intro hc; try (first | fail))) | (apply pwp_cond_ndec; rfl; all_goals (intro hc; try (first | fail))) | (apply px_box; rfl; rfl; rfl; rfl; intro bk) | (apply px_lit0 ez_int; rfl; rfl; rfl; intro sv))
    all_goals first
      | exact absurd ⟨by assumption, by assumption⟩ h1
      | (refine qbody_ret2 (v := sv) (v' := .bool false) rfl rfl rfl ⟨[.row 3 sv []], ⟨sv, by rw [hx]; rfl, by rw [hx]; rfl⟩, fun w' h => ?_⟩
         exact Cl.sub (by assumption) (by repeat (first | exact List.Sublist.slnil | exact List.Sublist.refl _ | apply List.Sublist.cons_cons | exact List.sublist_append_left _ _ | exact List.sublist_append_right _ _ | apply List.Sublist.cons)))
  obtain ⟨hg, h1⟩ := h1
  obtain ⟨N, hN, _, _, hN7⟩ := isG_size hg
  obtain ⟨m, hm⟩ : ∃ m : Nat, n.toNat = m + 1 := ⟨n.toNat - 1, by omega⟩
  have e := path_firstR (holeB := fun x => decide (holeP size rows x)) hg h1 hm
  have key := s_l4Search_c size N (m + 1) gv rows false hN (by omega) (by omega) m []
  rw [show size.toNat = N by omega] at e
  rw [e] at key
  obtain rfl : n = ((m + 1 : Nat) : Int) := by omega
  repeat' (first | apply pwp_seq | apply pwp_region | (apply px_run; (first | (apply opv_move; first | exact hid_int rfl | exact hid_bool rfl | rfl) | (apply opv_assign; first | exact hid_bool rfl | rfl) | (apply opv_pick_f <;> rfl) | (apply opv_not_dec <;> rfl) | (apply opv_field fld_G0; rfl) | (apply opv_load_blk 0; (first | with_reducible exact sc_int); rfl; rfl; rfl) | (apply opv_load_str 0 st_G; rfl; rfl; rfl) | (apply opv_extract; rfl; rfl) | (apply opv_call; rfl; rfl; exact Cl.stable _ _ _; exact fun w hw => s_IsGraph_c _ _ rows _ (by first | exact hw.arr (by assumption))) | (apply opv_call; rfl; rfl; exact Cl.stable _ _ _; exact fun w hw => s_l1In_c _ _ _ _)); rfl; rfl) | apply px_nil | apply qseq_normal | apply pwp_skip | apply pwp_ret | (apply px_guard_ndec; rfl; rfl; rfl; all_goals (intro hc; try (first | contradiction))) | (apply pwp_cond_ndec; rfl; all_goals (intro hc; try (first | contradiction))) | (apply px_box; rfl; rfl; rfl; rfl; intro bk) | (apply px_lit0i ez_int; rfl; rfl; rfl; intro sv) | (apply px_gives; rfl; rfl; rfl; rfl; rfl; exact fun w hw => key _ _ (by simp) (by first | exact hw.arr (by assumption)) (by first | exact hw.rowArr (k := 0) rfl); rintro _ _ ⟨sr, rfl, rfl⟩))
  all_goals first
    | exact absurd h1 (by assumption)
    | (refine qbody_ret2 rfl rfl rfl ⟨_, ⟨_, rfl, rfl⟩, fun w' h => ?_⟩
       exact Cl.sub (by assumption) (by repeat (first | exact List.Sublist.slnil | exact List.Sublist.refl _ | apply List.Sublist.cons_cons | exact List.sublist_append_left _ _ | exact List.sublist_append_right _ _ | apply List.Sublist.cons)))
theorem en_s_FindPathOfFour : Entry Tryz.prog 35 := ⟨_, Tryz.func35, by kernel_rfl, rfl⟩
theorem s_FindPathOfFour_c (size : Int) (gv : Value) (rows : List Int) (w : World) (hr : Arr w gv (ints rows)) :
    Gives Tryz.prog 35 #[.agg #[.int .i64 size, gv]] w (fun v objs => ∃ sv, v = .tuple #[sv, .bool (pathX size rows 4).isSome] ∧ objs = [.row 3 sv (ints ((pathX size rows 4).getD []))]) := by
  refine gives_enter (args := [_]) en_s_FindPathOfFour Tryz.func35 rfl Tryz.ntmps35 rfl ?_
  repeat' (first | apply pwp_seq | apply pwp_region | (apply px_run; (first | (apply opv_move; first | exact hid_bool rfl | rfl) | (apply opv_assign; first | exact hid_bool rfl | rfl) | (apply opv_load_str 0 st_G; rfl; rfl; rfl) | (apply opv_extract; rfl; rfl)); rfl; rfl) | apply px_nil | apply qseq_normal | apply pwp_ret | (apply px_box; rfl; rfl; rfl; rfl; intro bk) | (apply px_gives; rfl; rfl; rfl; rfl; rfl; exact fun w hw => s_FindInducedPath_c _ 4 _ rows _ (by first | exact hw.arr (by assumption)) (by omega); rintro _ _ ⟨sr, rfl, rfl⟩))
  refine qbody_ret2 rfl rfl rfl ⟨_, ⟨_, rfl, rfl⟩, fun w' h => ?_⟩
  exact Cl.sub (by assumption) (by repeat (first | exact List.Sublist.slnil | exact List.Sublist.refl _ | apply List.Sublist.cons_cons | exact List.sublist_append_left _ _ | exact List.sublist_append_right _ _ | apply List.Sublist.cons))
theorem en_s_IsCograph : Entry Tryz.prog 12 := ⟨_, Tryz.func12, by kernel_rfl, rfl⟩
theorem s_IsCograph_c (size : Int) (gv : Value) (rows : List Int) (w : World) (hr : Arr w gv (ints rows)) :
    Pure Tryz.prog 12 #[.agg #[.int .i64 size, gv]] w (.bool (decide (IsG size rows ∧ pathX size rows 4 = none))) := by
  refine pure_enter (args := [_]) en_s_IsCograph Tryz.func12 rfl Tryz.ntmps12 rfl ?_
  repeat' (first | apply pwp_seq | apply pwp_region | (apply px_run; (first | (apply opv_move; first | exact hid_bool rfl | rfl) | (apply opv_assign; first | exact hid_bool rfl | rfl) | (apply opv_pick_t <;> rfl) | (apply opv_pick_f <;> rfl) | (apply opv_not <;> rfl) | (apply opv_load_str 0 st_G; rfl; rfl; rfl) | (apply opv_load_str 1 st_G; rfl; rfl; rfl) | (apply opv_extract; rfl; rfl) | (apply opv_call; rfl; rfl; exact Cl.stable _ _ _; exact fun w hw => s_IsGraph_c _ _ rows _ (by first | exact hw.arr (by assumption)))); rfl; rfl) | apply px_nil | (apply px_skip; rfl; rfl) | apply qseq_normal | apply pwp_ret | (apply px_guard_dec; rfl; rfl; rfl; all_goals (intro hc; try (first | fail))) | (apply px_box; rfl; rfl; rfl; rfl; intro bk) | (apply px_gives; rfl; rfl; rfl; rfl; rfl; exact fun w hw => s_FindPathOfFour_c _ _ rows _ (by first | exact hw.arr (by assumption)); rintro _ _ ⟨sr, rfl, rfl⟩))
  all_goals (refine qbody_ret1 (v := .bool _) rfl rfl ⟨by cases h : pathX size rows 4 <;> simp_all, fun _ h => h.below⟩)
end Go.Proofs.YtdenkbephkfifaaGreat
