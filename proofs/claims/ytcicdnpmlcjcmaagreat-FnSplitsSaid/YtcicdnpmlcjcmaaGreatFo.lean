import Derived.Test.YtcicdnpmlcjcmaaGreatLd
import Derived.Test.YtcicdnpmlcjcmaaGreatSl
import Derived.Test.YtcicdnpmlcjcmaaGreatPwPfl
import Derived.Test.YtcicdnpmlcjcmaaGreatPwClos
import Derived.Test.YtcicdnpmlcjcmaaGreatPwPfo
/- Lists whose pairs are joined as told: holes, paths, two edges. -/
namespace Go.Proofs.YtcicdnpmlcjcmaaGreat
open Go Go.RowKit Go.Pw

theorem en_i_areJoined : Entry Tryz.prog 79 := ⟨_, Tryz.func79, by kernel_rfl, rfl⟩
set_option maxHeartbeats 800000 in
theorem i_areJoined_c (size : Int) (gv lv : Value) (rows l : List Int) (f : FuncId) (cs : List Value) (K : Nat → Nat → Bool) (w : World) (hr : Arr w gv (ints rows)) (hv : Arr w lv (ints l))
    (hp : ∀ (i k : Nat) w', i < k → k < l.length → Below w.heap.size w w' → Pure Tryz.prog f ([Value.int .i64 i, Value.int .i64 k] ++ cs).toArray w' (.bool (K i k))) :
    Pure Tryz.prog 79 #[.agg #[.int .i64 size, gv], lv, .func (.func f) #[] cs.toArray] w (.bool (decide (joinP size rows l K))) := by
  refine pure_enter (args := [_, _, _]) en_i_areJoined Tryz.func79 rfl Tryz.ntmps79 rfl ?_
  have hl := hv.len
  repeat' (first | apply pwp_seq | apply pwp_region | (apply px_run; (first | (apply opv_move; first | exact hid_int rfl | rfl) | (apply opv_assign; first | exact hid_bool rfl) | (apply opv_not_dec <;> rfl) | (apply opv_len_ints el_int; rfl; (first | exact rd_old (by assumption))) | (apply opv_load_str 0 st_G; rfl; rfl; rfl) | (apply opv_call; rfl; rfl; exact Cl.stable _ _ _; exact fun w hw => i_areVertices_c _ _ _ rows l _ (by first | exact hw.arr (by assumption)) (by first | exact hw.arr (by assumption)))); rfl; rfl) | apply px_nil | apply qseq_normal | apply qseq_ret | apply pwp_block | apply pwp_skip | apply pwp_ret | (apply pwp_cond_ndec; rfl; all_goals (intro hc; try (first | fail))) | (apply px_box; rfl; rfl; rfl; rfl; intro bk))
  all_goals try (refine qbody_ret1 (v := .bool _) rfl rfl ⟨ret_false rfl fun h => hc h.1, fun _ h => h.below⟩)
  have hd : distinctP size rows l := hc
  refine pwp_loop (τ := Nat) [(6,8), (15,41)] (fun k => [(15, .int .i64 (k : Int))]) (fun _ => Cl [] w [.blk bk [.int .i64 size, gv]]) (fun k => k ≤ l.length ∧ ∀ j, j < k → ∀ i, i < j → joinQ rows l K j i) (fun k => l.length - k) 0
    ⟨rfl, trivial⟩ ⟨Nat.zero_le _, fun v hv => by omega⟩ (fun _ h => h) (fun J k hk => ?_)
  obtain ⟨hk, hok⟩ := hk
  by_cases hlt : k < l.length
  · obtain ⟨ha1, ha2⟩ := distinct_at hd hlt
    repeat' (first | apply pwp_seq | apply pwp_region | (apply px_run; (first | (apply opv_move; first | exact hid_int rfl) | (apply opv_assign; first | exact hid_int rfl) | (apply opv_lss <;> rfl)); rfl; rfl) | apply px_nil | apply qseq_normal | apply pwp_block | apply pwp_skip | (apply pwp_cond_dec; rfl; all_goals (intro hc; try (first | (exfalso; omega)))))
    refine pwp_loop (τ := Nat) [(6,6), (8,8), (19,40)] (fun i => [(19, .int .i64 (i : Int))]) (fun _ => Cl [] w [.blk bk [.int .i64 size, gv]]) (fun i => i ≤ k ∧ ∀ j, j < i → joinQ rows l K k j) (fun i => k - i) 0
      ⟨rfl, trivial⟩ ⟨Nat.zero_le _, fun v hv => by omega⟩ (fun _ h => h) (fun J2 i hi => ?_)
    obtain ⟨hi, hsi⟩ := hi
    by_cases hli : i < k
    · obtain ⟨hb1, hb2⟩ := distinct_at hd (i := i) (by omega)
      repeat' (first | apply pwp_seq | apply pwp_region | (apply px_run; (first | (apply opv_move; first | exact hid_int rfl | rfl) | (apply opv_assign; first | exact hid_int rfl | exact hid_bool rfl) | (apply opv_lss <;> rfl) | (apply opv_add_in; rfl; rfl; omega) | (apply opv_field fld_G1; rfl) | (apply opv_load_blk 0; (first | with_reducible exact sc_int | with_reducible exact sc_ints); rfl; rfl; rfl) | (apply opv_load_ints sc_int; rfl; (first | exact rd_old (by assumption)); (first | omega)) | (apply opv_index_nat (vs := ints _) el_int; rfl; rfl; (first | exact rd_old (by assumption)); (first | (simp only [ints_length]; omega))) | (apply opv_index (vs := ints _) el_int; rfl; rfl; (first | exact rd_old (by assumption)); omega; (first | (simp only [ints_length]; omega))) | (apply opv_callx; rfl; rfl; exact Cl.stable _ _ _; exact fun w hw => hp i k w hli hlt hw.below) | (apply opv_call; rfl; rfl; exact Cl.stable _ _ _; exact fun w hw => i_has_c _ _ _ (by omega)) | (apply opv_neq_bool ty_bool <;> rfl)); rfl; rfl) | apply px_nil | apply qseq_normal | apply qseq_ret | apply pwp_block | apply qblock_normal | apply qblock_ret | apply pwp_skip | apply pwp_ret | apply qround_ret | (apply pwp_region_mix; kernel_rfl; decide +kernel; exact Cl.stable _ _ _) | (apply pwp_cond_dec; rfl; all_goals (intro hc; try (first | (exfalso; omega)))) | (apply pwp_cond_not; rfl; all_goals (intro hc; try (first | fail))))
      · refine qbody_ret1 (v := .bool _) rfl rfl ⟨ret_false rfl fun h => ?_, fun _ h => h.below⟩
        have := h.2 k hlt i hli
        unfold joinQ at this
        rw [this] at hc
        simp at hc
      · refine qround_normal ?_ ⟨i + 1, ⟨rfl, trivial⟩, ⟨by omega, fun x hx => ?_⟩, by omega, fun _ h => h⟩
        · repeat (first | exact same_refl | refine same_upd rfl ?_ | refine same_junk rfl ?_)
        · by_cases hvk : x < i
          · exact hsi x hvk
          · obtain rfl : x = i := by omega
            unfold joinQ
            simpa using hc
    · repeat' (first | apply pwp_seq | apply pwp_region | (apply px_run; (first | (apply opv_move; first | exact hid_int rfl) | (apply opv_lss <;> rfl) | (apply opv_add_in; rfl; rfl; omega)); rfl; rfl) | apply px_nil | apply qseq_normal | apply qseq_exit | apply qblock_normal | (apply qblock_exit_same; rfl) | apply pwp_exit | apply qround_exit | (apply pwp_cond_dec; rfl; all_goals (intro hc; try (first | (exfalso; omega)))))
      refine qround_normal ?_ ⟨k + 1, ⟨rfl, trivial⟩, ⟨by omega, fun x hx => ?_⟩, by omega, fun _ h => h⟩
      · repeat (first | exact same_refl | refine same_upd rfl ?_ | refine same_junk rfl ?_)
      · by_cases hvk : x < k
        · exact hok x hvk
        · obtain rfl : x = k := by omega
          exact fun y hy => hsi y (by omega)
  · repeat' (first | apply pwp_seq | apply pwp_region | (apply px_run; (first | (apply opv_assign; first | exact hid_bool rfl) | (apply opv_lss <;> rfl)); rfl; rfl) | apply px_nil | apply qseq_normal | apply qseq_exit | (apply qblock_exit_same; rfl) | apply pwp_exit | apply pwp_ret | apply qround_exit | (apply pwp_cond_dec; rfl; all_goals (intro hc; try (first | (exfalso; omega)))))
    refine qbody_ret1 (v := .bool _) rfl rfl ⟨ret_true rfl ⟨hd, fun v hv => hok v (by omega)⟩, fun _ h => h.below⟩
theorem en_i_IsHole_1 : Entry Tryz.prog 81 := ⟨_, Tryz.func81, by kernel_rfl, rfl⟩
theorem i_IsHole_1_c (i k b : Nat) (lv : Value) (l : List Int) (w : World) (hb : Bk w b [lv]) (hv : Arr w lv (ints l)) (hik : i < k) (hk : k < l.length) :
    Pure Tryz.prog 81 #[.int .i64 i, .int .i64 k, .pointer (some ⟨b, 0, none⟩)] w (.bool (holeJ l.length i k)) := by
  refine pure_enter (args := [_, _, _]) en_i_IsHole_1 Tryz.func81 rfl Tryz.ntmps81 rfl ?_
  have hl := hv.len
  unfold holeJ
  repeat' (first | apply pwp_seq | apply pwp_region | (apply px_run; (first | (apply opv_move; first | exact hid_int rfl | exact hid_bool rfl | rfl) | (apply opv_assign; first | exact hid_bool rfl) | (apply opv_eql <;> rfl) | (apply opv_pick_t <;> rfl) | (apply opv_pick_f <;> rfl) | (apply opv_add_in; rfl; rfl; omega) | (apply opv_sub_in; rfl; rfl; omega) | (apply opv_len_ints el_int; rfl; (first | exact rd_old (by assumption))) | (apply opv_load_old; (first | with_reducible exact sc_ints); rfl; assumption; rfl)); rfl; rfl) | apply px_nil | (apply px_skip; rfl; rfl) | apply qseq_normal | apply pwp_ret | (apply px_guard_dec; rfl; rfl; rfl; all_goals (intro hc; try (first | fail))))
  all_goals (refine qbody_ret1 (v := .bool _) rfl rfl ⟨by first | exact ret_true rfl (by omega) | exact ret_false rfl (by omega) | exact ret_iff (by omega), fun _ h => h.below⟩)
theorem en_i_IsHole : Entry Tryz.prog 44 := ⟨_, Tryz.func44, by kernel_rfl, rfl⟩
theorem i_IsHole_c (size : Int) (gv lv : Value) (rows l : List Int) (w : World) (hr : Arr w gv (ints rows)) (hv : Arr w lv (ints l)) :
    Pure Tryz.prog 44 #[.agg #[.int .i64 size, gv], lv] w (.bool (decide (holeP size rows l))) := by
  refine pure_enter (args := [_, _]) en_i_IsHole Tryz.func44 rfl Tryz.ntmps44 rfl ?_
  have hl := hv.len
  repeat' (first | apply pwp_seq | apply pwp_region | (apply px_run; (first | (apply opv_move; first | exact hid_bool rfl) | (apply opv_assign; first | exact hid_bool rfl) | (apply opv_geq <;> rfl) | (apply opv_pick_t <;> rfl) | (apply opv_pick_f <;> rfl) | (apply opv_load_blk 0; (first | with_reducible exact sc_ints); rfl; rfl; rfl) | (apply opv_len_ints el_int; rfl; (first | exact rd_old (by assumption))) | (apply opv_load_str 1 st_G; rfl; rfl; rfl) | (apply opv_make_func; rfl) | (apply opv_call; rfl; rfl; exact Cl.stable _ _ _; exact fun w hw => i_areJoined_c _ _ _ rows l 81 _ (holeJ l.length) _ (by first | exact hw.arr (by assumption)) (by first | exact hw.arr (by assumption)) (fun i k w' h1 h2 h3 => i_IsHole_1_c i k _ lv l w' ((hw.bk (k := 0) rfl).below h3) ((hw.arr hv).below h3) h1 h2))); rfl; rfl) | apply px_nil | (apply px_skip; rfl; rfl) | apply qseq_normal | apply pwp_ret | (apply px_guard_dec; rfl; rfl; rfl; all_goals (intro hc; try (first | fail))) | (apply px_box; rfl; rfl; rfl; rfl; intro bk) | (apply px_box1; rfl; (intro w hw; (first | exact stor_arr (by assumption))); rfl; rfl; rfl; intro bk))
  · refine qbody_ret1 (v := .bool (decide _)) rfl rfl ⟨ret_iff ⟨fun h => ⟨by omega, h⟩, fun h => h.2⟩, fun _ h => h.below⟩
  · refine qbody_ret1 (v := .bool _) rfl rfl ⟨ret_false rfl fun h => hc (by have := h.1; omega), fun _ h => h.below⟩
theorem en_s_IsHole : Entry Tryz.prog 59 := ⟨_, Tryz.func59, by kernel_rfl, rfl⟩
set_option maxHeartbeats 800000 in
theorem s_IsHole_c (size : Int) (gv lv : Value) (rows l : List Int) (w : World) (hr : Arr w gv (ints rows)) (hv : Arr w lv (ints l)) :
    Pure Tryz.prog 59 #[.agg #[.int .i64 size, gv], lv] w (.bool (decide (holeP size rows l))) := by
  refine pure_enter (args := [_, _]) en_s_IsHole Tryz.func59 rfl Tryz.ntmps59 rfl ?_
  have hl := hv.len
  repeat' (first | apply pwp_seq | apply pwp_region | (apply px_run; (first | (apply opv_move; first | exact hid_bool rfl | rfl) | (apply opv_assign; first | exact hid_int rfl | exact hid_bool rfl) | (apply opv_lss <;> rfl) | (apply opv_pick_t <;> rfl) | (apply opv_pick_f <;> rfl) | (apply opv_not_dec <;> rfl) | (apply opv_len_ints el_int; rfl; (first | exact rd_old (by assumption))) | (apply opv_load_str 0 st_G; rfl; rfl; rfl) | (apply opv_call; rfl; rfl; exact Cl.stable _ _ _; exact fun w hw => s_l4Distinct_c _ _ _ rows l _ (by first | exact hw.arr (by assumption)) (by first | exact hw.arr (by assumption)))); rfl; rfl) | apply px_nil | (apply px_skip; rfl; rfl) | apply qseq_normal | apply qseq_ret | apply pwp_block | apply pwp_skip | apply pwp_ret | (apply pwp_cond_t; rfl) | (apply px_guard_ndec; rfl; rfl; rfl; all_goals (intro hc; try (first | fail))) | (apply pwp_cond_dec; rfl; all_goals (intro hc; try (first | fail))) | (apply px_box; rfl; rfl; rfl; rfl; intro bk))
  all_goals try (refine qbody_ret1 (v := .bool _) rfl rfl ⟨ret_false rfl fun h => hc h.2.1, fun _ h => h.below⟩)
  all_goals try (refine qbody_ret1 (v := .bool _) rfl rfl ⟨ret_false rfl fun h => ?_, fun _ h => h.below⟩; have q := h.1; omega)
  have hd : distinctP size rows l := by assumption
  refine pwp_loop (τ := Nat) [(4,6), (16,52)] (fun k => [(5, .int .i64 (k : Int))]) (fun _ => Cl [] w [.blk bk [.int .i64 size, gv]]) (fun k => k ≤ l.length ∧ ∀ j, j < k → ∀ i, i < j → joinQ rows l (holeJ l.length) j i) (fun k => l.length - k) 0
    ⟨rfl, trivial⟩ ⟨Nat.zero_le _, fun v hv => by omega⟩ (fun _ h => h) (fun J k hk => ?_)
  obtain ⟨hk, hok⟩ := hk
  by_cases hlt : k < l.length
  · obtain ⟨ha1, ha2⟩ := distinct_at hd hlt
    repeat' (first | apply pwp_seq | apply pwp_region | (apply px_run; (first | (apply opv_move; first | exact hid_int rfl | rfl) | (apply opv_assign; first | exact hid_int rfl) | (apply opv_lss <;> rfl) | (apply opv_len_ints el_int; rfl; (first | exact rd_old (by assumption)))); rfl; rfl) | apply px_nil | apply qseq_normal | apply pwp_block | apply pwp_skip | (apply pwp_cond_dec; rfl; all_goals (intro hc; try (first | (exfalso; omega)))))
    refine pwp_loop (τ := Nat) [(4,4), (6,6), (22,52)] (fun i => [(6, .int .i64 (i : Int))]) (fun _ => Cl [] w [.blk bk [.int .i64 size, gv]]) (fun i => i ≤ k ∧ ∀ j, j < i → joinQ rows l (holeJ l.length) k j) (fun i => k - i) 0
      ⟨rfl, trivial⟩ ⟨Nat.zero_le _, fun v hv => by omega⟩ (fun _ h => h) (fun J2 i hi => ?_)
    obtain ⟨hi, hsi⟩ := hi
    by_cases hli : i < k
    · obtain ⟨hb1, hb2⟩ := distinct_at hd (i := i) (by omega)
      have he := edge_l hd (i := i) (k := k) (by omega) hlt
      have hq : joinQ rows l (holeJ l.length) k i ↔ hasB (rows.getD (l.getD k 0).toNat 0) (l.getD i 0) = decide (k = i + 1 ∨ (i = 0 ∧ k + 1 = l.length)) := by unfold joinQ holeJ; rw [he]
      repeat' (first | apply pwp_seq | apply pwp_region | (apply px_run; (first | (apply opv_move; first | exact hid_int rfl | exact hid_bool rfl | rfl) | (apply opv_assign; first | exact hid_int rfl | exact hid_bool rfl) | (apply opv_lss <;> rfl) | (apply opv_eql <;> rfl) | (apply opv_pick_t <;> rfl) | (apply opv_pick_f <;> rfl) | (apply opv_add_in; rfl; rfl; omega) | (apply opv_sub_in; rfl; rfl; omega) | (apply opv_load_ints sc_int; rfl; (first | exact rd_old (by assumption)); (first | omega)) | (apply opv_index_nat (vs := ints _) el_int; rfl; rfl; (first | exact rd_old (by assumption)); (first | (simp only [ints_length]; omega))) | (apply opv_len_ints el_int; rfl; (first | exact rd_old (by assumption))) | (apply opv_load_str 0 st_G; rfl; rfl; rfl) | (apply opv_call; rfl; rfl; exact Cl.stable _ _ _; exact fun w hw => s_l2Edge_c _ _ rows _ _ _ (by first | exact hw.arr (by assumption)) (by omega) (by omega)) | (apply opv_neq_bool ty_bool <;> rfl)); rfl; rfl) | apply px_nil | (apply px_skip; rfl; rfl) | apply qseq_normal | apply qseq_ret | apply pwp_block | apply qblock_normal | apply qblock_ret | apply pwp_skip | apply pwp_ret | apply qround_ret | (apply pwp_region_draw; kernel_rfl; kernel_rfl; exact Cl.stable _ _ _) | (apply px_guard_dec; rfl; rfl; rfl; all_goals (intro hc; try (first | fail))) | (apply pwp_cond_dec; rfl; all_goals (intro hc; try (first | (exfalso; omega)))) | (apply pwp_cond_not; rfl; all_goals (intro hc; try (first | fail))))
      all_goals first
        | (refine qbody_ret1 (v := .bool _) rfl rfl ⟨ret_false rfl fun h => ?_, fun _ h => h.below⟩
           have := hq.1 (h.2.2 k hlt i hli)
           rw [this] at hc
           first | (simp at hc; done) | (simp at hc; omega) | (simp only [beq_eq_false_iff_ne, bne_iff_ne, ne_eq, decide_eq_decide] at hc; omega))
        | (refine qround_normal ?_ ⟨i + 1, ⟨rfl, trivial⟩, ⟨by omega, fun x hx => ?_⟩, by omega, fun _ h => h⟩
           · repeat (first | exact same_refl | refine same_upd rfl ?_ | refine same_junk rfl ?_)
           · by_cases hvk : x < i
             · exact hsi x hvk
             · obtain rfl : x = i := by omega
               first | rw [hq, bne_eq_false_iff_eq.1 hc] | rw [hq, eq_of_beq hc]
               first | (symm; exact decide_eq_true (by omega)) | (symm; exact decide_eq_false (by omega)) | exact decide_eq_decide.2 (by omega))
    · repeat' (first | apply pwp_seq | apply pwp_region | (apply px_run; (first | (apply opv_move; first | exact hid_int rfl) | (apply opv_assign; first | exact hid_int rfl) | (apply opv_lss <;> rfl) | (apply opv_add_in; rfl; rfl; omega)); rfl; rfl) | apply px_nil | apply qseq_normal | apply qseq_exit | apply qblock_normal | (apply qblock_exit_same; rfl) | apply pwp_exit | apply qround_exit | (apply pwp_cond_dec; rfl; all_goals (intro hc; try (first | (exfalso; omega)))))
      refine qround_normal ?_ ⟨k + 1, ⟨rfl, trivial⟩, ⟨by omega, fun x hx => ?_⟩, by omega, fun _ h => h⟩
      · repeat (first | exact same_refl | refine same_upd rfl ?_ | refine same_junk rfl ?_)
      · by_cases hvk : x < k
        · exact hok x hvk
        · obtain rfl : x = k := by omega
          exact fun y hy => hsi y (by omega)
  · repeat' (first | apply pwp_seq | apply pwp_region | (apply px_run; (first | (apply opv_move; first | exact hid_int rfl | rfl) | (apply opv_assign; first | exact hid_bool rfl) | (apply opv_lss <;> rfl) | (apply opv_len_ints el_int; rfl; (first | exact rd_old (by assumption)))); rfl; rfl) | apply px_nil | apply qseq_normal | apply qseq_exit | (apply qblock_exit_same; rfl) | apply pwp_exit | apply pwp_ret | apply qround_exit | (apply pwp_cond_dec; rfl; all_goals (intro hc; try (first | (exfalso; omega)))))
    refine qbody_ret1 (v := .bool _) rfl rfl ⟨ret_true rfl ⟨by omega, hd, fun v hv => hok v (by omega)⟩, fun _ h => h.below⟩
theorem en_i_IsTwoEdges_1 : Entry Tryz.prog 80 := ⟨_, Tryz.func80, by kernel_rfl, rfl⟩
theorem i_IsTwoEdges_1_c (i k : Nat) (w : World) : Pure Tryz.prog 80 #[.int .i64 i, .int .i64 k] w (.bool (twoJ i k)) := by
  refine pure_enter (args := [_, _]) en_i_IsTwoEdges_1 Tryz.func80 rfl Tryz.ntmps80 rfl ?_
  unfold twoJ
  repeat' (first | apply pwp_seq | apply pwp_region | (apply px_run; (first | (apply opv_move; first | exact hid_int rfl | exact hid_bool rfl | rfl) | (apply opv_assign; first | exact hid_bool rfl) | (apply opv_eql <;> rfl) | (apply opv_pick_t <;> rfl) | (apply opv_pick_f <;> rfl)); rfl; rfl) | apply px_nil | (apply px_skip; rfl; rfl) | apply qseq_normal | apply pwp_ret | (apply px_guard_dec; rfl; rfl; rfl; all_goals (intro hc; try (first | (exfalso; omega)))))
  all_goals (refine qbody_ret1 (v := .bool _) rfl rfl ⟨by first | exact ret_true rfl (by omega) | exact ret_false rfl (by omega) | exact ret_iff (by omega), fun _ h => h.below⟩)
theorem en_i_IsTwoEdges : Entry Tryz.prog 43 := ⟨_, Tryz.func43, by kernel_rfl, rfl⟩
theorem i_IsTwoEdges_c (size : Int) (gv lv : Value) (rows l : List Int) (w : World) (hr : Arr w gv (ints rows)) (hv : Arr w lv (ints l)) :
    Pure Tryz.prog 43 #[.agg #[.int .i64 size, gv], lv] w (.bool (decide (twoP size rows l))) := by
  refine pure_enter (args := [_, _]) en_i_IsTwoEdges Tryz.func43 rfl Tryz.ntmps43 rfl ?_
  have hl := hv.len
  repeat' (first | apply pwp_seq | apply pwp_region | (apply px_run; (first | (apply opv_move; first | exact hid_bool rfl | rfl) | (apply opv_assign; first | exact hid_bool rfl) | (apply opv_eql <;> rfl) | (apply opv_pick_t <;> rfl) | (apply opv_pick_f <;> rfl) | (apply opv_len_ints el_int; rfl; (first | exact rd_old (by assumption))) | (apply opv_load_str 0 st_G; rfl; rfl; rfl) | (apply opv_call; rfl; rfl; exact Cl.stable _ _ _; exact fun w hw => i_areJoined_c _ _ _ rows l 80 [] twoJ _ (by first | exact hw.arr (by assumption)) (by first | exact hw.arr (by assumption)) (fun i k w' h1 h2 h3 => i_IsTwoEdges_1_c i k w'))); rfl; rfl) | apply px_nil | (apply px_skip; rfl; rfl) | apply qseq_normal | apply pwp_ret | (apply px_guard_dec; rfl; rfl; rfl; all_goals (intro hc; try (first | fail))) | (apply px_box; rfl; rfl; rfl; rfl; intro bk))
  · refine qbody_ret1 (v := .bool (decide _)) rfl rfl ⟨ret_iff ⟨fun h => ⟨by omega, h⟩, fun h => h.2⟩, fun _ h => h.below⟩
  · refine qbody_ret1 (v := .bool _) rfl rfl ⟨ret_false rfl fun h => hc (by have := h.1; omega), fun _ h => h.below⟩
theorem en_s_IsTwoEdges : Entry Tryz.prog 58 := ⟨_, Tryz.func58, by kernel_rfl, rfl⟩
set_option maxHeartbeats 1600000 in
theorem s_IsTwoEdges_c (size : Int) (gv lv : Value) (rows l : List Int) (w : World) (hr : Arr w gv (ints rows)) (hv : Arr w lv (ints l)) :
    Pure Tryz.prog 58 #[.agg #[.int .i64 size, gv], lv] w (.bool (decide (twoP size rows l))) := by
  refine pure_enter (args := [_, _]) en_s_IsTwoEdges Tryz.func58 rfl Tryz.ntmps58 rfl ?_
  have hl := hv.len
  by_cases hd : l.length = 4 ∧ distinctP size rows l
  · obtain ⟨h4, hd⟩ := hd
    obtain ⟨a1, a2⟩ := distinct_at hd (i := 0) (by omega)
    obtain ⟨b1, b2⟩ := distinct_at hd (i := 1) (by omega)
    obtain ⟨c1, c2⟩ := distinct_at hd (i := 2) (by omega)
    obtain ⟨d1, d2⟩ := distinct_at hd (i := 3) (by omega)
    have hiff := two_iff h4 hd
    repeat' (first | apply pwp_seq | apply pwp_region | (apply px_run; (first | (apply opv_move; first | exact hid_bool rfl | rfl) | (apply opv_assign; first | exact hid_bool rfl) | (apply opv_eql <;> rfl) | (apply opv_pick_t <;> rfl) | (apply opv_pick_f <;> rfl) | (apply opv_not <;> rfl) | (apply opv_load_ints sc_int; rfl; (first | exact rd_old (by assumption)); (first | omega)) | (apply opv_index_nat (k := 0) (vs := ints _) el_int; rfl; rfl; (first | exact rd_old (by assumption)); (first | (simp only [ints_length]; first | omega))) | (apply opv_index_nat (k := 1) (vs := ints _) el_int; rfl; rfl; (first | exact rd_old (by assumption)); (first | (simp only [ints_length]; first | omega))) | (apply opv_index_nat (k := 2) (vs := ints _) el_int; rfl; rfl; (first | exact rd_old (by assumption)); (first | (simp only [ints_length]; first | omega))) | (apply opv_index_nat (k := 3) (vs := ints _) el_int; rfl; rfl; (first | exact rd_old (by assumption)); (first | (simp only [ints_length]; first | omega))) | (apply opv_len_ints el_int; rfl; (first | exact rd_old (by assumption))) | (apply opv_load_str 0 st_G; rfl; rfl; rfl) | (apply opv_call; rfl; rfl; exact Cl.stable _ _ _; exact fun w hw => s_l4Distinct_c _ _ _ rows l _ (by first | exact hw.arr (by assumption)) (by first | exact hw.arr (by assumption))) | (apply opv_call; rfl; rfl; exact Cl.stable _ _ _; exact fun w hw => s_l2Edge_c _ _ rows _ _ _ (by first | exact hw.arr (by assumption)) (by omega) (by omega))); rfl; rfl) | apply px_nil | (apply px_skip; rfl; rfl) | apply qseq_normal | apply pwp_ret | (apply pwp_region_draw; kernel_rfl; kernel_rfl; exact Cl.stable _ _ _) | (apply px_guard_dec; rfl; rfl; rfl; all_goals (intro hc; try (first | contradiction | (exfalso; omega)))) | (apply px_guard_not; rfl; rfl; rfl; all_goals (intro hc; try (first | fail))) | (apply px_guard; rfl; rfl; rfl; all_goals (intro hc; (first | (fail_if_success (cases hc); try (first | fail))))) | (apply px_box; rfl; rfl; rfl; rfl; intro bk))
    all_goals first
      | (refine qbody_ret1 (v := .bool _) rfl rfl ⟨ret_false rfl fun h => ?_, fun _ h => h.below⟩
         have h' := hiff.1 h
         simp [h'.1, h'.2.1, h'.2.2.1, h'.2.2.2.1, h'.2.2.2.2.1, h'.2.2.2.2.2] at hc; done)
      | (refine qbody_ret1 (v := .bool _) rfl rfl ⟨?_, fun _ h => h.below⟩
         congr 1
         rw [Bool.eq_iff_iff, decide_eq_true_eq, hiff]
         simp_all)
  · repeat' (first | apply pwp_seq | apply pwp_region | (apply px_run; (first | (apply opv_move; first | exact hid_bool rfl | rfl) | (apply opv_assign; first | exact hid_bool rfl) | (apply opv_eql <;> rfl) | (apply opv_pick_t <;> rfl) | (apply opv_pick_f <;> rfl) | (apply opv_load_ints sc_int; rfl; (first | exact rd_old (by assumption)); (first | omega)) | (apply opv_index_nat (k := 0) (vs := ints _) el_int; rfl; rfl; (first | exact rd_old (by assumption)); (first | (simp only [ints_length]; first | omega))) | (apply opv_index_nat (k := 1) (vs := ints _) el_int; rfl; rfl; (first | exact rd_old (by assumption)); (first | (simp only [ints_length]; first | omega))) | (apply opv_len_ints el_int; rfl; (first | exact rd_old (by assumption))) | (apply opv_load_str 0 st_G; rfl; rfl; rfl) | (apply opv_call; rfl; rfl; exact Cl.stable _ _ _; exact fun w hw => s_l4Distinct_c _ _ _ rows l _ (by first | exact hw.arr (by assumption)) (by first | exact hw.arr (by assumption)))); rfl; rfl) | apply px_nil | (apply px_skip; rfl; rfl) | apply qseq_normal | apply pwp_ret | (apply pwp_region_draw; kernel_rfl; kernel_rfl; exact Cl.stable _ _ _) | (apply px_guard_dec; rfl; rfl; rfl; all_goals (intro hc; try (first | fail))) | (apply px_box; rfl; rfl; rfl; rfl; intro bk))
    all_goals first
      | exact (hd ⟨by omega, by assumption⟩).elim
      | (refine qbody_ret1 (v := .bool _) rfl rfl ⟨ret_false rfl fun h => hd ⟨h.1, h.2.1⟩, fun _ h => h.below⟩)
theorem en_i_IsSplitObstacle : Entry Tryz.prog 17 := ⟨_, Tryz.func17, by kernel_rfl, rfl⟩
theorem i_IsSplitObstacle_c (size : Int) (gv lv : Value) (rows l : List Int) (w : World) (hr : Arr w gv (ints rows)) (hv : Arr w lv (ints l)) :
    Pure Tryz.prog 17 #[.agg #[.int .i64 size, gv], lv] w (.bool (decide (splitObsP size rows l))) := by
  refine pure_enter (args := [_, _]) en_i_IsSplitObstacle Tryz.func17 rfl Tryz.ntmps17 rfl ?_
  have hl := hv.len
  repeat' (first | apply pwp_seq | apply pwp_region | (apply px_run; (first | (apply opv_move; first | exact hid_bool rfl | rfl) | (apply opv_assign; first | exact hid_bool rfl) | (apply opv_leq <;> rfl) | (apply opv_pick_t <;> rfl) | (apply opv_pick_f <;> rfl) | (apply opv_len_ints el_int; rfl; (first | exact rd_old (by assumption))) | (apply opv_load_str 0 st_G; rfl; rfl; rfl) | (apply opv_call; rfl; rfl; exact Cl.stable _ _ _; exact fun w hw => i_IsTwoEdges_c _ _ _ rows l _ (by first | exact hw.arr (by assumption)) (by first | exact hw.arr (by assumption))) | (apply opv_call; rfl; rfl; exact Cl.stable _ _ _; exact fun w hw => i_IsHole_c _ _ _ rows l _ (by first | exact hw.arr (by assumption)) (by first | exact hw.arr (by assumption)))); rfl; rfl) | apply px_nil | (apply px_skip; rfl; rfl) | apply qseq_normal | apply pwp_ret | (apply px_guard_dec; rfl; rfl; rfl; all_goals (intro hc; try (first | fail))) | (apply px_box; rfl; rfl; rfl; rfl; intro bk))
  · refine qbody_ret1 (v := .bool _) rfl rfl ⟨ret_true rfl (.inl hc), fun _ h => h.below⟩
  · refine qbody_ret1 (v := .bool (decide _)) rfl rfl ⟨ret_iff ⟨fun h => .inr ⟨by omega, h⟩, fun h => by rcases h with h | h; exact absurd h (by assumption); exact h.2⟩, fun _ h => h.below⟩
  · refine qbody_ret1 (v := .bool _) rfl rfl ⟨ret_false rfl fun h => by rcases h with h | h; exact absurd h (by assumption); have := h.1; omega, fun _ h => h.below⟩
theorem en_s_IsSplitObstacle : Entry Tryz.prog 26 := ⟨_, Tryz.func26, by kernel_rfl, rfl⟩
theorem s_IsSplitObstacle_c (size : Int) (gv lv : Value) (rows l : List Int) (w : World) (hr : Arr w gv (ints rows)) (hv : Arr w lv (ints l)) :
    Pure Tryz.prog 26 #[.agg #[.int .i64 size, gv], lv] w (.bool (decide (splitObsP size rows l))) := by
  refine pure_enter (args := [_, _]) en_s_IsSplitObstacle Tryz.func26 rfl Tryz.ntmps26 rfl ?_
  have hl := hv.len
  repeat' (first | apply pwp_seq | apply pwp_region | (apply px_run; (first | (apply opv_move; first | exact hid_bool rfl | rfl) | (apply opv_assign; first | exact hid_bool rfl) | (apply opv_leq <;> rfl) | (apply opv_pick_t <;> rfl) | (apply opv_pick_f <;> rfl) | (apply opv_len_ints el_int; rfl; (first | exact rd_old (by assumption))) | (apply opv_load_str 0 st_G; rfl; rfl; rfl) | (apply opv_call; rfl; rfl; exact Cl.stable _ _ _; exact fun w hw => s_IsTwoEdges_c _ _ _ rows l _ (by first | exact hw.arr (by assumption)) (by first | exact hw.arr (by assumption))) | (apply opv_call; rfl; rfl; exact Cl.stable _ _ _; exact fun w hw => s_IsHole_c _ _ _ rows l _ (by first | exact hw.arr (by assumption)) (by first | exact hw.arr (by assumption)))); rfl; rfl) | apply px_nil | (apply px_skip; rfl; rfl) | apply qseq_normal | apply pwp_ret | (apply px_guard_dec; rfl; rfl; rfl; all_goals (intro hc; try (first | fail))) | (apply px_box; rfl; rfl; rfl; rfl; intro bk))
  · refine qbody_ret1 (v := .bool _) rfl rfl ⟨ret_true rfl (.inl hc), fun _ h => h.below⟩
  · refine qbody_ret1 (v := .bool (decide _)) rfl rfl ⟨ret_iff ⟨fun h => .inr ⟨by omega, h⟩, fun h => by rcases h with h | h; exact absurd h (by assumption); exact h.2⟩, fun _ h => h.below⟩
  · refine qbody_ret1 (v := .bool _) rfl rfl ⟨ret_false rfl fun h => by rcases h with h | h; exact absurd h (by assumption); have := h.1; omega, fun _ h => h.below⟩
theorem en_i_IsInducedPath_1 : Entry Tryz.prog 97 := ⟨_, Tryz.func97, by kernel_rfl, rfl⟩
theorem i_IsInducedPath_1_c (i k : Nat) (w : World) (hi : (i : Int) ≤ 9223372036854775806) : Pure Tryz.prog 97 #[.int .i64 i, .int .i64 k] w (.bool (pathJ i k)) := by
  refine pure_enter (args := [_, _]) en_i_IsInducedPath_1 Tryz.func97 rfl Tryz.ntmps97 rfl ?_
  unfold pathJ
  repeat' (first | apply pwp_seq | apply pwp_region | (apply px_run; (first | (apply opv_move; first | exact hid_int rfl) | (apply opv_assign; first | exact hid_bool rfl) | (apply opv_eql <;> rfl) | (apply opv_add_in; rfl; rfl; omega)); rfl; rfl) | apply px_nil | apply qseq_normal | apply pwp_ret)
  all_goals (refine qbody_ret1 (v := .bool _) rfl rfl ⟨by first | exact ret_true rfl (by omega) | exact ret_false rfl (by omega) | exact ret_iff (by omega), fun _ h => h.below⟩)
theorem en_i_IsInducedPath : Entry Tryz.prog 69 := ⟨_, Tryz.func69, by kernel_rfl, rfl⟩
theorem i_IsInducedPath_c (size : Int) (gv lv : Value) (rows l : List Int) (w : World) (hr : Arr w gv (ints rows)) (hv : Arr w lv (ints l)) :
    Pure Tryz.prog 69 #[.agg #[.int .i64 size, gv], lv] w (.bool (decide (pathP size rows l))) := by
  refine pure_enter (args := [_, _]) en_i_IsInducedPath Tryz.func69 rfl Tryz.ntmps69 rfl ?_
  have hl := hv.len
  repeat' (first | apply pwp_seq | apply pwp_region | (apply px_run; (first | (apply opv_move; first | exact hid_bool rfl | rfl) | (apply opv_assign; first | exact hid_bool rfl) | (apply opv_gtr <;> rfl) | (apply opv_pick_t <;> rfl) | (apply opv_pick_f <;> rfl) | (apply opv_len_ints el_int; rfl; (first | exact rd_old (by assumption))) | (apply opv_load_str 0 st_G; rfl; rfl; rfl) | (apply opv_call; rfl; rfl; exact Cl.stable _ _ _; exact fun w hw => i_areJoined_c _ _ _ rows l 97 [] pathJ _ (by first | exact hw.arr (by assumption)) (by first | exact hw.arr (by assumption)) (fun i k w' h1 h2 h3 => i_IsInducedPath_1_c i k w' (by omega)))); rfl; rfl) | apply px_nil | (apply px_skip; rfl; rfl) | apply qseq_normal | apply pwp_ret | (apply px_guard_dec; rfl; rfl; rfl; all_goals (intro hc; try (first | fail))) | (apply px_box; rfl; rfl; rfl; rfl; intro bk))
  · refine qbody_ret1 (v := .bool (decide _)) rfl rfl ⟨ret_iff ⟨fun h => ⟨by omega, h⟩, fun h => h.2⟩, fun _ h => h.below⟩
  · refine qbody_ret1 (v := .bool _) rfl rfl ⟨ret_false rfl fun h => hc (by have := h.1; omega), fun _ h => h.below⟩
theorem en_s_IsInducedPath : Entry Tryz.prog 99 := ⟨_, Tryz.func99, by kernel_rfl, rfl⟩
set_option maxHeartbeats 800000 in
theorem s_IsInducedPath_c (size : Int) (gv lv : Value) (rows l : List Int) (w : World) (hr : Arr w gv (ints rows)) (hv : Arr w lv (ints l)) :
    Pure Tryz.prog 99 #[.agg #[.int .i64 size, gv], lv] w (.bool (decide (pathP size rows l))) := by
  refine pure_enter (args := [_, _]) en_s_IsInducedPath Tryz.func99 rfl Tryz.ntmps99 rfl ?_
  have hl := hv.len
  repeat' (first | apply pwp_seq | apply pwp_region | (apply px_run; (first | (apply opv_move; first | exact hid_bool rfl | rfl) | (apply opv_assign; first | exact hid_int rfl | exact hid_bool rfl) | (apply opv_eql <;> rfl) | (apply opv_pick_t <;> rfl) | (apply opv_pick_f <;> rfl) | (apply opv_not_dec <;> rfl) | (apply opv_len_ints el_int; rfl; (first | exact rd_old (by assumption))) | (apply opv_load_str 0 st_G; rfl; rfl; rfl) | (apply opv_call; rfl; rfl; exact Cl.stable _ _ _; exact fun w hw => s_l4Distinct_c _ _ _ rows l _ (by first | exact hw.arr (by assumption)) (by first | exact hw.arr (by assumption)))); rfl; rfl) | apply px_nil | (apply px_skip; rfl; rfl) | apply qseq_normal | apply qseq_ret | apply pwp_block | apply pwp_skip | apply pwp_ret | (apply pwp_cond_t; rfl) | (apply px_guard_ndec; rfl; rfl; rfl; all_goals (intro hc; try (first | fail))) | (apply pwp_cond_dec; rfl; all_goals (intro hc; try (first | fail))) | (apply px_box; rfl; rfl; rfl; rfl; intro bk))
  all_goals try (refine qbody_ret1 (v := .bool _) rfl rfl ⟨ret_false rfl fun h => hc h.2.1, fun _ h => h.below⟩)
  all_goals try (refine qbody_ret1 (v := .bool _) rfl rfl ⟨ret_false rfl fun h => ?_, fun _ h => h.below⟩; have q := h.1; omega)
  have hd : distinctP size rows l := by assumption
  refine pwp_loop (τ := Nat) [(4,6), (16,41)] (fun k => [(5, .int .i64 (k : Int))]) (fun _ => Cl [] w [.blk bk [.int .i64 size, gv]]) (fun k => k ≤ l.length ∧ ∀ j, j < k → ∀ i, i < j → joinQ rows l pathJ j i) (fun k => l.length - k) 0
    ⟨rfl, trivial⟩ ⟨Nat.zero_le _, fun v hv => by omega⟩ (fun _ h => h) (fun J k hk => ?_)
  obtain ⟨hk, hok⟩ := hk
  by_cases hlt : k < l.length
  · obtain ⟨ha1, ha2⟩ := distinct_at hd hlt
    repeat' (first | apply pwp_seq | apply pwp_region | (apply px_run; (first | (apply opv_move; first | exact hid_int rfl | rfl) | (apply opv_assign; first | exact hid_int rfl) | (apply opv_lss <;> rfl) | (apply opv_len_ints el_int; rfl; (first | exact rd_old (by assumption)))); rfl; rfl) | apply px_nil | apply qseq_normal | apply pwp_block | apply pwp_skip | (apply pwp_cond_dec; rfl; all_goals (intro hc; try (first | (exfalso; omega)))))
    refine pwp_loop (τ := Nat) [(4,4), (6,6), (22,41)] (fun i => [(6, .int .i64 (i : Int))]) (fun _ => Cl [] w [.blk bk [.int .i64 size, gv]]) (fun i => i ≤ k ∧ ∀ j, j < i → joinQ rows l pathJ k j) (fun i => k - i) 0
      ⟨rfl, trivial⟩ ⟨Nat.zero_le _, fun v hv => by omega⟩ (fun _ h => h) (fun J2 i hi => ?_)
    obtain ⟨hi, hsi⟩ := hi
    by_cases hli : i < k
    · obtain ⟨hb1, hb2⟩ := distinct_at hd (i := i) (by omega)
      have he := edge_l hd (i := i) (k := k) (by omega) hlt
      have hq : joinQ rows l pathJ k i ↔ hasB (rows.getD (l.getD k 0).toNat 0) (l.getD i 0) = decide (k = i + 1) := by unfold joinQ pathJ; rw [he]
      repeat' (first | apply pwp_seq | apply pwp_region | (apply px_run; (first | (apply opv_move; first | exact hid_int rfl | rfl) | (apply opv_assign; first | exact hid_int rfl | exact hid_bool rfl) | (apply opv_lss <;> rfl) | (apply opv_eql <;> rfl) | (apply opv_add_in; rfl; rfl; omega) | (apply opv_sub_in; rfl; rfl; omega) | (apply opv_load_ints sc_int; rfl; (first | exact rd_old (by assumption)); (first | omega)) | (apply opv_index_nat (vs := ints _) el_int; rfl; rfl; (first | exact rd_old (by assumption)); (first | (simp only [ints_length]; omega))) | (apply opv_load_str 0 st_G; rfl; rfl; rfl) | (apply opv_call; rfl; rfl; exact Cl.stable _ _ _; exact fun w hw => s_l2Edge_c _ _ rows _ _ _ (by first | exact hw.arr (by assumption)) (by omega) (by omega)) | (apply opv_neq_bool ty_bool <;> rfl)); rfl; rfl) | apply px_nil | apply qseq_normal | apply qseq_ret | apply pwp_block | apply qblock_normal | apply qblock_ret | apply pwp_skip | apply pwp_ret | apply qround_ret | (apply pwp_region_draw; kernel_rfl; kernel_rfl; exact Cl.stable _ _ _) | (apply pwp_cond_dec; rfl; all_goals (intro hc; try (first | (exfalso; omega)))) | (apply pwp_cond_not; rfl; all_goals (intro hc; try (first | fail))))
      · refine qbody_ret1 (v := .bool _) rfl rfl ⟨ret_false rfl fun h => ?_, fun _ h => h.below⟩
        have := hq.1 (h.2.2 k hlt i hli)
        rw [this] at hc
        simp only [beq_eq_false_iff_ne, bne_iff_ne, ne_eq, decide_eq_decide] at hc; omega
      · refine qround_normal ?_ ⟨i + 1, ⟨rfl, trivial⟩, ⟨by omega, fun x hx => ?_⟩, by omega, fun _ h => h⟩
        · repeat (first | exact same_refl | refine same_upd rfl ?_ | refine same_junk rfl ?_)
        · by_cases hvk : x < i
          · exact hsi x hvk
          · obtain rfl : x = i := by omega
            first | rw [hq, bne_eq_false_iff_eq.1 hc] | rw [hq, eq_of_beq hc]
            exact decide_eq_decide.2 (by omega)
    · repeat' (first | apply pwp_seq | apply pwp_region | (apply px_run; (first | (apply opv_move; first | exact hid_int rfl) | (apply opv_assign; first | exact hid_int rfl) | (apply opv_lss <;> rfl) | (apply opv_add_in; rfl; rfl; omega)); rfl; rfl) | apply px_nil | apply qseq_normal | apply qseq_exit | apply qblock_normal | (apply qblock_exit_same; rfl) | apply pwp_exit | apply qround_exit | (apply pwp_cond_dec; rfl; all_goals (intro hc; try (first | (exfalso; omega)))))
      refine qround_normal ?_ ⟨k + 1, ⟨rfl, trivial⟩, ⟨by omega, fun x hx => ?_⟩, by omega, fun _ h => h⟩
      · repeat (first | exact same_refl | refine same_upd rfl ?_ | refine same_junk rfl ?_)
      · by_cases hvk : x < k
        · exact hok x hvk
        · obtain rfl : x = k := by omega
          exact fun y hy => hsi y (by omega)
  · repeat' (first | apply pwp_seq | apply pwp_region | (apply px_run; (first | (apply opv_move; first | exact hid_int rfl | rfl) | (apply opv_assign; first | exact hid_bool rfl) | (apply opv_lss <;> rfl) | (apply opv_len_ints el_int; rfl; (first | exact rd_old (by assumption)))); rfl; rfl) | apply px_nil | apply qseq_normal | apply qseq_exit | (apply qblock_exit_same; rfl) | apply pwp_exit | apply pwp_ret | apply qround_exit | (apply pwp_cond_dec; rfl; all_goals (intro hc; try (first | (exfalso; omega)))))
    refine qbody_ret1 (v := .bool _) rfl rfl ⟨ret_true rfl ⟨by omega, hd, fun v hv => hok v (by omega)⟩, fun _ h => h.below⟩
end Go.Proofs.YtcicdnpmlcjcmaaGreat
/- Searches for a first list. -/
namespace Go.Proofs.YtcicdnpmlcjcmaaGreat
open Go Go.RowKit Go.Pw
theorem en_i_always : Entry Tryz.prog 66 := ⟨_, Tryz.func66, by kernel_rfl, rfl⟩
theorem i_always_c (lv : Value) (w : World) : Pure Tryz.prog 66 #[lv] w (.bool true) := by
  refine pure_enter (args := [_]) en_i_always Tryz.func66 rfl Tryz.ntmps66 rfl ?_
  repeat' (first | apply pwp_seq | apply pwp_region | (apply px_run; (first | (apply opv_assign; first | exact hid_bool rfl)); rfl; rfl) | apply px_nil | apply qseq_normal | apply pwp_ret)
  refine qbody_ret1 (v := .bool _) rfl rfl ⟨rfl, fun _ h => h.below⟩
theorem en_i_firstList_1 : Entry Tryz.prog 95 := ⟨_, Tryz.func95, by kernel_rfl, rfl⟩
set_option maxHeartbeats 1600000 in
theorem i_search_c (size : Int) (N n : Nat) (gv : Value) (fh fm : FuncId) (ch cm : List Value) (may fin : List Int → Bool) (bn bh bg bm bs : Nat) (hN : size = N) (hN2 : N ≤ 1000) (hn : n ≤ 1000) (hn1 : 1 ≤ n) :
    ∀ (d : Nat) (l : List Int) (lv : Value) (w : World), l.length + d = n → Arr w lv (ints l) → Bk w bn [.int .i64 n] → Bk w bh [.func (.func fh) #[] ch.toArray] → Bk w bg [.int .i64 size, gv] → Bk w bm [.func (.func fm) #[] cm.toArray] →
      Bk w bs [.func (.func 95) #[] [.pointer (some ⟨bn, 0, none⟩), .pointer (some ⟨bh, 0, none⟩), .pointer (some ⟨bg, 0, none⟩), .pointer (some ⟨bm, 0, none⟩), .pointer (some ⟨bs, 0, none⟩)].toArray] →
      (∀ (x : List Int) xv w', Below w.heap.size w w' → Arr w' xv (ints x) → Pure Tryz.prog fm ([xv] ++ cm).toArray w' (.bool (may x))) →
      (∀ (x : List Int) xv w', Below w.heap.size w w' → Arr w' xv (ints x) → Pure Tryz.prog fh ([xv] ++ ch).toArray w' (.bool (fin x))) →
      Gives Tryz.prog 95 #[lv, .pointer (some ⟨bn, 0, none⟩), .pointer (some ⟨bh, 0, none⟩), .pointer (some ⟨bg, 0, none⟩), .pointer (some ⟨bm, 0, none⟩), .pointer (some ⟨bs, 0, none⟩)] w (FoundR 3 (firstG N (okI may) fin d l)) := by
  intro d
  induction d with
  | zero =>
    intro l lv w hl hv h1 h2 h3 h4 h5 hm hh
    refine gives_enter (args := [_, _, _, _, _, _]) en_i_firstList_1 Tryz.func95 rfl Tryz.ntmps95 rfl ?_
    have hln : (l.length : Int) = n := by omega
    unfold firstG
    repeat' (first | apply pwp_seq | apply pwp_region | (apply px_run; (first | (apply opv_move; first | rfl) | (apply opv_assign; first | rfl) | (apply opv_eql <;> rfl) | (apply opv_len_ints el_int; rfl; (first | exact rd_old (by assumption))) | (apply opv_callx; rfl; rfl; exact Cl.stable _ _ _; exact fun w hw => hh l _ _ hw.below (by first | exact hw.arr (by assumption))) | (apply opv_load_old; (first | with_reducible exact sc_int | with_reducible exact sc_fnB); rfl; assumption; rfl)); rfl; rfl) | apply px_nil | apply qseq_normal | apply qseq_ret | apply pwp_skip | apply pwp_ret | (apply pwp_cond_dec; rfl; all_goals (intro hc; try (first | contradiction))) | (apply pwp_cond; rfl; all_goals (intro hc; try (first | fail))) | (apply px_gives; rfl; rfl; rfl; rfl; rfl; exact fun w hw => x_Clone_c _ l _ (by first | exact hw.arr (by assumption)) (by omega); rintro _ _ rfl))
    · refine qbody_ret1 rfl rfl ⟨_, ?_, fun w' h => h⟩
      rw [if_pos (by assumption)]; rfl
    · refine qbody_ret1 (v := .slice none 0 0) rfl rfl ⟨[], ?_, fun w' h => h⟩
      rw [if_neg (by simp_all)]; exact ⟨rfl, rfl⟩
  | succ d ih =>
    intro l lv w hl hv h1 h2 h3 h4 h5 hm hh
    refine gives_enter (args := [_, _, _, _, _, _]) en_i_firstList_1 Tryz.func95 rfl Tryz.ntmps95 rfl ?_
    repeat' (first | apply pwp_seq | apply pwp_region | (apply px_run; (first | (apply opv_move; first | exact hid_int rfl | rfl) | (apply opv_assign; first | rfl) | (apply opv_eql <;> rfl) | (apply opv_field fld_G0; rfl) | (apply opv_len_ints el_int; rfl; (first | exact rd_old (by assumption))) | (apply opv_load_old; (first | with_reducible exact sc_int); rfl; assumption; rfl)); rfl; rfl) | apply px_nil | apply qseq_normal | apply pwp_block | apply pwp_skip | (apply pwp_cond_dec; rfl; all_goals (intro hc; try (first | (exfalso; omega)))))
    refine pwp_loop (τ := Nat) [(7,10), (22,49)] (fun k => [(22, .int .i64 (k : Int))]) (fun _ => Cl [] w []) (fun k => k ≤ N ∧ firstK N (okI may) fin d l k = none) (fun k => N - k) 0
      ⟨rfl, trivial⟩ ⟨Nat.zero_le _, rfl⟩ (fun _ h => h) (fun J k hk => ?_)
    obtain ⟨hk, hno⟩ := hk
    by_cases hlt : k < N
    · have ih1 : ∀ xv w', Below w.heap.size w w' → Arr w' xv (ints (l ++ [(k : Int)])) → Gives Tryz.prog 95 #[xv, .pointer (some ⟨bn, 0, none⟩), .pointer (some ⟨bh, 0, none⟩), .pointer (some ⟨bg, 0, none⟩), .pointer (some ⟨bm, 0, none⟩), .pointer (some ⟨bs, 0, none⟩)] w' (FoundR 3 (firstG N (okI may) fin d (l ++ [(k : Int)]))) :=
        fun xv w' hb hx => ih (l ++ [(k : Int)]) xv w' (by simp; omega) hx (h1.below hb) (h2.below hb) (h3.below hb) (h4.below hb) (h5.below hb) (fun x xv w2 hb2 => hm x xv w2 (below_comp hb hb2)) (fun x xv w2 hb2 => hh x xv w2 (below_comp hb hb2))
      cases hf : firstG N (okI may) fin d (l ++ [(k : Int)]) with
      | none =>
        rw [hf] at ih1
        repeat' (first | apply pwp_seq | apply pwp_region | (apply px_run; (first | (apply opv_move; first | exact hid_int rfl | exact hid_bool rfl | rfl) | (apply opv_assign; first | exact hid_int rfl | rfl) | (apply opv_lss <;> rfl) | (apply opv_pick_t <;> rfl) | (apply opv_pick_f <;> rfl) | (apply opv_not_dec <;> rfl) | (apply opv_add_in; rfl; rfl; omega) | (apply opv_len_ints el_int; rfl; (first | exact rd_old (by assumption))) | (apply opv_full el_int; rfl; rfl; rfl; (first | exact rd_old (by assumption)); (simp only [ints_length])) | (apply opv_neq_nil_f el_int; rfl; rfl; rfl) | (apply opv_callx; rfl; rfl; exact Cl.stable _ _ _; exact fun w hw => hm (l ++ [(k : Int)]) _ _ hw.below (by first | exact hw.rowArr (k := 0) rfl)) | (apply opv_load_old; (first | with_reducible exact sc_fnB | with_reducible exact sc_fnS); rfl; assumption; rfl) | (apply opv_call; rfl; rfl; exact Cl.stable _ _ _; exact fun w hw => x_Contains_c _ l _ _ (by first | exact hw.arr (by assumption)))); rfl; rfl) | apply px_nil | (apply px_skip; rfl; rfl) | apply qseq_normal | apply pwp_block | apply qblock_normal | apply pwp_skip | (apply pwp_cond_f; rfl) | (apply px_guard_ndec; rfl; rfl; rfl; all_goals (intro hc; try (first | fail))) | (apply pwp_cond_dec; rfl; all_goals (intro hc; try (first | (exfalso; omega)))) | (apply pwp_cond; rfl; all_goals (intro hc; try (first | fail))) | (apply px_lit1 ez_int; rfl; (intro w hw; (first | rfl)); rfl; rfl; rfl; intro sv) | (apply px_append_full1 ez_int; rfl; rfl; (first | exact rd_old (by assumption)); (first | exact rd_row 0 rfl); omega; decide; rfl; rfl; rfl; intro sv) | (apply px_givesx; rfl; rfl; rfl; rfl; rfl; exact fun w hw => ih1 _ _ hw.below (by first | exact hw.rowArr (k := 0) rfl); rintro _ _ ⟨rfl, rfl⟩))
        all_goals
          refine qround_normal ?_ ⟨k + 1, ⟨rfl, trivial⟩, ⟨by omega, firstK_miss hno fun _ => hf⟩, by omega, fun w' h => h.sub (List.nil_sublist _)⟩
          repeat (first | exact same_refl | refine same_upd rfl ?_ | refine same_junk rfl ?_)
      | some L =>
        rw [hf] at ih1
        have hLl := firstG_len _ _ _ hf
        have hL0 : 0 < L.length := by simp at hLl; omega
        repeat' (first | apply pwp_seq | apply pwp_region | (apply px_run; (first | (apply opv_move; first | exact hid_int rfl | exact hid_bool rfl | rfl) | (apply opv_assign; first | exact hid_int rfl | rfl) | (apply opv_lss <;> rfl) | (apply opv_pick_t <;> rfl) | (apply opv_pick_f <;> rfl) | (apply opv_not_dec <;> rfl) | (apply opv_add_in; rfl; rfl; omega) | (apply opv_len_ints el_int; rfl; (first | exact rd_old (by assumption))) | (apply opv_full el_int; rfl; rfl; rfl; (first | exact rd_old (by assumption)); (simp only [ints_length])) | (apply opv_neq_nil_t el_int; rfl; rfl; (first | exact rd_row 0 rfl); (simp only [ints_length]; omega)) | (apply opv_callx; rfl; rfl; exact Cl.stable _ _ _; exact fun w hw => hm (l ++ [(k : Int)]) _ _ hw.below (by first | exact hw.rowArr (k := 0) rfl)) | (apply opv_load_old; (first | with_reducible exact sc_fnB | with_reducible exact sc_fnS); rfl; assumption; rfl) | (apply opv_call; rfl; rfl; exact Cl.stable _ _ _; exact fun w hw => x_Contains_c _ l _ _ (by first | exact hw.arr (by assumption)))); rfl; rfl) | apply px_nil | (apply px_skip; rfl; rfl) | apply qseq_normal | apply qseq_ret | apply pwp_block | apply qblock_normal | apply qblock_ret | apply pwp_skip | apply pwp_ret | apply qround_ret | (apply pwp_cond_t; rfl) | (apply pwp_cond_f; rfl) | (apply px_guard_ndec; rfl; rfl; rfl; all_goals (intro hc; try (first | fail))) | (apply pwp_cond_dec; rfl; all_goals (intro hc; try (first | (exfalso; omega)))) | (apply pwp_cond; rfl; all_goals (intro hc; try (first | fail))) | (apply px_lit1 ez_int; rfl; (intro w hw; (first | rfl)); rfl; rfl; rfl; intro sv) | (apply px_append_full1 ez_int; rfl; rfl; (first | exact rd_old (by assumption)); (first | exact rd_row 0 rfl); omega; decide; rfl; rfl; rfl; intro sv) | (apply px_givesx; rfl; rfl; rfl; rfl; rfl; exact fun w hw => ih1 _ _ hw.below (by first | exact hw.rowArr (k := 0) rfl); rintro sr _ rfl))
        all_goals first
          | (refine qround_normal ?_ ⟨k + 1, ⟨rfl, trivial⟩, ⟨by omega, firstK_miss hno fun h => by simp_all [okI]⟩, by omega, fun w' h => h.sub (List.nil_sublist _)⟩
             repeat (first | exact same_refl | refine same_upd rfl ?_ | refine same_junk rfl ?_))
          | (refine qbody_ret1 (v := sr) rfl rfl ⟨[.row 3 sr (ints L)], ?_, fun w' h => ?_⟩
             · rw [firstK_hit hlt hno (by simp_all [okI]) hf]; rfl
             · exact Cl.sub (by assumption) (by repeat (first | exact List.Sublist.slnil | exact List.Sublist.refl _ | apply List.Sublist.cons_cons | exact List.sublist_append_left _ _ | exact List.sublist_append_right _ _ | apply List.Sublist.cons)))
    · obtain rfl : k = N := by omega
      repeat' (first | apply pwp_seq | apply pwp_region | (apply px_run; (first | (apply opv_assign; first | rfl) | (apply opv_lss <;> rfl)); rfl; rfl) | apply px_nil | apply qseq_normal | apply qseq_exit | (apply qblock_exit_same; rfl) | apply pwp_exit | apply pwp_ret | apply qround_exit | (apply pwp_cond_dec; rfl; all_goals (intro hc; try (first | (exfalso; omega)))))
      refine qbody_ret1 (v := .slice none 0 0) rfl rfl ⟨[], ?_, fun w' h => h⟩
      rw [firstG_all, hno]; exact ⟨rfl, rfl⟩
theorem en_i_firstList : Entry Tryz.prog 65 := ⟨_, Tryz.func65, by kernel_rfl, rfl⟩
set_option maxHeartbeats 1000000 in
theorem i_firstList_c (size : Int) (n : Nat) (gv : Value) (rows : List Int) (fm fh : FuncId) (cm ch : List Value) (may fin : List Int → Bool) (w : World) (hr : Arr w gv (ints rows)) (hn : n ≤ 1000) (hn1 : 1 ≤ n)
    (hm : ∀ (x : List Int) xv w', Below w.heap.size w w' → Arr w' xv (ints x) → Pure Tryz.prog fm ([xv] ++ cm).toArray w' (.bool (may x)))
    (hh : ∀ (x : List Int) xv w', Below w.heap.size w w' → Arr w' xv (ints x) → Pure Tryz.prog fh ([xv] ++ ch).toArray w' (.bool (fin x))) :
    Gives Tryz.prog 65 #[.agg #[.int .i64 size, gv], .int .i64 n, .func (.func fm) #[] cm.toArray, .func (.func fh) #[] ch.toArray] w
      (fun v objs => ∃ sv, v = .tuple #[sv, .bool (firstX size rows may fin n).isSome] ∧ objs = [.row 3 sv (ints ((firstX size rows may fin n).getD []))]) := by
  refine gives_enter (args := [_, _, _, _]) en_i_firstList Tryz.func65 rfl Tryz.ntmps65 rfl ?_
  by_cases hg : IsG size rows
  case neg =>
    have hx : firstX size rows may fin n = none := by unfold firstX; rw [if_neg hg]
    repeat' (first | apply pwp_seq | apply pwp_region | (apply px_run; (first | (apply opv_assign; first | exact hid_bool rfl | rfl) | (apply opv_not_dec <;> rfl) | (apply opv_load_str 4 st_G; rfl; rfl; rfl) | (apply opv_make_func; rfl) | (apply opv_call; rfl; rfl; exact Cl.stable _ _ _; exact fun w hw => i_IsGraph_c _ _ rows _ (by first | exact hw.arr (by assumption)))); rfl; rfl) | apply px_nil | apply qseq_normal | apply qseq_ret | apply pwp_ret | (apply pwp_cond_ndec; rfl; all_goals (intro hc; try (first | contradiction))) | (apply px_box; rfl; rfl; rfl; rfl; intro bk) | (apply px_box1; rfl; (intro w hw; (first | rfl)); rfl; rfl; rfl; intro bk) | (apply px_allocz zi_fnS; rfl; rfl; rfl; rfl; intro bk) | (apply px_store_blk 0; (with_reducible exact co_fnS); rfl; rfl; rfl; (intro w hw; (first | rfl)); rfl; rfl))
    refine qbody_ret2 rfl rfl rfl ⟨_, ⟨_, by rw [hx]; rfl, rfl⟩, fun w' h => ?_⟩
    rw [hx]
    exact (h.sub (List.nil_sublist _)).nilRow _
  obtain ⟨N, hN, _, _, hN7⟩ := isG_size hg
  have hx : firstX size rows may fin n = firstG N (okI may) fin n [] := by unfold firstX; rw [if_pos hg]; congr 1; omega
  have key := fun (bn bh bg bm bs : Nat) => i_search_c size N n gv fh fm ch cm may fin bn bh bg bm bs hN (by omega) hn hn1 n []
  rw [hx]
  cases hf : firstG N (okI may) fin n [] with
  | none =>
    simp only [hf] at key
    repeat' (first | apply pwp_seq | apply pwp_region | (apply px_run; (first | (apply opv_move; first | rfl) | (apply opv_assign; first | exact hid_bool rfl | rfl) | (apply opv_not_dec <;> rfl) | (apply opv_load_blk 0; (first | with_reducible exact sc_fnS); rfl; rfl; rfl) | (apply opv_load_str 4 st_G; rfl; rfl; rfl) | (apply opv_neq_nil_f el_int; rfl; rfl; rfl) | (apply opv_make_func; rfl) | (apply opv_call; rfl; rfl; exact Cl.stable _ _ _; exact fun w hw => i_IsGraph_c _ _ rows _ (by first | exact hw.arr (by assumption)))); rfl; rfl) | apply px_nil | apply qseq_normal | apply pwp_skip | apply pwp_ret | (apply pwp_cond_ndec; rfl; all_goals (intro hc; try (first | contradiction))) | (apply px_box; rfl; rfl; rfl; rfl; intro bk) | (apply px_box1; rfl; (intro w hw; (first | rfl)); rfl; rfl; rfl; intro bk) | (apply px_allocz zi_fnS; rfl; rfl; rfl; rfl; intro bk) | (apply px_store_blk 0; (with_reducible exact co_fnS); rfl; rfl; rfl; (intro w hw; (first | rfl)); rfl; rfl) | (apply px_givesx; rfl; rfl; rfl; rfl; rfl; exact fun w hw => key _ _ _ _ _ _ _ (by simp) (arr_nil _) (hw.bk (k := 3) rfl) (hw.bk (k := 1) rfl) (hw.bk (k := 4) rfl) (hw.bk (k := 2) rfl) (hw.bk (k := 0) rfl) (fun x xv w' hb => hm x xv w' (below_comp hw.below hb)) (fun x xv w' hb => hh x xv w' (below_comp hw.below hb)); rintro _ _ ⟨rfl, rfl⟩))
    refine qbody_ret2 rfl rfl rfl ⟨_, ⟨_, rfl, rfl⟩, fun w' h => ?_⟩
    exact (h.sub (List.nil_sublist _)).nilRow _
  | some L =>
    simp only [hf] at key
    have hLl := firstG_len _ _ _ hf
    have hL0 : 0 < L.length := by simp at hLl; omega
    repeat' (first | apply pwp_seq | apply pwp_region | (apply px_run; (first | (apply opv_move; first | rfl) | (apply opv_assign; first | exact hid_bool rfl | rfl) | (apply opv_not_dec <;> rfl) | (apply opv_load_blk 0; (first | with_reducible exact sc_fnS); rfl; rfl; rfl) | (apply opv_load_str 4 st_G; rfl; rfl; rfl) | (apply opv_neq_nil_t el_int; rfl; rfl; (first | exact rd_row 0 rfl); (simp only [ints_length]; omega)) | (apply opv_make_func; rfl) | (apply opv_call; rfl; rfl; exact Cl.stable _ _ _; exact fun w hw => i_IsGraph_c _ _ rows _ (by first | exact hw.arr (by assumption)))); rfl; rfl) | apply px_nil | apply qseq_normal | apply pwp_skip | apply pwp_ret | (apply pwp_cond_ndec; rfl; all_goals (intro hc; try (first | contradiction))) | (apply px_box; rfl; rfl; rfl; rfl; intro bk) | (apply px_box1; rfl; (intro w hw; (first | rfl)); rfl; rfl; rfl; intro bk) | (apply px_allocz zi_fnS; rfl; rfl; rfl; rfl; intro bk) | (apply px_store_blk 0; (with_reducible exact co_fnS); rfl; rfl; rfl; (intro w hw; (first | rfl)); rfl; rfl) | (apply px_givesx; rfl; rfl; rfl; rfl; rfl; exact fun w hw => key _ _ _ _ _ _ _ (by simp) (arr_nil _) (hw.bk (k := 3) rfl) (hw.bk (k := 1) rfl) (hw.bk (k := 4) rfl) (hw.bk (k := 2) rfl) (hw.bk (k := 0) rfl) (fun x xv w' hb => hm x xv w' (below_comp hw.below hb)) (fun x xv w' hb => hh x xv w' (below_comp hw.below hb)); rintro sr _ rfl))
    refine qbody_ret2 rfl rfl rfl ⟨_, ⟨_, rfl, rfl⟩, fun w' h => ?_⟩
    exact Cl.sub (by assumption) (by repeat (first | exact List.Sublist.slnil | exact List.Sublist.refl _ | apply List.Sublist.cons_cons | exact List.sublist_append_left _ _ | exact List.sublist_append_right _ _ | apply List.Sublist.cons))
theorem en_s_l4Search : Entry Tryz.prog 72 := ⟨_, Tryz.func72, by kernel_rfl, rfl⟩
theorem s_l4Search0_c (size : Int) (gv lv : Value) (rows l : List Int) (n : Nat) (closed : Bool) (w : World) (hr : Arr w gv (ints rows)) (hv : Arr w lv (ints l)) (hl : l.length = n) :
    Pure Tryz.prog 72 #[.agg #[.int .i64 size, gv], lv, .int .i64 n, .bool closed] w (.tuple #[lv, .bool (finS (fun x => decide (holeP size rows x)) closed l)]) := by
  refine pure_enter (args := [_, _, _, _]) en_s_l4Search Tryz.func72 rfl Tryz.ntmps72 rfl ?_
  have hln : (l.length : Int) = n := by omega
  unfold finS
  repeat' (first | apply pwp_seq | apply pwp_region | (apply px_run; (first | (apply opv_move; first | exact hid_int rfl | exact hid_bool rfl | rfl) | (apply opv_assign; first | exact hid_bool rfl | rfl) | (apply opv_eql <;> rfl) | (apply opv_len_ints el_int; rfl; (first | exact rd_old (by assumption))) | (apply opv_load_str 0 st_G; rfl; rfl; rfl) | (apply opv_call; rfl; rfl; exact Cl.stable _ _ _; exact fun w hw => s_IsHole_c _ _ _ rows l _ (by first | exact hw.arr (by assumption)) (by first | exact hw.arr (by assumption)))); rfl; rfl) | apply px_nil | apply qseq_normal | apply qseq_ret | apply pwp_skip | apply pwp_ret | (apply pwp_cond_dec; rfl; all_goals (intro hc; try (first | contradiction))) | (apply pwp_cond; rfl; all_goals (intro hc; try (first | fail))) | (apply px_box; rfl; rfl; rfl; rfl; intro bk))
  all_goals first
    | exact absurd hln (by assumption)
    | (refine qbody_ret2 (v := lv) (v' := .bool _) rfl rfl rfl ⟨by simp_all, fun _ h => h.below⟩)
set_option maxHeartbeats 1600000 in
theorem s_l4Search_c (size : Int) (N n : Nat) (gv : Value) (rows : List Int) (closed : Bool) (hN : size = N) (hN2 : N ≤ 1000) (hn : n ≤ 1000) :
    ∀ (d : Nat) (l : List Int) (lv : Value) (w : World), l.length + (d + 1) = n → Arr w gv (ints rows) → Arr w lv (ints l) →
      Gives Tryz.prog 72 #[.agg #[.int .i64 size, gv], lv, .int .i64 n, .bool closed] w (fun v objs => ∃ sv, v = .tuple #[sv, .bool (firstG N (okR (fun x => decide (pathP size rows x)) (fun x => decide (holeP size rows x)) n closed) (finS (fun x => decide (holeP size rows x)) closed) (d + 1) l).isSome] ∧
        objs = [.row 3 sv (ints ((firstG N (okR (fun x => decide (pathP size rows x)) (fun x => decide (holeP size rows x)) n closed) (finS (fun x => decide (holeP size rows x)) closed) (d + 1) l).getD []))]) := by
  intro d
  induction d with
  | zero =>
    intro l lv w hl hr hv
    refine gives_enter (args := [_, _, _, _]) en_s_l4Search Tryz.func72 rfl Tryz.ntmps72 rfl ?_
    generalize hok : okR (fun x => decide (pathP size rows x)) (fun x => decide (holeP size rows x)) n closed = ok
    generalize hfn : finS (fun x => decide (holeP size rows x)) closed = fin
    repeat' (first | apply pwp_seq | apply pwp_region | (apply px_run; (first | (apply opv_move; first | exact hid_int rfl | rfl) | (apply opv_assign; first | exact hid_int rfl | exact hid_bool rfl | rfl) | (apply opv_eql <;> rfl) | (apply opv_len_ints el_int; rfl; (first | exact rd_old (by assumption)))); rfl; rfl) | apply px_nil | apply qseq_normal | apply pwp_block | apply pwp_skip | (apply pwp_cond_dec; rfl; all_goals (intro hc; try (first | (exfalso; omega)))) | (apply px_box; rfl; rfl; rfl; rfl; intro bk))
    refine pwp_loop (τ := Nat) [(8,13), (24,62)] (fun k => [(10, .int .i64 (k : Int))]) (fun _ => Cl [] w [.blk bk [.int .i64 size, gv]]) (fun k => k ≤ N ∧ firstK N ok fin 0 l k = none) (fun k => N - k) 0
      ⟨rfl, trivial⟩ ⟨Nat.zero_le _, rfl⟩ (fun _ h => h) (fun J k hk => ?_)
    obtain ⟨hk, hno⟩ := hk
    by_cases hlt : k < N
    · have hlen : (l ++ [(k : Int)]).length = n := by simp; omega
      have hf : firstG N ok fin 0 (l ++ [(k : Int)]) = if fin (l ++ [(k : Int)]) = true then some (l ++ [(k : Int)]) else none := rfl
      have hko : ok l (k : Int) = (decide (pathP size rows (l ++ [(k : Int)])) || (closed && decide (holeP size rows (l ++ [(k : Int)])))) := by
        rw [← hok]; unfold okR; rw [decide_eq_true (show l.length + 1 = n by omega), Bool.and_true]
      have hfx : fin (l ++ [(k : Int)]) = if closed = true then decide (holeP size rows (l ++ [(k : Int)])) else true := by rw [← hfn]; rfl
      cases closed
      all_goals
        repeat' (first | apply pwp_seq | apply pwp_region | (apply px_run; (first | (apply opv_move; first | exact hid_int rfl | exact hid_bool rfl | rfl) | (apply opv_assign; first | exact hid_int rfl | exact hid_bool rfl | rfl) | (apply opv_lss <;> rfl) | (apply opv_eql <;> rfl) | (apply opv_pick_t <;> rfl) | (apply opv_pick_f <;> rfl) | (apply opv_add_in; rfl; rfl; omega) | (apply opv_field fld_G0; rfl) | (apply opv_load_blk 0; (first | with_reducible exact sc_int); rfl; rfl; rfl) | (apply opv_len_ints el_int; rfl; (first | exact rd_row 1 rfl)) | (apply opv_load_str 2 st_G; rfl; rfl; rfl) | (apply opv_extract; rfl; rfl) | (apply opv_call; rfl; rfl; exact Cl.stable _ _ _; exact fun w hw => s_IsInducedPath_c _ _ _ rows (l ++ [(k : Int)]) _ (by first | exact hw.arr (by assumption)) (by first | exact hw.rowArr (k := 1) rfl)) | (apply opv_call; rfl; rfl; exact Cl.stable _ _ _; exact fun w hw => s_IsHole_c _ _ _ rows (l ++ [(k : Int)]) _ (by first | exact hw.arr (by assumption)) (by first | exact hw.rowArr (k := 1) rfl)) | (apply opv_call; rfl; rfl; exact Cl.stable _ _ _; exact fun w hw => s_l4Search0_c _ _ _ rows (l ++ [(k : Int)]) n _ _ (by first | exact hw.arr (by assumption)) (by first | exact hw.rowArr (k := 1) rfl) hlen)); rfl; rfl) | apply px_nil | (apply px_skip; rfl; rfl) | apply qseq_normal | apply qseq_ret | apply pwp_block | apply qblock_normal | apply qblock_ret | apply pwp_skip | apply pwp_ret | apply qround_ret | (apply pwp_cond_t; rfl) | (apply pwp_cond_f; rfl) | (apply px_guard_dec; rfl; rfl; rfl; all_goals (intro hc; try (first | fail))) | (apply pwp_cond_dec; rfl; all_goals (intro hc; try (first | contradiction | (exfalso; omega)))) | (apply px_lit0i ez_int; rfl; rfl; rfl; intro sv) | (apply px_lit1 ez_int; rfl; (intro w hw; (first | rfl)); rfl; rfl; rfl; intro sv) | (apply px_append_ints 0 ez_int; rfl; rfl; rfl; (first | exact rd_old (by assumption)); (first | (focus (simp; omega))); decide; rfl; rfl; intro sv) | (apply px_append_int1 1 ez_int; rfl; rfl; rfl; (first | exact rd_row 0 rfl); (first | (focus (simp; omega))); decide; rfl; rfl; intro sv))
        all_goals first
          | (refine qround_normal ?_ ⟨k + 1, ⟨rfl, trivial⟩, ⟨by omega, firstK_miss hno fun h => by simp_all [finS]⟩, by omega, fun w' h => by exact Cl.sub (by assumption) (by repeat (first | exact List.Sublist.slnil | exact List.Sublist.refl _ | apply List.Sublist.cons_cons | exact List.sublist_append_left _ _ | exact List.sublist_append_right _ _ | apply List.Sublist.cons))⟩
             repeat (first | exact same_refl | refine same_upd rfl ?_ | refine same_junk rfl ?_))
          | (have hit := firstK_hit hlt hno (show ok l (k : Int) = true by simp_all [finS]) (hf.trans (if_pos (by simp_all [finS])))
             rw [hit]
             refine qbody_ret2 (v := sv) (v' := .bool true) rfl rfl rfl ⟨[.row 3 sv (ints (l ++ [(k : Int)]))], ⟨sv, rfl, rfl⟩, fun w' h => ?_⟩
             exact Cl.sub (by assumption) (by repeat (first | exact List.Sublist.slnil | exact List.Sublist.refl _ | apply List.Sublist.cons_cons | exact List.sublist_append_left _ _ | exact List.sublist_append_right _ _ | apply List.Sublist.cons)))
    · obtain rfl : k = N := by omega
      repeat' (first | apply pwp_seq | apply pwp_region | (apply px_run; (first | (apply opv_move; first | exact hid_int rfl) | (apply opv_assign; first | exact hid_bool rfl | rfl) | (apply opv_lss <;> rfl) | (apply opv_field fld_G0; rfl) | (apply opv_load_blk 0; (first | with_reducible exact sc_int); rfl; rfl; rfl)); rfl; rfl) | apply px_nil | apply qseq_normal | apply qseq_exit | (apply qblock_exit_same; rfl) | apply pwp_exit | apply pwp_ret | apply qround_exit | (apply pwp_cond_dec; rfl; all_goals (intro hc; try (first | (exfalso; omega)))) | (apply px_lit0 ez_int; rfl; rfl; rfl; intro sv))
      refine qbody_ret2 rfl rfl rfl ⟨_, ⟨_, by rw [firstG_all, hno]; rfl, rfl⟩, fun w' h => ?_⟩
      rw [firstG_all, hno]
      exact Cl.sub (by assumption) (by repeat (first | exact List.Sublist.slnil | exact List.Sublist.refl _ | apply List.Sublist.cons_cons | exact List.sublist_append_left _ _ | exact List.sublist_append_right _ _ | apply List.Sublist.cons))
  | succ d ih =>
    intro l lv w hl hr hv
    refine gives_enter (args := [_, _, _, _]) en_s_l4Search Tryz.func72 rfl Tryz.ntmps72 rfl ?_
    generalize hok : okR (fun x => decide (pathP size rows x)) (fun x => decide (holeP size rows x)) n closed = ok at ih ⊢
    generalize hfn : finS (fun x => decide (holeP size rows x)) closed = fin at ih ⊢
    repeat' (first | apply pwp_seq | apply pwp_region | (apply px_run; (first | (apply opv_move; first | exact hid_int rfl | rfl) | (apply opv_assign; first | exact hid_int rfl | exact hid_bool rfl | rfl) | (apply opv_eql <;> rfl) | (apply opv_len_ints el_int; rfl; (first | exact rd_old (by assumption)))); rfl; rfl) | apply px_nil | apply qseq_normal | apply pwp_block | apply pwp_skip | (apply pwp_cond_dec; rfl; all_goals (intro hc; try (first | (exfalso; omega)))) | (apply px_box; rfl; rfl; rfl; rfl; intro bk))
    refine pwp_loop (τ := Nat) [(8,13), (24,62)] (fun k => [(10, .int .i64 (k : Int))]) (fun _ => Cl [] w [.blk bk [.int .i64 size, gv]]) (fun k => k ≤ N ∧ firstK N ok fin (d + 1) l k = none) (fun k => N - k) 0
      ⟨rfl, trivial⟩ ⟨Nat.zero_le _, rfl⟩ (fun _ h => h) (fun J k hk => ?_)
    obtain ⟨hk, hno⟩ := hk
    by_cases hlt : k < N
    · have hlen : ¬ ((l ++ [(k : Int)]).length : Int) = n := by simp; omega
      have hko : ok l (k : Int) = decide (pathP size rows (l ++ [(k : Int)])) := by
        rw [← hok]; unfold okR; rw [decide_eq_false (show ¬ l.length + 1 = n by omega)]; simp
      have ih1 := fun xv w' => ih (l ++ [(k : Int)]) xv w' (by simp; omega)
      cases closed
      all_goals
        cases hf : firstG N ok fin (d + 1) (l ++ [(k : Int)]) with
        | none =>
          simp only [hf] at ih1
          repeat' (first | apply pwp_seq | apply pwp_region | (apply px_run; (first | (apply opv_move; first | exact hid_int rfl | exact hid_bool rfl | rfl) | (apply opv_assign; first | exact hid_int rfl | exact hid_bool rfl | rfl) | (apply opv_lss <;> rfl) | (apply opv_eql <;> rfl) | (apply opv_pick_t <;> rfl) | (apply opv_pick_f <;> rfl) | (apply opv_add_in; rfl; rfl; omega) | (apply opv_field fld_G0; rfl) | (apply opv_load_blk 0; (first | with_reducible exact sc_int); rfl; rfl; rfl) | (apply opv_len_ints el_int; rfl; (first | exact rd_row 1 rfl)) | (apply opv_load_str 2 st_G; rfl; rfl; rfl) | (apply opv_extract; rfl; rfl) | (apply opv_call; rfl; rfl; exact Cl.stable _ _ _; exact fun w hw => s_IsInducedPath_c _ _ _ rows (l ++ [(k : Int)]) _ (by first | exact hw.arr (by assumption)) (by first | exact hw.rowArr (k := 1) rfl))); rfl; rfl) | apply px_nil | (apply px_skip; rfl; rfl) | apply qseq_normal | apply pwp_block | apply qblock_normal | apply pwp_skip | (apply pwp_cond_t; rfl) | (apply pwp_cond_f; rfl) | (apply px_guard_dec; rfl; rfl; rfl; all_goals (intro hc; try (first | contradiction))) | (apply pwp_cond_dec; rfl; all_goals (intro hc; try (first | (exfalso; omega)))) | (apply px_lit0i ez_int; rfl; rfl; rfl; intro sv) | (apply px_lit1 ez_int; rfl; (intro w hw; (first | rfl)); rfl; rfl; rfl; intro sv) | (apply px_append_ints 0 ez_int; rfl; rfl; rfl; (first | exact rd_old (by assumption)); (first | (focus (simp; omega))); decide; rfl; rfl; intro sv) | (apply px_append_int1 1 ez_int; rfl; rfl; rfl; (first | exact rd_row 0 rfl); (first | (focus (simp; omega))); decide; rfl; rfl; intro sv) | (apply px_gives; rfl; rfl; rfl; rfl; rfl; exact fun w hw => ih1 _ _ (by first | exact hw.arr (by assumption)) (by first | exact hw.rowArr (k := 1) rfl); rintro _ _ ⟨sr, rfl, rfl⟩))
          all_goals
            refine qround_normal ?_ ⟨k + 1, ⟨rfl, trivial⟩, ⟨by omega, firstK_miss hno fun h => by simp_all [finS]⟩, by omega, fun w' h => by exact Cl.sub (by assumption) (by repeat (first | exact List.Sublist.slnil | exact List.Sublist.refl _ | apply List.Sublist.cons_cons | exact List.sublist_append_left _ _ | exact List.sublist_append_right _ _ | apply List.Sublist.cons))⟩
            repeat (first | exact same_refl | refine same_upd rfl ?_ | refine same_junk rfl ?_)
        | some L =>
          simp only [hf] at ih1
          repeat' (first | apply pwp_seq | apply pwp_region | (apply px_run; (first | (apply opv_move; first | exact hid_int rfl | exact hid_bool rfl | rfl) | (apply opv_assign; first | exact hid_int rfl | exact hid_bool rfl | rfl) | (apply opv_lss <;> rfl) | (apply opv_eql <;> rfl) | (apply opv_pick_t <;> rfl) | (apply opv_pick_f <;> rfl) | (apply opv_add_in; rfl; rfl; omega) | (apply opv_field fld_G0; rfl) | (apply opv_load_blk 0; (first | with_reducible exact sc_int); rfl; rfl; rfl) | (apply opv_len_ints el_int; rfl; (first | exact rd_row 1 rfl)) | (apply opv_load_str 2 st_G; rfl; rfl; rfl) | (apply opv_extract; rfl; rfl) | (apply opv_call; rfl; rfl; exact Cl.stable _ _ _; exact fun w hw => s_IsInducedPath_c _ _ _ rows (l ++ [(k : Int)]) _ (by first | exact hw.arr (by assumption)) (by first | exact hw.rowArr (k := 1) rfl))); rfl; rfl) | apply px_nil | (apply px_skip; rfl; rfl) | apply qseq_normal | apply qseq_ret | apply pwp_block | apply qblock_normal | apply qblock_ret | apply pwp_skip | apply pwp_ret | apply qround_ret | (apply pwp_cond_t; rfl) | (apply pwp_cond_f; rfl) | (apply px_guard_dec; rfl; rfl; rfl; all_goals (intro hc; try (first | contradiction))) | (apply pwp_cond_dec; rfl; all_goals (intro hc; try (first | (exfalso; omega)))) | (apply px_lit0i ez_int; rfl; rfl; rfl; intro sv) | (apply px_lit1 ez_int; rfl; (intro w hw; (first | rfl)); rfl; rfl; rfl; intro sv) | (apply px_append_ints 0 ez_int; rfl; rfl; rfl; (first | exact rd_old (by assumption)); (first | (focus (simp; omega))); decide; rfl; rfl; intro sv) | (apply px_append_int1 1 ez_int; rfl; rfl; rfl; (first | exact rd_row 0 rfl); (first | (focus (simp; omega))); decide; rfl; rfl; intro sv) | (apply px_gives; rfl; rfl; rfl; rfl; rfl; exact fun w hw => ih1 _ _ (by first | exact hw.arr (by assumption)) (by first | exact hw.rowArr (k := 1) rfl); rintro _ _ ⟨sr, rfl, rfl⟩))
          all_goals first
            | (refine qround_normal ?_ ⟨k + 1, ⟨rfl, trivial⟩, ⟨by omega, firstK_miss hno fun h => by simp_all [finS]⟩, by omega, fun w' h => by exact Cl.sub (by assumption) (by repeat (first | exact List.Sublist.slnil | exact List.Sublist.refl _ | apply List.Sublist.cons_cons | exact List.sublist_append_left _ _ | exact List.sublist_append_right _ _ | apply List.Sublist.cons))⟩
               repeat (first | exact same_refl | refine same_upd rfl ?_ | refine same_junk rfl ?_))
            | (rw [firstK_hit hlt hno (by simp_all [finS]) hf]
               refine qbody_ret2 (v := sr) (v' := .bool true) rfl rfl rfl ⟨[.row 3 sr (ints L)], ⟨sr, rfl, rfl⟩, fun w' h => ?_⟩
               exact Cl.sub (by assumption) (by repeat (first | exact List.Sublist.slnil | exact List.Sublist.refl _ | apply List.Sublist.cons_cons | exact List.sublist_append_left _ _ | exact List.sublist_append_right _ _ | apply List.Sublist.cons)))
    · obtain rfl : k = N := by omega
      repeat' (first | apply pwp_seq | apply pwp_region | (apply px_run; (first | (apply opv_move; first | exact hid_int rfl) | (apply opv_assign; first | exact hid_bool rfl | rfl) | (apply opv_lss <;> rfl) | (apply opv_field fld_G0; rfl) | (apply opv_load_blk 0; (first | with_reducible exact sc_int); rfl; rfl; rfl)); rfl; rfl) | apply px_nil | apply qseq_normal | apply qseq_exit | (apply qblock_exit_same; rfl) | apply pwp_exit | apply pwp_ret | apply qround_exit | (apply pwp_cond_dec; rfl; all_goals (intro hc; try (first | (exfalso; omega)))) | (apply px_lit0 ez_int; rfl; rfl; rfl; intro sv))
      refine qbody_ret2 rfl rfl rfl ⟨_, ⟨_, by rw [firstG_all, hno]; rfl, rfl⟩, fun w' h => ?_⟩
      rw [firstG_all, hno]
      exact Cl.sub (by assumption) (by repeat (first | exact List.Sublist.slnil | exact List.Sublist.refl _ | apply List.Sublist.cons_cons | exact List.sublist_append_left _ _ | exact List.sublist_append_right _ _ | apply List.Sublist.cons))
end Go.Proofs.YtcicdnpmlcjcmaaGreat
/- Searches through lists of four, and for holes. -/
namespace Go.Proofs.YtcicdnpmlcjcmaaGreat
open Go Go.RowKit Go.Pw
theorem cast_arr {w : World} {sv : Value} {l m : List Int} (h : l = m) (ha : Arr w sv (ints l)) : Arr w sv (ints m) := h ▸ ha
theorem en_i_FindTwoEdges_1 : Entry Tryz.prog 67 := ⟨_, Tryz.func67, by kernel_rfl, rfl⟩
theorem i_FindTwoEdges_1_c (size : Int) (gv lv : Value) (rows l : List Int) (bg : Nat) (w : World) (hr : Arr w gv (ints rows)) (hv : Arr w lv (ints l)) (hb : Bk w bg [.int .i64 size, gv]) :
    Pure Tryz.prog 67 #[lv, .pointer (some ⟨bg, 0, none⟩)] w (.bool (decide (twoP size rows l))) := by
  refine pure_enter (args := [_, _]) en_i_FindTwoEdges_1 Tryz.func67 rfl Tryz.ntmps67 rfl ?_
  repeat' (first | apply pwp_seq | apply pwp_region | (apply px_run; (first | (apply opv_move; first | rfl) | (apply opv_assign; first | exact hid_bool rfl) | (apply opv_load_old_str st_G; rfl; assumption; rfl) | (apply opv_call; rfl; rfl; exact Cl.stable _ _ _; exact fun w hw => i_IsTwoEdges_c _ _ _ rows l _ (by first | exact hw.arr (by assumption)) (by first | exact hw.arr (by assumption)))); rfl; rfl) | apply px_nil | apply qseq_normal | apply pwp_ret)
  refine qbody_ret1 (v := .bool _) rfl rfl ⟨rfl, fun _ h => h.below⟩
theorem en_i_FindTwoEdges : Entry Tryz.prog 33 := ⟨_, Tryz.func33, by kernel_rfl, rfl⟩
set_option maxHeartbeats 1000000 in
theorem i_FindTwoEdges_c (size : Int) (gv : Value) (rows : List Int) (w : World) (hr : Arr w gv (ints rows)) :
    Gives Tryz.prog 33 #[.agg #[.int .i64 size, gv]] w (fun v objs => ∃ sv, v = .tuple #[sv, .bool (fourX size rows fun l => decide (twoP size rows l)).isSome] ∧ objs = [.row 3 sv (ints ((fourX size rows fun l => decide (twoP size rows l)).getD []))]) := by
  refine gives_enter (args := [_]) en_i_FindTwoEdges Tryz.func33 rfl Tryz.ntmps33 rfl ?_
  rw [← four_firstX (size := size) (rows := rows) (fin := fun l => decide (twoP size rows l)) two_apart]
  repeat' (first | apply pwp_seq | apply pwp_region | (apply px_run; (first | (apply opv_assign; first | exact hid_bool rfl | rfl) | (apply opv_load_str 0 st_G; rfl; rfl; rfl) | (apply opv_extract; rfl; rfl) | (apply opv_make_func; rfl)); rfl; rfl) | apply px_nil | apply qseq_normal | apply pwp_ret | (apply px_box; rfl; rfl; rfl; rfl; intro bk) | (apply px_gives; rfl; rfl; rfl; rfl; rfl; exact fun w hw => i_firstList_c _ 4 _ rows _ _ [] _ (fun _ => true) (fun l => decide (twoP size rows l)) _ (by first | exact hw.arr (by assumption)) (by omega) (by omega) (fun x xv w' hb hx => i_always_c _ _) (fun x xv w' hb hx => i_FindTwoEdges_1_c _ _ _ rows x _ _ (Arr.below (by first | exact hw.arr (by assumption)) hb) hx (Bk.below (hw.bk (k := 0) rfl) hb)); rintro _ _ ⟨sr, rfl, rfl⟩))
  refine qbody_ret2 rfl rfl rfl ⟨_, ⟨_, rfl, rfl⟩, fun w' h => ?_⟩
  exact Cl.sub (by assumption) (by repeat (first | exact List.Sublist.slnil | exact List.Sublist.refl _ | apply List.Sublist.cons_cons | exact List.sublist_append_left _ _ | exact List.sublist_append_right _ _ | apply List.Sublist.cons))
theorem en_s_l4Four : Entry Tryz.prog 71 := ⟨_, Tryz.func71, by kernel_rfl, rfl⟩
set_option maxHeartbeats 1600000 in
theorem s_l4Four_c (size : Int) (gv : Value) (rows : List Int) (w : World) (hr : Arr w gv (ints rows)) :
    Gives Tryz.prog 71 #[.agg #[.int .i64 size, gv], .int .i64 0] w (fun v objs => ∃ sv, v = .tuple #[sv, .bool (fourX size rows fun l => decide (twoP size rows l)).isSome] ∧ objs = [.row 3 sv (ints ((fourX size rows fun l => decide (twoP size rows l)).getD []))]) := by
  refine gives_enter (args := [_, _]) en_s_l4Four Tryz.func71 rfl Tryz.ntmps71 rfl ?_
  repeat' (first | apply pwp_seq | apply pwp_region | (apply px_run; (first | (apply opv_assign; first | exact hid_int rfl | exact hid_bool rfl | rfl)); rfl; rfl) | apply px_nil | apply qseq_normal | apply pwp_block | (apply px_box; rfl; rfl; rfl; rfl; intro bk))
  by_cases hg : IsG size rows
  case neg =>
    have hx : (fourX size rows fun l => decide (twoP size rows l)) = none := by unfold fourX; rw [if_neg hg]
    rw [hx]
    refine pwp_loop_once ?_
    repeat' (first | apply pwp_seq | apply pwp_region | (apply px_run; (first | (apply opv_move; first | exact hid_int rfl | exact hid_bool rfl) | (apply opv_assign; first | exact hid_bool rfl | rfl) | (apply opv_pick_f <;> rfl) | (apply opv_field fld_G0; rfl) | (apply opv_load_str 0 st_G; rfl; rfl; rfl) | (apply opv_call; rfl; rfl; exact Cl.stable _ _ _; exact fun w hw => s_IsGraph_c _ _ rows _ (by first | exact hw.arr (by assumption)))); rfl; rfl) | apply px_nil | (apply px_skip; rfl; rfl) | apply qseq_normal | apply qseq_exit | (apply qblock_exit_same; rfl) | apply pwp_exit | apply pwp_ret | apply qonce_exit | (apply pwp_cond_f; rfl) | (apply px_guard_dec; rfl; rfl; rfl; all_goals (intro hc; try (first | contradiction))) | (apply px_lit0i ez_int; rfl; rfl; rfl; intro sv))
    refine qbody_ret2 (v := sv) (v' := .bool false) rfl rfl rfl ⟨[.row 3 sv (ints [])], ⟨sv, rfl, rfl⟩, fun w' h => ?_⟩
    exact Cl.sub (by assumption) (by repeat (first | exact List.Sublist.slnil | exact List.Sublist.refl _ | apply List.Sublist.cons_cons | exact List.sublist_append_left _ _ | exact List.sublist_append_right _ _ | apply List.Sublist.cons))
  obtain ⟨N, rfl, hrl, hN1, hN7⟩ := isG_size hg
  obtain ⟨⟨q1, q2⟩, ⟨q3, q4⟩, ⟨q5, q6⟩⟩ := pow_bounds hN1 hN7
  have e4 : (N : Int) * N * N * N = ((N * N * N * N : Nat) : Int) := by simp
  have hx : (fourX (N : Int) rows fun l => decide (twoP (N : Int) rows l)) = fourK N (fun l => decide (twoP (N : Int) rows l)) (N * N * N * N) := by unfold fourX; rw [if_pos hg, Int.toNat_natCast]
  rw [hx]
  refine pwp_loop (τ := Nat) [(4,69)] (fun c => [(6, .int .i64 (c : Int))]) (fun _ => Cl [] w [.blk bk [.int .i64 (N : Int), gv]]) (fun c => c ≤ N * N * N * N ∧ fourK N (fun l => decide (twoP (N : Int) rows l)) c = none) (fun c => N * N * N * N - c) 0
    ⟨rfl, trivial⟩ ⟨Nat.zero_le _, rfl⟩ (fun _ h => h) (fun J c hc0 => ?_)
  obtain ⟨hk, hno⟩ := hc0
  by_cases hlt : c < N * N * N * N
  · obtain ⟨g1, g2, g3, g4⟩ := digs_int (N := N) (c := c) (by omega)
    have hd : [w64 ((c : Int).tdiv ((N : Int) * N * N)), (w64 ((c : Int).tdiv ((N : Int) * N))).tmod N, (w64 ((c : Int).tdiv N)).tmod N, (c : Int).tmod N] = digs N c := by rw [g1, g2, g3, g4]; rfl
    have hlt' : (c : Int) < (N : Int) * N * N * N := by omega
    repeat' (first | apply pwp_seq | apply pwp_region | (apply px_run; (first | (apply opv_move; first | exact hid_int rfl | exact hid_bool rfl | rfl) | (apply opv_assign; first | exact hid_int rfl | exact hid_bool rfl | rfl) | (apply opv_lss <;> rfl) | (apply opv_eql <;> rfl) | (apply opv_pick_t <;> rfl) | (apply opv_pick_f <;> rfl) | (apply opv_add_in; rfl; rfl; omega) | (apply opv_mul_in; rfl; rfl; omega) | (apply opv_quo; rfl; rfl; omega) | (apply opv_rem; rfl; rfl; omega) | (apply opv_field fld_G0; rfl) | (apply opv_load_blk 0; (first | with_reducible exact sc_int); rfl; rfl; rfl) | (apply opv_load_str 0 st_G; rfl; rfl; rfl) | (apply opv_load_str 1 st_G; rfl; rfl; rfl) | (apply opv_call; rfl; rfl; exact Cl.stable _ _ _; exact fun w hw => s_IsGraph_c _ _ rows _ (by first | exact hw.arr (by assumption))) | (apply opv_call; rfl; rfl; exact Cl.stable _ _ _; exact fun w hw => s_IsTwoEdges_c _ _ _ rows (digs N c) _ (by first | exact hw.arr (by assumption)) (cast_arr hd (hw.rowArr (k := 0) rfl)))); rfl; rfl) | apply px_nil | (apply px_skip; rfl; rfl) | apply qseq_normal | apply qseq_ret | apply pwp_block | apply qblock_normal | apply qblock_ret | apply pwp_skip | apply pwp_ret | apply qround_ret | (apply pwp_cond_t; rfl) | (apply pwp_cond_f; rfl) | (apply pwp_region_mix; kernel_rfl; decide +kernel; exact Cl.stable _ _ _) | (apply px_guard_dec; rfl; rfl; rfl; all_goals (intro hc; try (first | contradiction))) | (apply pwp_cond_dec; rfl; all_goals (intro hc; try (first | contradiction))) | (apply px_lit4 ez_int; rfl; (intro w hw; (first | rfl)); rfl; (intro w hw; (first | rfl)); rfl; (intro w hw; (first | rfl)); rfl; (intro w hw; (first | rfl)); rfl; rfl; rfl; intro sv))
    all_goals first
      | (refine qround_normal ?_ ⟨c + 1, ⟨rfl, trivial⟩, ⟨by omega, by rw [fourK_succ _ _ _ hno, if_neg (by first | (simpa using hc) | assumption | (intro hcc; simp_all))]⟩, by omega, fun w' h => by exact Cl.sub (by assumption) (by repeat (first | exact List.Sublist.slnil | exact List.Sublist.refl _ | apply List.Sublist.cons_cons | exact List.sublist_append_left _ _ | exact List.sublist_append_right _ _ | apply List.Sublist.cons))⟩
         repeat (first | exact same_refl | refine same_upd rfl ?_ | refine same_junk rfl ?_))
      | (rw [fourK_hit hno hlt (decide_eq_true hc)]
         refine qbody_ret2 (v := sv) (v' := .bool true) rfl rfl rfl ⟨[.row 3 sv (ints (digs N c))], ⟨sv, rfl, rfl⟩, fun w' h => ?_⟩
         rw [← hd]
         exact Cl.sub (by assumption) (by repeat (first | exact List.Sublist.slnil | exact List.Sublist.refl _ | apply List.Sublist.cons_cons | exact List.sublist_append_left _ _ | exact List.sublist_append_right _ _ | apply List.Sublist.cons)))
  · obtain rfl : c = N * N * N * N := by omega
    have hlt' : ¬ (((N * N * N * N : Nat) : Int)) < (N : Int) * N * N * N := by omega
    rw [hno]
    repeat' (first | apply pwp_seq | apply pwp_region | (apply px_run; (first | (apply opv_move; first | exact hid_int rfl | exact hid_bool rfl) | (apply opv_assign; first | exact hid_bool rfl | rfl) | (apply opv_lss <;> rfl) | (apply opv_pick_t <;> rfl) | (apply opv_mul_in; rfl; rfl; omega) | (apply opv_field fld_G0; rfl) | (apply opv_load_blk 0; (first | with_reducible exact sc_int); rfl; rfl; rfl) | (apply opv_load_str 0 st_G; rfl; rfl; rfl) | (apply opv_call; rfl; rfl; exact Cl.stable _ _ _; exact fun w hw => s_IsGraph_c _ _ rows _ (by first | exact hw.arr (by assumption)))); rfl; rfl) | apply px_nil | apply qseq_normal | apply qseq_exit | (apply qblock_exit_same; rfl) | apply pwp_exit | apply pwp_ret | apply qround_exit | (apply px_guard_dec; rfl; rfl; rfl; all_goals (intro hc; try (first | contradiction))) | (apply pwp_cond_dec; rfl; all_goals (intro hc; try (first | contradiction))) | (apply px_lit0i ez_int; rfl; rfl; rfl; intro sv))
    refine qbody_ret2 (v := sv) (v' := .bool false) rfl rfl rfl ⟨[.row 3 sv (ints [])], ⟨sv, rfl, rfl⟩, fun w' h => ?_⟩
    exact Cl.sub (by assumption) (by repeat (first | exact List.Sublist.slnil | exact List.Sublist.refl _ | apply List.Sublist.cons_cons | exact List.sublist_append_left _ _ | exact List.sublist_append_right _ _ | apply List.Sublist.cons))
theorem en_s_FindTwoEdges : Entry Tryz.prog 35 := ⟨_, Tryz.func35, by kernel_rfl, rfl⟩
theorem s_FindTwoEdges_c (size : Int) (gv : Value) (rows : List Int) (w : World) (hr : Arr w gv (ints rows)) :
    Gives Tryz.prog 35 #[.agg #[.int .i64 size, gv]] w (fun v objs => ∃ sv, v = .tuple #[sv, .bool (fourX size rows fun l => decide (twoP size rows l)).isSome] ∧ objs = [.row 3 sv (ints ((fourX size rows fun l => decide (twoP size rows l)).getD []))]) := by
  refine gives_enter (args := [_]) en_s_FindTwoEdges Tryz.func35 rfl Tryz.ntmps35 rfl ?_
  repeat' (first | apply pwp_seq | apply pwp_region | (apply px_run; (first | (apply opv_move; first | exact hid_bool rfl | rfl) | (apply opv_assign; first | exact hid_bool rfl | rfl) | (apply opv_load_str 0 st_G; rfl; rfl; rfl) | (apply opv_extract; rfl; rfl)); rfl; rfl) | apply px_nil | apply qseq_normal | apply pwp_ret | (apply px_box; rfl; rfl; rfl; rfl; intro bk) | (apply px_gives; rfl; rfl; rfl; rfl; rfl; exact fun w hw => s_l4Four_c _ _ rows _ (by first | exact hw.arr (by assumption)); rintro _ _ ⟨sr, rfl, rfl⟩))
  refine qbody_ret2 rfl rfl rfl ⟨_, ⟨_, rfl, rfl⟩, fun w' h => ?_⟩
  exact Cl.sub (by assumption) (by repeat (first | exact List.Sublist.slnil | exact List.Sublist.refl _ | apply List.Sublist.cons_cons | exact List.sublist_append_left _ _ | exact List.sublist_append_right _ _ | apply List.Sublist.cons))
theorem en_i_FindHole_1 : Entry Tryz.prog 68 := ⟨_, Tryz.func68, by kernel_rfl, rfl⟩
theorem i_FindHole_1_c (size : Int) (gv lv : Value) (rows l : List Int) (n bn bg : Nat) (w : World) (hr : Arr w gv (ints rows)) (hv : Arr w lv (ints l)) (hn : Bk w bn [.int .i64 (n : Int)]) (hb : Bk w bg [.int .i64 size, gv]) :
    Pure Tryz.prog 68 #[lv, .pointer (some ⟨bn, 0, none⟩), .pointer (some ⟨bg, 0, none⟩)] w (.bool (decide (l.length = n) || decide (pathP size rows l))) := by
  refine pure_enter (args := [_, _, _]) en_i_FindHole_1 Tryz.func68 rfl Tryz.ntmps68 rfl ?_
  repeat' (first | apply pwp_seq | apply pwp_region | (apply px_run; (first | (apply opv_move; first | exact hid_bool rfl | rfl) | (apply opv_assign; first | exact hid_bool rfl) | (apply opv_eql <;> rfl) | (apply opv_pick_t <;> rfl) | (apply opv_pick_f <;> rfl) | (apply opv_len_ints el_int; rfl; (first | exact rd_old (by assumption))) | (apply opv_load_old; (first | with_reducible exact sc_int); rfl; assumption; rfl) | (apply opv_load_old_str st_G; rfl; assumption; rfl) | (apply opv_call; rfl; rfl; exact Cl.stable _ _ _; exact fun w hw => i_IsInducedPath_c _ _ _ rows l _ (by first | exact hw.arr (by assumption)) (by first | exact hw.arr (by assumption)))); rfl; rfl) | apply px_nil | (apply px_skip; rfl; rfl) | apply qseq_normal | apply pwp_ret | (apply px_guard_dec; rfl; rfl; rfl; all_goals (intro hc; try (first | fail))))
  · refine qbody_ret1 (v := .bool true) rfl rfl ⟨by rw [decide_eq_true (show l.length = n by omega)]; rfl, fun _ h => h.below⟩
  · refine qbody_ret1 (v := .bool _) rfl rfl ⟨by rw [decide_eq_false (show ¬ l.length = n by omega), Bool.false_or], fun _ h => h.below⟩
theorem en_i_FindHole_2 : Entry Tryz.prog 70 := ⟨_, Tryz.func70, by kernel_rfl, rfl⟩
theorem i_FindHole_2_c (size : Int) (gv lv : Value) (rows l : List Int) (bg : Nat) (w : World) (hr : Arr w gv (ints rows)) (hv : Arr w lv (ints l)) (hb : Bk w bg [.int .i64 size, gv]) :
    Pure Tryz.prog 70 #[lv, .pointer (some ⟨bg, 0, none⟩)] w (.bool (decide (holeP size rows l))) := by
  refine pure_enter (args := [_, _]) en_i_FindHole_2 Tryz.func70 rfl Tryz.ntmps70 rfl ?_
  repeat' (first | apply pwp_seq | apply pwp_region | (apply px_run; (first | (apply opv_move; first | rfl) | (apply opv_assign; first | exact hid_bool rfl) | (apply opv_load_old_str st_G; rfl; assumption; rfl) | (apply opv_call; rfl; rfl; exact Cl.stable _ _ _; exact fun w hw => i_IsHole_c _ _ _ rows l _ (by first | exact hw.arr (by assumption)) (by first | exact hw.arr (by assumption)))); rfl; rfl) | apply px_nil | apply qseq_normal | apply pwp_ret)
  refine qbody_ret1 (v := .bool _) rfl rfl ⟨rfl, fun _ h => h.below⟩
theorem en_i_FindHole : Entry Tryz.prog 34 := ⟨_, Tryz.func34, by kernel_rfl, rfl⟩
theorem holeK_mono {size : Int} {rows : List Int} {k m : Nat} (h : holeK size rows k = none) (hm : m ≤ k) : holeK size rows m = none := by
  unfold holeK at h ⊢
  rw [List.findSome?_eq_none_iff] at h ⊢
  exact fun i hi => h i (List.mem_range.2 (Nat.lt_of_lt_of_le (List.mem_range.1 hi) hm))
theorem holeX_end {size : Int} {rows : List Int} {k : Nat} (h : holeK size rows k = none) (hk : IsG size rows → size < 4 + k) : holeX size rows = none := by
  by_cases hg : IsG size rows
  · have := hk hg
    have := hg.1
    exact holeK_mono h (by omega)
  · exact holeX_none hg
theorem holeX_hit {size : Int} {rows : List Int} {k : Nat} {L : List Int} (h : holeK size rows k = none) (hk : (4 : Int) + k ≤ size) (hL : holeT size rows (4 + k) = some L) : holeX size rows = some L :=
  holeK_hit h (by omega) hL
set_option maxHeartbeats 1600000 in
theorem i_FindHole_c (size : Int) (gv : Value) (rows : List Int) (w : World) (hr : Arr w gv (ints rows)) :
    Gives Tryz.prog 34 #[.agg #[.int .i64 size, gv]] w (fun v objs => ∃ sv, v = .tuple #[sv, .bool (holeX size rows).isSome] ∧ objs = [.row 3 sv (ints ((holeX size rows).getD []))]) := by
  refine gives_enter (args := [_]) en_i_FindHole Tryz.func34 rfl Tryz.ntmps34 rfl ?_
  repeat' (first | apply pwp_seq | apply pwp_region | (apply px_run; (first | (apply opv_assign; first | exact hid_bool rfl | rfl)); rfl; rfl) | apply px_nil | apply qseq_normal | apply pwp_block | (apply px_box; rfl; rfl; rfl; rfl; intro bk) | (apply px_alloc1 ez_int rfl; rfl; rfl; rfl; intro bk) | (apply px_store_blk 0; (first | with_reducible exact co_int); rfl; rfl; rfl; (intro w hw; (first | rfl)); rfl; rfl))
  rename_i bg
  refine pwp_loop (τ := Nat × Nat) [(2,26)] (fun x => [(4, .pointer (some ⟨x.2, 0, none⟩))]) (fun x => Cl [] w [.blk x.2 [.int .i64 ((4 + x.1 : Nat) : Int)], .blk bg [.int .i64 size, gv]]) (fun x => x.1 ≤ 4 ∧ holeK size rows x.1 = none) (fun x => 8 - x.1) (0, bk)
    ⟨rfl, trivial⟩ ⟨Nat.zero_le _, rfl⟩ (fun _ h => h) (fun J x hx => ?_)
  obtain ⟨k, bn⟩ := x
  dsimp only at hx ⊢
  obtain ⟨hk, hno⟩ := hx
  by_cases hlt : ((4 + k : Nat) : Int) ≤ min size 7
  · have hle : ((4 + k : Nat) : Int) ≤ size ∧ ((4 + k : Nat) : Int) ≤ 7 := ⟨Int.le_trans hlt (Int.min_le_left ..), Int.le_trans hlt (Int.min_le_right ..)⟩
    have key : ∀ w', Cl [] w [.blk bn [.int .i64 ((4 + k : Nat) : Int)], .blk bg [.int .i64 size, gv]] w' → Gives Tryz.prog 65 #[.agg #[.int .i64 size, gv], .int .i64 ((4 + k : Nat) : Int), .func (.func 68) #[] #[.pointer (some ⟨bn, 0, none⟩), .pointer (some ⟨bg, 0, none⟩)], .func (.func 70) #[] #[.pointer (some ⟨bg, 0, none⟩)]] w'
        (fun v objs => ∃ sv, v = .tuple #[sv, .bool (holeT size rows (4 + k)).isSome] ∧ objs = [.row 3 sv (ints ((holeT size rows (4 + k)).getD []))]) := fun w' hw =>
      i_firstList_c size (4 + k) gv rows 68 70 [.pointer (some ⟨bn, 0, none⟩), .pointer (some ⟨bg, 0, none⟩)] [.pointer (some ⟨bg, 0, none⟩)] _ _ w' (by first | exact hw.arr (by assumption) | exact hw.rowArr (k := 0) rfl | exact hw.rowArr (k := 1) rfl | exact hw.rowArr (k := 2) rfl | exact hw.rowArr (k := 3) rfl | exact hw.rowArr (k := 4) rfl | exact hw.rowArr (k := 5) rfl | exact hw.rowArr (k := 6) rfl | exact hw.rowArr (k := 7) rfl | exact hw.rowArr (k := 8) rfl | exact hw.rowArr (k := 9) rfl | exact hw.rowArr (k := 10) rfl | exact hw.rowArr (k := 11) rfl | exact hw.rowArr (k := 12) rfl | exact hw.rowArr (k := 13) rfl | exact hw.rowArr (k := 14) rfl | exact hw.rowArr (k := 15) rfl | exact hw.rowArr (k := 16) rfl | exact hw.rowArr (k := 17) rfl | exact hw.rowArr (k := 18) rfl | exact hw.rowArr (k := 19) rfl) (by omega) (by omega)
        (fun x xv w2 hb hx => i_FindHole_1_c _ _ _ rows x _ _ _ _ (Arr.below (by first | exact hw.arr (by assumption) | exact hw.rowArr (k := 0) rfl | exact hw.rowArr (k := 1) rfl | exact hw.rowArr (k := 2) rfl | exact hw.rowArr (k := 3) rfl | exact hw.rowArr (k := 4) rfl | exact hw.rowArr (k := 5) rfl | exact hw.rowArr (k := 6) rfl | exact hw.rowArr (k := 7) rfl | exact hw.rowArr (k := 8) rfl | exact hw.rowArr (k := 9) rfl | exact hw.rowArr (k := 10) rfl | exact hw.rowArr (k := 11) rfl | exact hw.rowArr (k := 12) rfl | exact hw.rowArr (k := 13) rfl | exact hw.rowArr (k := 14) rfl | exact hw.rowArr (k := 15) rfl | exact hw.rowArr (k := 16) rfl | exact hw.rowArr (k := 17) rfl | exact hw.rowArr (k := 18) rfl | exact hw.rowArr (k := 19) rfl) hb) hx (Bk.below (hw.bk (k := 0) rfl) hb) (Bk.below (hw.bk (k := 1) rfl) hb)) (fun x xv w2 hb hx => i_FindHole_2_c _ _ _ rows x _ _ (Arr.below (by first | exact hw.arr (by assumption) | exact hw.rowArr (k := 0) rfl | exact hw.rowArr (k := 1) rfl | exact hw.rowArr (k := 2) rfl | exact hw.rowArr (k := 3) rfl | exact hw.rowArr (k := 4) rfl | exact hw.rowArr (k := 5) rfl | exact hw.rowArr (k := 6) rfl | exact hw.rowArr (k := 7) rfl | exact hw.rowArr (k := 8) rfl | exact hw.rowArr (k := 9) rfl | exact hw.rowArr (k := 10) rfl | exact hw.rowArr (k := 11) rfl | exact hw.rowArr (k := 12) rfl | exact hw.rowArr (k := 13) rfl | exact hw.rowArr (k := 14) rfl | exact hw.rowArr (k := 15) rfl | exact hw.rowArr (k := 16) rfl | exact hw.rowArr (k := 17) rfl | exact hw.rowArr (k := 18) rfl | exact hw.rowArr (k := 19) rfl) hb) hx (Bk.below (hw.bk (k := 1) rfl) hb))
    cases hf : holeT size rows (4 + k) with
    | none =>
      rw [hf] at key
      repeat' (first | apply pwp_seq | apply pwp_region | (apply px_run; (first | (apply opv_move; first | exact hid_bool rfl | rfl) | (apply opv_assign; first | exact hid_bool rfl | rfl) | (apply opv_leq <;> rfl) | (apply opv_add_in; rfl; rfl; omega) | (apply opv_field fld_G0; rfl) | (apply opv_load_blk 0; (first | with_reducible exact sc_int); rfl; rfl; rfl) | (apply opv_load_blk 1; (first | with_reducible exact sc_int); rfl; rfl; rfl) | (apply opv_load_str 1 st_G; rfl; rfl; rfl) | (apply opv_extract; rfl; rfl) | (apply opv_make_func; rfl)); rfl; rfl) | apply px_nil | apply qseq_normal | apply pwp_block | apply qblock_normal | apply pwp_skip | (apply pwp_cond_f; rfl) | (apply pwp_cond_dec; rfl; all_goals (intro hc; try (first | contradiction))) | (apply px_alloc1 ez_int rfl; rfl; rfl; rfl; intro bk) | (apply px_store_blk 0; (first | with_reducible exact co_int); rfl; rfl; rfl; (intro w hw; (first | rfl)); rfl; rfl) | (apply px_run; (apply opv_min <;> rfl); rfl; rfl) | (apply px_gives; rfl; rfl; rfl; rfl; rfl; exact fun w hw => key _ hw; rintro _ _ ⟨sr, rfl, rfl⟩))
      refine qround_normal ?_ ⟨(k + 1, bk), ⟨rfl, trivial⟩, ⟨by dsimp only; omega, by dsimp only; rw [holeK_succ _ _ _ hno]; exact hf⟩, by dsimp only; omega, fun w' h => ?_⟩
      · repeat (first | exact same_refl | refine same_upd rfl ?_ | refine same_junk rfl ?_)
      · dsimp only
        exact Cl.sub (by assumption) (by repeat (first | exact List.Sublist.slnil | exact List.Sublist.refl _ | apply List.Sublist.cons_cons | exact List.sublist_append_left _ _ | exact List.sublist_append_right _ _ | apply List.Sublist.cons))
    | some L =>
      rw [hf] at key
      rw [holeX_hit hno (by omega) hf]
      repeat' (first | apply pwp_seq | apply pwp_region | (apply px_run; (first | (apply opv_move; first | exact hid_bool rfl | rfl) | (apply opv_assign; first | exact hid_bool rfl | rfl) | (apply opv_leq <;> rfl) | (apply opv_field fld_G0; rfl) | (apply opv_load_blk 0; (first | with_reducible exact sc_int); rfl; rfl; rfl) | (apply opv_load_blk 1; (first | with_reducible exact sc_int); rfl; rfl; rfl) | (apply opv_load_str 1 st_G; rfl; rfl; rfl) | (apply opv_extract; rfl; rfl) | (apply opv_make_func; rfl)); rfl; rfl) | apply px_nil | apply qseq_normal | apply qseq_ret | apply pwp_block | apply qblock_ret | apply pwp_skip | apply pwp_ret | apply qround_ret | (apply pwp_cond_t; rfl) | (apply pwp_cond_dec; rfl; all_goals (intro hc; try (first | contradiction))) | (apply px_run; (apply opv_min <;> rfl); rfl; rfl) | (apply px_gives; rfl; rfl; rfl; rfl; rfl; exact fun w hw => key _ hw; rintro _ _ ⟨sr, rfl, rfl⟩))
      refine qbody_ret2 rfl rfl rfl ⟨_, ⟨_, rfl, rfl⟩, fun w' h => ?_⟩
      exact Cl.sub (by assumption) (by repeat (first | exact List.Sublist.slnil | exact List.Sublist.refl _ | apply List.Sublist.cons_cons | exact List.sublist_append_left _ _ | exact List.sublist_append_right _ _ | apply List.Sublist.cons))
  · rw [holeX_end hno fun hg => by have := hg.1; rw [Int.min_def] at hlt; split at hlt <;> omega]
    repeat' (first | apply pwp_seq | apply pwp_region | (apply px_run; (first | (apply opv_assign; first | exact hid_bool rfl | rfl) | (apply opv_leq <;> rfl) | (apply opv_field fld_G0; rfl) | (apply opv_load_blk 0; (first | with_reducible exact sc_int); rfl; rfl; rfl) | (apply opv_load_blk 1; (first | with_reducible exact sc_int); rfl; rfl; rfl)); rfl; rfl) | apply px_nil | apply qseq_normal | apply qseq_exit | (apply qblock_exit_same; rfl) | apply pwp_exit | apply pwp_ret | apply qround_exit | (apply pwp_cond_dec; rfl; all_goals (intro hc; try (first | contradiction))) | (apply px_run; (apply opv_min <;> rfl); rfl; rfl))
    refine qbody_ret2 rfl rfl rfl ⟨_, ⟨_, rfl, rfl⟩, fun w' h => ?_⟩
    exact (h.sub (List.nil_sublist _)).nilRow _
theorem en_s_FindHole : Entry Tryz.prog 36 := ⟨_, Tryz.func36, by kernel_rfl, rfl⟩
set_option maxHeartbeats 1600000 in
theorem s_FindHole_c (size : Int) (gv : Value) (rows : List Int) (w : World) (hr : Arr w gv (ints rows)) :
    Gives Tryz.prog 36 #[.agg #[.int .i64 size, gv]] w (fun v objs => ∃ sv, v = .tuple #[sv, .bool (holeX size rows).isSome] ∧ objs = [.row 3 sv (ints ((holeX size rows).getD []))]) := by
  refine gives_enter (args := [_]) en_s_FindHole Tryz.func36 rfl Tryz.ntmps36 rfl ?_
  repeat' (first | apply pwp_seq | apply pwp_region | (apply px_run; (first | (apply opv_assign; first | exact hid_int rfl | exact hid_bool rfl | rfl)); rfl; rfl) | apply px_nil | apply qseq_normal | apply pwp_block | (apply px_box; rfl; rfl; rfl; rfl; intro bk))
  by_cases hg : IsG size rows
  case neg =>
    rw [holeX_none hg]
    refine pwp_loop_once ?_
    repeat' (first | apply pwp_seq | apply pwp_region | (apply px_run; (first | (apply opv_move; first | exact hid_int rfl | exact hid_bool rfl) | (apply opv_assign; first | exact hid_bool rfl | rfl) | (apply opv_leq <;> rfl) | (apply opv_pick_t <;> rfl) | (apply opv_pick_f <;> rfl) | (apply opv_field fld_G0; rfl) | (apply opv_load_blk 0; (first | with_reducible exact sc_int); rfl; rfl; rfl) | (apply opv_load_str 0 st_G; rfl; rfl; rfl) | (apply opv_call; rfl; rfl; exact Cl.stable _ _ _; exact fun w hw => s_IsGraph_c _ _ rows _ (by first | exact hw.arr (by assumption)))); rfl; rfl) | apply px_nil | (apply px_skip; rfl; rfl) | apply qseq_normal | apply qseq_exit | (apply qblock_exit_same; rfl) | apply pwp_exit | apply pwp_ret | apply qonce_exit | (apply pwp_cond_f; rfl) | (apply px_guard_dec; rfl; rfl; rfl; all_goals (intro hc; try (first | fail))) | (apply pwp_cond_dec; rfl; all_goals (intro hc; try (first | contradiction))) | (apply px_lit0i ez_int; rfl; rfl; rfl; intro sv))
    all_goals
      refine qbody_ret2 (v := sv) (v' := .bool false) rfl rfl rfl ⟨[.row 3 sv (ints [])], ⟨sv, rfl, rfl⟩, fun w' h => ?_⟩
      exact Cl.sub (by assumption) (by repeat (first | exact List.Sublist.slnil | exact List.Sublist.refl _ | apply List.Sublist.cons_cons | exact List.sublist_append_left _ _ | exact List.sublist_append_right _ _ | apply List.Sublist.cons))
  obtain ⟨N, hN, hrl, hN1, hN7⟩ := isG_size hg
  refine pwp_loop (τ := Nat) [(2,25)] (fun k => [(4, .int .i64 ((4 + k : Nat) : Int))]) (fun _ => Cl [] w [.blk bk [.int .i64 size, gv]]) (fun k => k ≤ 4 ∧ holeK size rows k = none) (fun k => 8 - k) 0
    ⟨rfl, trivial⟩ ⟨Nat.zero_le _, rfl⟩ (fun _ h => h) (fun J k hx => ?_)
  obtain ⟨hk, hno⟩ := hx
  by_cases hlt : ((4 + k : Nat) : Int) ≤ size
  · have key := s_l4Search_c size N (4 + k) gv rows true hN (by omega) (by omega) (3 + k) []
    have e := hole_firstR (m := 3 + k) hg
    rw [show size.toNat = N by omega, show 3 + k + 1 = 4 + k by omega] at e
    rw [show 3 + k + 1 = 4 + k by omega, e] at key
    cases hf : holeT size rows (4 + k) with
    | none =>
      rw [hf] at key
      repeat' (first | apply pwp_seq | apply pwp_region | (apply px_run; (first | (apply opv_move; first | exact hid_int rfl | exact hid_bool rfl | rfl) | (apply opv_assign; first | exact hid_int rfl | exact hid_bool rfl | rfl) | (apply opv_leq <;> rfl) | (apply opv_pick_t <;> rfl) | (apply opv_add_in; rfl; rfl; omega) | (apply opv_field fld_G0; rfl) | (apply opv_load_blk 0; (first | with_reducible exact sc_int); rfl; rfl; rfl) | (apply opv_load_str 0 st_G; rfl; rfl; rfl) | (apply opv_extract; rfl; rfl) | (apply opv_call; rfl; rfl; exact Cl.stable _ _ _; exact fun w hw => s_IsGraph_c _ _ rows _ (by first | exact hw.arr (by assumption)))); rfl; rfl) | apply px_nil | apply qseq_normal | apply pwp_block | apply qblock_normal | apply pwp_skip | (apply pwp_cond_f; rfl) | (apply px_guard_dec; rfl; rfl; rfl; all_goals (intro hc; try (first | contradiction))) | (apply pwp_cond_dec; rfl; all_goals (intro hc; try (first | contradiction))) | (apply px_lit0i ez_int; rfl; rfl; rfl; intro sv) | (apply px_gives; rfl; rfl; rfl; rfl; rfl; exact fun w hw => key _ _ (by simp) (by first | exact hw.arr (by assumption)) (by first | exact hw.rowArr (k := 0) rfl); rintro _ _ ⟨sr, rfl, rfl⟩))
      refine qround_normal ?_ ⟨k + 1, ⟨rfl, trivial⟩, ⟨by omega, by rw [holeK_succ _ _ _ hno]; exact hf⟩, by omega, fun w' h => by exact Cl.sub (by assumption) (by repeat (first | exact List.Sublist.slnil | exact List.Sublist.refl _ | apply List.Sublist.cons_cons | exact List.sublist_append_left _ _ | exact List.sublist_append_right _ _ | apply List.Sublist.cons))⟩
      repeat (first | exact same_refl | refine same_upd rfl ?_ | refine same_junk rfl ?_)
    | some L =>
      rw [hf] at key
      rw [holeX_hit hno (by omega) hf]
      repeat' (first | apply pwp_seq | apply pwp_region | (apply px_run; (first | (apply opv_move; first | exact hid_int rfl | exact hid_bool rfl | rfl) | (apply opv_assign; first | exact hid_bool rfl | rfl) | (apply opv_leq <;> rfl) | (apply opv_pick_t <;> rfl) | (apply opv_field fld_G0; rfl) | (apply opv_load_blk 0; (first | with_reducible exact sc_int); rfl; rfl; rfl) | (apply opv_load_str 0 st_G; rfl; rfl; rfl) | (apply opv_extract; rfl; rfl) | (apply opv_call; rfl; rfl; exact Cl.stable _ _ _; exact fun w hw => s_IsGraph_c _ _ rows _ (by first | exact hw.arr (by assumption)))); rfl; rfl) | apply px_nil | apply qseq_normal | apply qseq_ret | apply pwp_block | apply qblock_ret | apply pwp_skip | apply pwp_ret | apply qround_ret | (apply pwp_cond_t; rfl) | (apply px_guard_dec; rfl; rfl; rfl; all_goals (intro hc; try (first | contradiction))) | (apply pwp_cond_dec; rfl; all_goals (intro hc; try (first | contradiction))) | (apply px_lit0i ez_int; rfl; rfl; rfl; intro sv) | (apply px_gives; rfl; rfl; rfl; rfl; rfl; exact fun w hw => key _ _ (by simp) (by first | exact hw.arr (by assumption)) (by first | exact hw.rowArr (k := 0) rfl); rintro _ _ ⟨sr, rfl, rfl⟩))
      refine qbody_ret2 rfl rfl rfl ⟨_, ⟨_, rfl, rfl⟩, fun w' h => ?_⟩
      exact Cl.sub (by assumption) (by repeat (first | exact List.Sublist.slnil | exact List.Sublist.refl _ | apply List.Sublist.cons_cons | exact List.sublist_append_left _ _ | exact List.sublist_append_right _ _ | apply List.Sublist.cons))
  · rw [holeX_end hno fun hg => by omega]
    repeat' (first | apply pwp_seq | apply pwp_region | (apply px_run; (first | (apply opv_move; first | exact hid_int rfl | exact hid_bool rfl) | (apply opv_assign; first | exact hid_bool rfl | rfl) | (apply opv_leq <;> rfl) | (apply opv_pick_f <;> rfl) | (apply opv_field fld_G0; rfl) | (apply opv_load_blk 0; (first | with_reducible exact sc_int); rfl; rfl; rfl) | (apply opv_load_str 0 st_G; rfl; rfl; rfl)); rfl; rfl) | apply px_nil | (apply px_skip; rfl; rfl) | apply qseq_normal | apply qseq_exit | (apply qblock_exit_same; rfl) | apply pwp_exit | apply pwp_ret | apply qround_exit | (apply pwp_cond_f; rfl) | (apply px_guard_dec; rfl; rfl; rfl; all_goals (intro hc; try (first | contradiction))) | (apply px_lit0i ez_int; rfl; rfl; rfl; intro sv))
    refine qbody_ret2 (v := sv) (v' := .bool false) rfl rfl rfl ⟨[.row 3 sv (ints [])], ⟨sv, rfl, rfl⟩, fun w' h => ?_⟩
    exact Cl.sub (by assumption) (by repeat (first | exact List.Sublist.slnil | exact List.Sublist.refl _ | apply List.Sublist.cons_cons | exact List.sublist_append_left _ _ | exact List.sublist_append_right _ _ | apply List.Sublist.cons))
theorem en_i_SplitObstacle : Entry Tryz.prog 9 := ⟨_, Tryz.func9, by kernel_rfl, rfl⟩
theorem i_SplitObstacle_c (size : Int) (gv : Value) (rows : List Int) (w : World) (hr : Arr w gv (ints rows)) :
    Gives Tryz.prog 9 #[.agg #[.int .i64 size, gv]] w (fun v objs => ∃ sv, v = .tuple #[sv, .bool (splitObsX size rows).isSome] ∧ objs = [.row 3 sv (ints ((splitObsX size rows).getD []))]) := by
  refine gives_enter (args := [_]) en_i_SplitObstacle Tryz.func9 rfl Tryz.ntmps9 rfl ?_
  have h2 := fun w' h => i_FindTwoEdges_c size gv rows w' h
  unfold splitObsX
  cases hf : fourX size rows fun l => decide (twoP size rows l) with
  | none =>
    simp only [hf] at h2
    repeat' (first | apply pwp_seq | apply pwp_region | (apply px_run; (first | (apply opv_move; first | exact hid_bool rfl | rfl) | (apply opv_assign; first | exact hid_bool rfl | rfl) | (apply opv_load_str 0 st_G; rfl; rfl; rfl) | (apply opv_load_str 1 st_G; rfl; rfl; rfl) | (apply opv_extract; rfl; rfl)); rfl; rfl) | apply px_nil | apply qseq_normal | apply pwp_skip | apply pwp_ret | (apply pwp_cond_f; rfl) | (apply px_box; rfl; rfl; rfl; rfl; intro bk) | (apply px_gives; rfl; rfl; rfl; rfl; rfl; exact fun w hw => h2 _ (by first | exact hw.arr (by assumption)); rintro _ _ ⟨sr, rfl, rfl⟩) | (apply px_gives; rfl; rfl; rfl; rfl; rfl; exact fun w hw => i_FindHole_c _ _ rows _ (by first | exact hw.arr (by assumption)); rintro _ _ ⟨sh, rfl, rfl⟩))
    refine qbody_ret2 rfl rfl rfl ⟨_, ⟨_, rfl, rfl⟩, fun w' h => ?_⟩
    exact Cl.sub (by assumption) (by repeat (first | exact List.Sublist.slnil | exact List.Sublist.refl _ | apply List.Sublist.cons_cons | exact List.sublist_append_left _ _ | exact List.sublist_append_right _ _ | apply List.Sublist.cons))
  | some L =>
    simp only [hf] at h2
    repeat' (first | apply pwp_seq | apply pwp_region | (apply px_run; (first | (apply opv_move; first | exact hid_bool rfl | rfl) | (apply opv_assign; first | exact hid_bool rfl | rfl) | (apply opv_load_str 0 st_G; rfl; rfl; rfl) | (apply opv_extract; rfl; rfl)); rfl; rfl) | apply px_nil | apply qseq_normal | apply qseq_ret | apply pwp_ret | (apply pwp_cond_t; rfl) | (apply px_box; rfl; rfl; rfl; rfl; intro bk) | (apply px_gives; rfl; rfl; rfl; rfl; rfl; exact fun w hw => h2 _ (by first | exact hw.arr (by assumption)); rintro _ _ ⟨sr, rfl, rfl⟩))
    refine qbody_ret2 rfl rfl rfl ⟨_, ⟨_, rfl, rfl⟩, fun w' h => ?_⟩
    exact Cl.sub (by assumption) (by repeat (first | exact List.Sublist.slnil | exact List.Sublist.refl _ | apply List.Sublist.cons_cons | exact List.sublist_append_left _ _ | exact List.sublist_append_right _ _ | apply List.Sublist.cons))
theorem en_s_SplitObstacle : Entry Tryz.prog 10 := ⟨_, Tryz.func10, by kernel_rfl, rfl⟩
theorem s_SplitObstacle_c (size : Int) (gv : Value) (rows : List Int) (w : World) (hr : Arr w gv (ints rows)) :
    Gives Tryz.prog 10 #[.agg #[.int .i64 size, gv]] w (fun v objs => ∃ sv, v = .tuple #[sv, .bool (splitObsX size rows).isSome] ∧ objs = [.row 3 sv (ints ((splitObsX size rows).getD []))]) := by
  refine gives_enter (args := [_]) en_s_SplitObstacle Tryz.func10 rfl Tryz.ntmps10 rfl ?_
  have h2 := fun w' h => s_FindTwoEdges_c size gv rows w' h
  unfold splitObsX
  cases hf : fourX size rows fun l => decide (twoP size rows l) with
  | none =>
    simp only [hf] at h2
    repeat' (first | apply pwp_seq | apply pwp_region | (apply px_run; (first | (apply opv_move; first | exact hid_bool rfl | rfl) | (apply opv_assign; first | exact hid_bool rfl | rfl) | (apply opv_load_str 0 st_G; rfl; rfl; rfl) | (apply opv_load_str 1 st_G; rfl; rfl; rfl) | (apply opv_extract; rfl; rfl)); rfl; rfl) | apply px_nil | apply qseq_normal | apply pwp_skip | apply pwp_ret | (apply pwp_cond_f; rfl) | (apply px_box; rfl; rfl; rfl; rfl; intro bk) | (apply px_gives; rfl; rfl; rfl; rfl; rfl; exact fun w hw => h2 _ (by first | exact hw.arr (by assumption)); rintro _ _ ⟨sr, rfl, rfl⟩) | (apply px_gives; rfl; rfl; rfl; rfl; rfl; exact fun w hw => s_FindHole_c _ _ rows _ (by first | exact hw.arr (by assumption)); rintro _ _ ⟨sh, rfl, rfl⟩))
    refine qbody_ret2 rfl rfl rfl ⟨_, ⟨_, rfl, rfl⟩, fun w' h => ?_⟩
    exact Cl.sub (by assumption) (by repeat (first | exact List.Sublist.slnil | exact List.Sublist.refl _ | apply List.Sublist.cons_cons | exact List.sublist_append_left _ _ | exact List.sublist_append_right _ _ | apply List.Sublist.cons))
  | some L =>
    simp only [hf] at h2
    repeat' (first | apply pwp_seq | apply pwp_region | (apply px_run; (first | (apply opv_move; first | exact hid_bool rfl | rfl) | (apply opv_assign; first | exact hid_bool rfl | rfl) | (apply opv_load_str 0 st_G; rfl; rfl; rfl) | (apply opv_extract; rfl; rfl)); rfl; rfl) | apply px_nil | apply qseq_normal | apply qseq_ret | apply pwp_ret | (apply pwp_cond_t; rfl) | (apply px_box; rfl; rfl; rfl; rfl; intro bk) | (apply px_gives; rfl; rfl; rfl; rfl; rfl; exact fun w hw => h2 _ (by first | exact hw.arr (by assumption)); rintro _ _ ⟨sr, rfl, rfl⟩))
    refine qbody_ret2 rfl rfl rfl ⟨_, ⟨_, rfl, rfl⟩, fun w' h => ?_⟩
    exact Cl.sub (by assumption) (by repeat (first | exact List.Sublist.slnil | exact List.Sublist.refl _ | apply List.Sublist.cons_cons | exact List.sublist_append_left _ _ | exact List.sublist_append_right _ _ | apply List.Sublist.cons))
end Go.Proofs.YtcicdnpmlcjcmaaGreat
