/- Lists whose pairs are joined as told: holes, paths, two edges. -/
import Derived.Test.YtpmeehkabaobkaaLd
namespace Go.Proofs.Ytpmeehkabaobkaa
open Go Go.RowKit Go.Pw

theorem en_i_areJoined : Entry Try.prog 130 := ⟨_, Try.func130, by kernel_rfl, rfl⟩
set_option maxHeartbeats 800000 in
theorem i_areJoined_c (size : Int) (gv lv : Value) (rows l : List Int) (f : FuncId) (cs : List Value) (K : Nat → Nat → Bool) (w : World) (hr : Arr w gv (ints rows)) (hv : Arr w lv (ints l))
    (hp : ∀ (i k : Nat) w', i < k → k < l.length → Below w.heap.size w w' → Pure Try.prog f ([Value.int .i64 i, Value.int .i64 k] ++ cs).toArray w' (.bool (K i k))) :
    Pure Try.prog 130 #[.agg #[.int .i64 size, gv], lv, .func (.func f) #[] cs.toArray] w (.bool (decide (joinP size rows l K))) := by
  refine pure_enter (args := [_, _, _]) en_i_areJoined Try.func130 rfl Try.ntmps130 rfl ?_
  have hl := hv.len
  repeat' (first | apply pwp_seq | apply pwp_region | (apply px_run; (first | (apply opv_move; first | exact hid_int rfl | rfl) | (apply opv_assign; first | exact hid_bool rfl) | (apply opv_not_dec <;> rfl) | (apply opv_len_ints el_int; rfl; (first | exact rd_old (by assumption))) | (apply opv_load_str 0 st_G; rfl; rfl; rfl) | (apply opv_call; rfl; rfl; exact Cl.stable _ _ _; exact fun w hw => i_areVertices_c _ _ _ rows l _ (by first | exact hw.arr (by assumption)) (by first | exact hw.arr (by assumption)))); rfl; rfl) | apply px_nil | apply qseq_normal | apply qseq_ret | apply pwp_block | apply pwp_skip | apply pwp_ret | (apply pwp_cond_ndec; rfl; all_goals (intro hc; try (first | fail))) | (apply px_box; rfl; rfl; rfl; rfl; intro bk))
  all_goals try (refine qbody_ret1 (v := .bool _) rfl rfl ⟨ret_false rfl fun h => hc h.1, fun _ h => h.below⟩)
  have hd : distinctP size rows l := hc
  refine pwp_loop (τ := Nat) [(6,8), (15,41)] (fun k => [(15, .int .i64 (k : Int))]) (fun _ => Cl [] w [.blk bk [.int .i64 size, gv]]) (fun k => k ≤ l.length ∧ ∀ j, j < k → ∀ i, i < j → joinQ rows l K j i) (fun k => l.length - k) 0
    ⟨rfl, trivial⟩ ⟨Nat.zero_le _, fun v hv => by omega⟩ (fun _ h => h) (fun J k hk => ?_)
  obtain ⟨hk, hok⟩ := hk
  by_cases hlt : k < l.length
  · obtain ⟨ha1, ha2⟩ := distinct_at hd hlt
    repeat' (first | apply pwp_seq | apply pwp_region | (apply px_run; (first | (apply opv_move; first | exact hid_int rfl) | (apply opv_assign; first | exact hid_int rfl) | (apply opv_lss <;> rfl)); rfl; rfl) | apply px_nil | apply qseq_normal | apply pwp_block | apply pwp_skip | (apply pwp_cond_dec; rfl; all_goals (intro hc; try (first | (exfalso; omega)))))
    refine pwp_loop (τ := Nat) [(6,6), (8,8), (19,40)] (fun i => [(19, .int .i64 (i : Int))]) (fun _ => Cl [] w [.blk bk [.int .i64 size, gv]]) (fun i => i ≤ k ∧ ∀ j, j < i → joinQ rows l K k j) (fun i => k - i) 0
      ⟨rfl, trivial⟩ ⟨Nat.zero_le _, fun v hv => by omega⟩ (fun _ h => h) (fun J2 i hi => ?_)
    obtain ⟨hi, hsi⟩ := hi
    by_cases hli : i < k
    · obtain ⟨hb1, hb2⟩ := distinct_at hd (i := i) (by omega)
      repeat' (first | apply pwp_seq | apply pwp_region | (apply px_run; (first | (apply opv_move; first | exact hid_int rfl | rfl) | (apply opv_assign; first | exact hid_int rfl | exact hid_bool rfl) | (apply opv_lss <;> rfl) | (apply opv_add_in; rfl; rfl; omega) | (apply opv_field fld_G1; rfl) | (apply opv_load_blk 0; (first | with_reducible exact sc_int | with_reducible exact sc_ints); rfl; rfl; rfl) | (apply opv_load_ints sc_int; rfl; (first | exact rd_old (by assumption)); (first | omega)) | (apply opv_index_nat (vs := ints _) el_int; rfl; rfl; (first | exact rd_old (by assumption)); (first | (simp only [ints_length]; omega))) | (apply opv_index (vs := ints _) el_int; rfl; rfl; (first | exact rd_old (by assumption)); omega; (first | (simp only [ints_length]; omega))) | (apply opv_callx; rfl; rfl; exact Cl.stable _ _ _; exact fun w hw => hp i k w hli hlt hw.below) | (apply opv_call; rfl; rfl; exact Cl.stable _ _ _; exact fun w hw => i_has_c _ _ _ (by omega)) | (apply opv_neq_bool ty_bool <;> rfl)); rfl; rfl) | apply px_nil | apply qseq_normal | apply qseq_ret | apply pwp_block | apply qblock_normal | apply qblock_ret | apply pwp_skip | apply pwp_ret | apply qround_ret | (apply pwp_region_mix; kernel_rfl; decide +kernel; exact Cl.stable _ _ _) | (apply pwp_cond_dec; rfl; all_goals (intro hc; try (first | (exfalso; omega)))) | (apply pwp_cond_not; rfl; all_goals (intro hc; try (first | fail))))
      · refine qbody_ret1 (v := .bool _) rfl rfl ⟨ret_false rfl fun h => ?_, fun _ h => h.below⟩
        have := h.2 k hlt i hli
        unfold joinQ at this
        rw [this] at hc
        simp at hc
      · refine qround_normal ?_ ⟨i + 1, ⟨rfl, trivial⟩, ⟨by omega, fun x hx => ?_⟩, by omega, fun _ h => h⟩
        · repeat (first | exact same_refl | refine same_upd rfl ?_ | refine same_junk rfl ?_)
        · by_cases hvk : x < i
          · exact hsi x hvk
          · obtain rfl : x = i := by omega
            unfold joinQ
            simpa using hc
    · repeat' (first | apply pwp_seq | apply pwp_region | (apply px_run; (first | (apply opv_move; first | exact hid_int rfl) | (apply opv_lss <;> rfl) | (apply opv_add_in; rfl; rfl; omega)); rfl; rfl) | apply px_nil | apply qseq_normal | apply qseq_exit | apply qblock_normal | (apply qblock_exit_same; rfl) | apply pwp_exit | apply qround_exit | (apply pwp_cond_dec; rfl; all_goals (intro hc; try (first | (exfalso; omega)))))
      refine qround_normal ?_ ⟨k + 1, ⟨rfl, trivial⟩, ⟨by omega, fun x hx => ?_⟩, by omega, fun _ h => h⟩
      · repeat (first | exact same_refl | refine same_upd rfl ?_ | refine same_junk rfl ?_)
      · by_cases hvk : x < k
        · exact hok x hvk
        · obtain rfl : x = k := by omega
          exact fun y hy => hsi y (by omega)
  · repeat' (first | apply pwp_seq | apply pwp_region | (apply px_run; (first | (apply opv_assign; first | exact hid_bool rfl) | (apply opv_lss <;> rfl)); rfl; rfl) | apply px_nil | apply qseq_normal | apply qseq_exit | (apply qblock_exit_same; rfl) | apply pwp_exit | apply pwp_ret | apply qround_exit | (apply pwp_cond_dec; rfl; all_goals (intro hc; try (first | (exfalso; omega)))))
    refine qbody_ret1 (v := .bool _) rfl rfl ⟨ret_true rfl ⟨hd, fun v hv => hok v (by omega)⟩, fun _ h => h.below⟩
theorem en_i_IsHole_1 : Entry Try.prog 132 := ⟨_, Try.func132, by kernel_rfl, rfl⟩
theorem i_IsHole_1_c (i k b : Nat) (lv : Value) (l : List Int) (w : World) (hb : Bk w b [lv]) (hv : Arr w lv (ints l)) (hik : i < k) (hk : k < l.length) :
    Pure Try.prog 132 #[.int .i64 i, .int .i64 k, .pointer (some ⟨b, 0, none⟩)] w (.bool (holeJ l.length i k)) := by
  refine pure_enter (args := [_, _, _]) en_i_IsHole_1 Try.func132 rfl Try.ntmps132 rfl ?_
  have hl := hv.len
  unfold holeJ
  repeat' (first | apply pwp_seq | apply pwp_region | (apply px_run; (first | (apply opv_move; first | exact hid_int rfl | exact hid_bool rfl | rfl) | (apply opv_assign; first | exact hid_bool rfl) | (apply opv_eql <;> rfl) | (apply opv_pick_t <;> rfl) | (apply opv_pick_f <;> rfl) | (apply opv_add_in; rfl; rfl; omega) | (apply opv_sub_in; rfl; rfl; omega) | (apply opv_len_ints el_int; rfl; (first | exact rd_old (by assumption))) | (apply opv_load_old; (first | with_reducible exact sc_ints); rfl; assumption; rfl)); rfl; rfl) | apply px_nil | (apply px_skip; rfl; rfl) | apply qseq_normal | apply pwp_ret | (apply px_guard_dec; rfl; rfl; rfl; all_goals (intro hc; try (first | fail))))
  all_goals (refine qbody_ret1 (v := .bool _) rfl rfl ⟨by first | exact ret_true rfl (by omega) | exact ret_false rfl (by omega) | exact ret_iff (by omega), fun _ h => h.below⟩)
theorem en_i_IsHole : Entry Try.prog 104 := ⟨_, Try.func104, by kernel_rfl, rfl⟩
theorem i_IsHole_c (size : Int) (gv lv : Value) (rows l : List Int) (w : World) (hr : Arr w gv (ints rows)) (hv : Arr w lv (ints l)) :
    Pure Try.prog 104 #[.agg #[.int .i64 size, gv], lv] w (.bool (decide (holeP size rows l))) := by
  refine pure_enter (args := [_, _]) en_i_IsHole Try.func104 rfl Try.ntmps104 rfl ?_
  have hl := hv.len
  repeat' (first | apply pwp_seq | apply pwp_region | (apply px_run; (first | (apply opv_move; first | exact hid_bool rfl) | (apply opv_assign; first | exact hid_bool rfl) | (apply opv_geq <;> rfl) | (apply opv_pick_t <;> rfl) | (apply opv_pick_f <;> rfl) | (apply opv_load_blk 0; (first | with_reducible exact sc_ints); rfl; rfl; rfl) | (apply opv_len_ints el_int; rfl; (first | exact rd_old (by assumption))) | (apply opv_load_str 1 st_G; rfl; rfl; rfl) | (apply opv_make_func; rfl) | (apply opv_call; rfl; rfl; exact Cl.stable _ _ _; exact fun w hw => i_areJoined_c _ _ _ rows l 132 _ (holeJ l.length) _ (by first | exact hw.arr (by assumption)) (by first | exact hw.arr (by assumption)) (fun i k w' h1 h2 h3 => i_IsHole_1_c i k _ lv l w' ((hw.bk (k := 0) rfl).below h3) ((hw.arr hv).below h3) h1 h2))); rfl; rfl) | apply px_nil | (apply px_skip; rfl; rfl) | apply qseq_normal | apply pwp_ret | (apply px_guard_dec; rfl; rfl; rfl; all_goals (intro hc; try (first | fail))) | (apply px_box; rfl; rfl; rfl; rfl; intro bk) | (apply px_box1; rfl; (intro w hw; (first | exact stor_arr (by assumption))); rfl; rfl; rfl; intro bk))
  · refine qbody_ret1 (v := .bool (decide _)) rfl rfl ⟨ret_iff ⟨fun h => ⟨by omega, h⟩, fun h => h.2⟩, fun _ h => h.below⟩
  · refine qbody_ret1 (v := .bool _) rfl rfl ⟨ret_false rfl fun h => hc (by have := h.1; omega), fun _ h => h.below⟩
theorem en_s_IsHole : Entry Try.prog 99 := ⟨_, Try.func99, by kernel_rfl, rfl⟩
set_option maxHeartbeats 800000 in
theorem s_IsHole_c (size : Int) (gv lv : Value) (rows l : List Int) (w : World) (hr : Arr w gv (ints rows)) (hv : Arr w lv (ints l)) :
    Pure Try.prog 99 #[.agg #[.int .i64 size, gv], lv] w (.bool (decide (holeP size rows l))) := by
  refine pure_enter (args := [_, _]) en_s_IsHole Try.func99 rfl Try.ntmps99 rfl ?_
  have hl := hv.len
  repeat' (first | apply pwp_seq | apply pwp_region | (apply px_run; (first | (apply opv_move; first | exact hid_bool rfl | rfl) | (apply opv_assign; first | exact hid_int rfl | exact hid_bool rfl) | (apply opv_lss <;> rfl) | (apply opv_pick_t <;> rfl) | (apply opv_pick_f <;> rfl) | (apply opv_not_dec <;> rfl) | (apply opv_len_ints el_int; rfl; (first | exact rd_old (by assumption))) | (apply opv_load_str 0 st_G; rfl; rfl; rfl) | (apply opv_call; rfl; rfl; exact Cl.stable _ _ _; exact fun w hw => s_l4Distinct_c _ _ _ rows l _ (by first | exact hw.arr (by assumption)) (by first | exact hw.arr (by assumption)))); rfl; rfl) | apply px_nil | (apply px_skip; rfl; rfl) | apply qseq_normal | apply qseq_ret | apply pwp_block | apply pwp_skip | apply pwp_ret | (apply pwp_cond_t; rfl) | (apply px_guard_ndec; rfl; rfl; rfl; all_goals (intro hc; try (first | fail))) | (apply pwp_cond_dec; rfl; all_goals (intro hc; try (first | fail))) | (apply px_box; rfl; rfl; rfl; rfl; intro bk))
  all_goals try (refine qbody_ret1 (v := .bool _) rfl rfl ⟨ret_false rfl fun h => hc h.2.1, fun _ h => h.below⟩)
  all_goals try (refine qbody_ret1 (v := .bool _) rfl rfl ⟨ret_false rfl fun h => ?_, fun _ h => h.below⟩; have q := h.1; omega)
  have hd : distinctP size rows l := by assumption
  refine pwp_loop (τ := Nat) [(4,6), (16,52)] (fun k => [(5, .int .i64 (k : Int))]) (fun _ => Cl [] w [.blk bk [.int .i64 size, gv]]) (fun k => k ≤ l.length ∧ ∀ j, j < k → ∀ i, i < j → joinQ rows l (holeJ l.length) j i) (fun k => l.length - k) 0
    ⟨rfl, trivial⟩ ⟨Nat.zero_le _, fun v hv => by omega⟩ (fun _ h => h) (fun J k hk => ?_)
  obtain ⟨hk, hok⟩ := hk
  by_cases hlt : k < l.length
  · obtain ⟨ha1, ha2⟩ := distinct_at hd hlt
    repeat' (first | apply pwp_seq | apply pwp_region | (apply px_run; (first | (apply opv_move; first | exact hid_int rfl | rfl) | (apply opv_assign; first | exact hid_int rfl) | (apply opv_lss <;> rfl) | (apply opv_len_ints el_int; rfl; (first | exact rd_old (by assumption)))); rfl; rfl) | apply px_nil | apply qseq_normal | apply pwp_block | apply pwp_skip | (apply pwp_cond_dec; rfl; all_goals (intro hc; try (first | (exfalso; omega)))))
    refine pwp_loop (τ := Nat) [(4,4), (6,6), (22,52)] (fun i => [(6, .int .i64 (i : Int))]) (fun _ => Cl [] w [.blk bk [.int .i64 size, gv]]) (fun i => i ≤ k ∧ ∀ j, j < i → joinQ rows l (holeJ l.length) k j) (fun i => k - i) 0
      ⟨rfl, trivial⟩ ⟨Nat.zero_le _, fun v hv => by omega⟩ (fun _ h => h) (fun J2 i hi => ?_)
    obtain ⟨hi, hsi⟩ := hi
    by_cases hli : i < k
    · obtain ⟨hb1, hb2⟩ := distinct_at hd (i := i) (by omega)
      have he := edge_l hd (i := i) (k := k) (by omega) hlt
      have hq : joinQ rows l (holeJ l.length) k i ↔ hasB (rows.getD (l.getD k 0).toNat 0) (l.getD i 0) = decide (k = i + 1 ∨ (i = 0 ∧ k + 1 = l.length)) := by unfold joinQ holeJ; rw [he]
      repeat' (first | apply pwp_seq | apply pwp_region | (apply px_run; (first | (apply opv_move; first | exact hid_int rfl | exact hid_bool rfl | rfl) | (apply opv_assign; first | exact hid_int rfl | exact hid_bool rfl) | (apply opv_lss <;> rfl) | (apply opv_eql <;> rfl) | (apply opv_pick_t <;> rfl) | (apply opv_pick_f <;> rfl) | (apply opv_add_in; rfl; rfl; omega) | (apply opv_sub_in; rfl; rfl; omega) | (apply opv_load_ints sc_int; rfl; (first | exact rd_old (by assumption)); (first | omega)) | (apply opv_index_nat (vs := ints _) el_int; rfl; rfl; (first | exact rd_old (by assumption)); (first | (simp only [ints_length]; omega))) | (apply opv_len_ints el_int; rfl; (first | exact rd_old (by assumption))) | (apply opv_load_str 0 st_G; rfl; rfl; rfl) | (apply opv_call; rfl; rfl; exact Cl.stable _ _ _; exact fun w hw => s_l2Edge_c _ _ rows _ _ _ (by first | exact hw.arr (by assumption)) (by omega) (by omega)) | (apply opv_neq_bool ty_bool <;> rfl)); rfl; rfl) | apply px_nil | (apply px_skip; rfl; rfl) | apply qseq_normal | apply qseq_ret | apply pwp_block | apply qblock_normal | apply qblock_ret | apply pwp_skip | apply pwp_ret | apply qround_ret | (apply pwp_region_draw; kernel_rfl; kernel_rfl; exact Cl.stable _ _ _) | (apply px_guard_dec; rfl; rfl; rfl; all_goals (intro hc; try (first | fail))) | (apply pwp_cond_dec; rfl; all_goals (intro hc; try (first | (exfalso; omega)))) | (apply pwp_cond_not; rfl; all_goals (intro hc; try (first | fail))))
      all_goals first
        | (refine qbody_ret1 (v := .bool _) rfl rfl ⟨ret_false rfl fun h => ?_, fun _ h => h.below⟩
           have := hq.1 (h.2.2 k hlt i hli)
           rw [this] at hc
           first | (simp at hc; done) | (simp at hc; omega) | (simp only [beq_eq_false_iff_ne, bne_iff_ne, ne_eq, decide_eq_decide] at hc; omega))
        | (refine qround_normal ?_ ⟨i + 1, ⟨rfl, trivial⟩, ⟨by omega, fun x hx => ?_⟩, by omega, fun _ h => h⟩
           · repeat (first | exact same_refl | refine same_upd rfl ?_ | refine same_junk rfl ?_)
           · by_cases hvk : x < i
             · exact hsi x hvk
             · obtain rfl : x = i := by omega
               first | rw [hq, bne_eq_false_iff_eq.1 hc] | rw [hq, eq_of_beq hc]
               first | (symm; exact decide_eq_true (by omega)) | (symm; exact decide_eq_false (by omega)) | exact decide_eq_decide.2 (by omega))
    · repeat' (first | apply pwp_seq | apply pwp_region | (apply px_run; (first | (apply opv_move; first | exact hid_int rfl) | (apply opv_assign; first | exact hid_int rfl) | (apply opv_lss <;> rfl) | (apply opv_add_in; rfl; rfl; omega)); rfl; rfl) | apply px_nil | apply qseq_normal | apply qseq_exit | apply qblock_normal | (apply qblock_exit_same; rfl) | apply pwp_exit | apply qround_exit | (apply pwp_cond_dec; rfl; all_goals (intro hc; try (first | (exfalso; omega)))))
      refine qround_normal ?_ ⟨k + 1, ⟨rfl, trivial⟩, ⟨by omega, fun x hx => ?_⟩, by omega, fun _ h => h⟩
      · repeat (first | exact same_refl | refine same_upd rfl ?_ | refine same_junk rfl ?_)
      · by_cases hvk : x < k
        · exact hok x hvk
        · obtain rfl : x = k := by omega
          exact fun y hy => hsi y (by omega)
  · repeat' (first | apply pwp_seq | apply pwp_region | (apply px_run; (first | (apply opv_move; first | exact hid_int rfl | rfl) | (apply opv_assign; first | exact hid_bool rfl) | (apply opv_lss <;> rfl) | (apply opv_len_ints el_int; rfl; (first | exact rd_old (by assumption)))); rfl; rfl) | apply px_nil | apply qseq_normal | apply qseq_exit | (apply qblock_exit_same; rfl) | apply pwp_exit | apply pwp_ret | apply qround_exit | (apply pwp_cond_dec; rfl; all_goals (intro hc; try (first | (exfalso; omega)))))
    refine qbody_ret1 (v := .bool _) rfl rfl ⟨ret_true rfl ⟨by omega, hd, fun v hv => hok v (by omega)⟩, fun _ h => h.below⟩
theorem en_i_IsTwoEdges_1 : Entry Try.prog 131 := ⟨_, Try.func131, by kernel_rfl, rfl⟩
theorem i_IsTwoEdges_1_c (i k : Nat) (w : World) : Pure Try.prog 131 #[.int .i64 i, .int .i64 k] w (.bool (twoJ i k)) := by
  refine pure_enter (args := [_, _]) en_i_IsTwoEdges_1 Try.func131 rfl Try.ntmps131 rfl ?_
  unfold twoJ
  repeat' (first | apply pwp_seq | apply pwp_region | (apply px_run; (first | (apply opv_move; first | exact hid_int rfl | exact hid_bool rfl | rfl) | (apply opv_assign; first | exact hid_bool rfl) | (apply opv_eql <;> rfl) | (apply opv_pick_t <;> rfl) | (apply opv_pick_f <;> rfl)); rfl; rfl) | apply px_nil | (apply px_skip; rfl; rfl) | apply qseq_normal | apply pwp_ret | (apply px_guard_dec; rfl; rfl; rfl; all_goals (intro hc; try (first | (exfalso; omega)))))
  all_goals (refine qbody_ret1 (v := .bool _) rfl rfl ⟨by first | exact ret_true rfl (by omega) | exact ret_false rfl (by omega) | exact ret_iff (by omega), fun _ h => h.below⟩)
theorem en_i_IsTwoEdges : Entry Try.prog 103 := ⟨_, Try.func103, by kernel_rfl, rfl⟩
theorem i_IsTwoEdges_c (size : Int) (gv lv : Value) (rows l : List Int) (w : World) (hr : Arr w gv (ints rows)) (hv : Arr w lv (ints l)) :
    Pure Try.prog 103 #[.agg #[.int .i64 size, gv], lv] w (.bool (decide (twoP size rows l))) := by
  refine pure_enter (args := [_, _]) en_i_IsTwoEdges Try.func103 rfl Try.ntmps103 rfl ?_
  have hl := hv.len
  repeat' (first | apply pwp_seq | apply pwp_region | (apply px_run; (first | (apply opv_move; first | exact hid_bool rfl | rfl) | (apply opv_assign; first | exact hid_bool rfl) | (apply opv_eql <;> rfl) | (apply opv_pick_t <;> rfl) | (apply opv_pick_f <;> rfl) | (apply opv_len_ints el_int; rfl; (first | exact rd_old (by assumption))) | (apply opv_load_str 0 st_G; rfl; rfl; rfl) | (apply opv_call; rfl; rfl; exact Cl.stable _ _ _; exact fun w hw => i_areJoined_c _ _ _ rows l 131 [] twoJ _ (by first | exact hw.arr (by assumption)) (by first | exact hw.arr (by assumption)) (fun i k w' h1 h2 h3 => i_IsTwoEdges_1_c i k w'))); rfl; rfl) | apply px_nil | (apply px_skip; rfl; rfl) | apply qseq_normal | apply pwp_ret | (apply px_guard_dec; rfl; rfl; rfl; all_goals (intro hc; try (first | fail))) | (apply px_box; rfl; rfl; rfl; rfl; intro bk))
  · refine qbody_ret1 (v := .bool (decide _)) rfl rfl ⟨ret_iff ⟨fun h => ⟨by omega, h⟩, fun h => h.2⟩, fun _ h => h.below⟩
  · refine qbody_ret1 (v := .bool _) rfl rfl ⟨ret_false rfl fun h => hc (by have := h.1; omega), fun _ h => h.below⟩
theorem en_s_IsTwoEdges : Entry Try.prog 98 := ⟨_, Try.func98, by kernel_rfl, rfl⟩
set_option maxHeartbeats 1600000 in
theorem s_IsTwoEdges_c (size : Int) (gv lv : Value) (rows l : List Int) (w : World) (hr : Arr w gv (ints rows)) (hv : Arr w lv (ints l)) :
    Pure Try.prog 98 #[.agg #[.int .i64 size, gv], lv] w (.bool (decide (twoP size rows l))) := by
  refine pure_enter (args := [_, _]) en_s_IsTwoEdges Try.func98 rfl Try.ntmps98 rfl ?_
  have hl := hv.len
  by_cases hd : l.length = 4 ∧ distinctP size rows l
  · obtain ⟨h4, hd⟩ := hd
    obtain ⟨a1, a2⟩ := distinct_at hd (i := 0) (by omega)
    obtain ⟨b1, b2⟩ := distinct_at hd (i := 1) (by omega)
    obtain ⟨c1, c2⟩ := distinct_at hd (i := 2) (by omega)
    obtain ⟨d1, d2⟩ := distinct_at hd (i := 3) (by omega)
    have hiff := two_iff h4 hd
    repeat' (first | apply pwp_seq | apply pwp_region | (apply px_run; (first | (apply opv_move; first | exact hid_bool rfl | rfl) | (apply opv_assign; first | exact hid_bool rfl) | (apply opv_eql <;> rfl) | (apply opv_pick_t <;> rfl) | (apply opv_pick_f <;> rfl) | (apply opv_not <;> rfl) | (apply opv_load_ints sc_int; rfl; (first | exact rd_old (by assumption)); (first | omega)) | (apply opv_index_nat (k := 0) (vs := ints _) el_int; rfl; rfl; (first | exact rd_old (by assumption)); (first | (simp only [ints_length]; first | omega))) | (apply opv_index_nat (k := 1) (vs := ints _) el_int; rfl; rfl; (first | exact rd_old (by assumption)); (first | (simp only [ints_length]; first | omega))) | (apply opv_index_nat (k := 2) (vs := ints _) el_int; rfl; rfl; (first | exact rd_old (by assumption)); (first | (simp only [ints_length]; first | omega))) | (apply opv_index_nat (k := 3) (vs := ints _) el_int; rfl; rfl; (first | exact rd_old (by assumption)); (first | (simp only [ints_length]; first | omega))) | (apply opv_len_ints el_int; rfl; (first | exact rd_old (by assumption))) | (apply opv_load_str 0 st_G; rfl; rfl; rfl) | (apply opv_call; rfl; rfl; exact Cl.stable _ _ _; exact fun w hw => s_l4Distinct_c _ _ _ rows l _ (by first | exact hw.arr (by assumption)) (by first | exact hw.arr (by assumption))) | (apply opv_call; rfl; rfl; exact Cl.stable _ _ _; exact fun w hw => s_l2Edge_c _ _ rows _ _ _ (by first | exact hw.arr (by assumption)) (by omega) (by omega))); rfl; rfl) | apply px_nil | (apply px_skip; rfl; rfl) | apply qseq_normal | apply pwp_ret | (apply pwp_region_draw; kernel_rfl; kernel_rfl; exact Cl.stable _ _ _) | (apply px_guard_dec; rfl; rfl; rfl; all_goals (intro hc; try (first | contradiction | (exfalso; omega)))) | (apply px_guard_not; rfl; rfl; rfl; all_goals (intro hc; try (first | fail))) | (apply px_guard; rfl; rfl; rfl; all_goals (intro hc; (first | (fail_if_success (cases hc); try (first | fail))))) | (apply px_box; rfl; rfl; rfl; rfl; intro bk))
    all_goals first
      | (refine qbody_ret1 (v := .bool _) rfl rfl ⟨ret_false rfl fun h => ?_, fun _ h => h.below⟩
         have h' := hiff.1 h
         simp [h'.1, h'.2.1, h'.2.2.1, h'.2.2.2.1, h'.2.2.2.2.1, h'.2.2.2.2.2] at hc; done)
      | (refine qbody_ret1 (v := .bool _) rfl rfl ⟨?_, fun _ h => h.below⟩
         congr 1
         rw [Bool.eq_iff_iff, decide_eq_true_eq, hiff]
         simp_all)
  · repeat' (first | apply pwp_seq | apply pwp_region | (apply px_run; (first | (apply opv_move; first | exact hid_bool rfl | rfl) | (apply opv_assign; first | exact hid_bool rfl) | (apply opv_eql <;> rfl) | (apply opv_pick_t <;> rfl) | (apply opv_pick_f <;> rfl) | (apply opv_load_ints sc_int; rfl; (first | exact rd_old (by assumption)); (first | omega)) | (apply opv_index_nat (k := 0) (vs := ints _) el_int; rfl; rfl; (first | exact rd_old (by assumption)); (first | (simp only [ints_length]; first | omega))) | (apply opv_index_nat (k := 1) (vs := ints _) el_int; rfl; rfl; (first | exact rd_old (by assumption)); (first | (simp only [ints_length]; first | omega))) | (apply opv_len_ints el_int; rfl; (first | exact rd_old (by assumption))) | (apply opv_load_str 0 st_G; rfl; rfl; rfl) | (apply opv_call; rfl; rfl; exact Cl.stable _ _ _; exact fun w hw => s_l4Distinct_c _ _ _ rows l _ (by first | exact hw.arr (by assumption)) (by first | exact hw.arr (by assumption)))); rfl; rfl) | apply px_nil | (apply px_skip; rfl; rfl) | apply qseq_normal | apply pwp_ret | (apply pwp_region_draw; kernel_rfl; kernel_rfl; exact Cl.stable _ _ _) | (apply px_guard_dec; rfl; rfl; rfl; all_goals (intro hc; try (first | fail))) | (apply px_box; rfl; rfl; rfl; rfl; intro bk))
    all_goals first
      | exact (hd ⟨by omega, by assumption⟩).elim
      | (refine qbody_ret1 (v := .bool _) rfl rfl ⟨ret_false rfl fun h => hd ⟨h.1, h.2.1⟩, fun _ h => h.below⟩)
theorem en_i_IsInducedPath_1 : Entry Try.prog 133 := ⟨_, Try.func133, by kernel_rfl, rfl⟩
theorem i_IsInducedPath_1_c (i k : Nat) (w : World) (hi : (i : Int) ≤ 9223372036854775806) : Pure Try.prog 133 #[.int .i64 i, .int .i64 k] w (.bool (pathJ i k)) := by
  refine pure_enter (args := [_, _]) en_i_IsInducedPath_1 Try.func133 rfl Try.ntmps133 rfl ?_
  unfold pathJ
  repeat' (first | apply pwp_seq | apply pwp_region | (apply px_run; (first | (apply opv_move; first | exact hid_int rfl) | (apply opv_assign; first | exact hid_bool rfl) | (apply opv_eql <;> rfl) | (apply opv_add_in; rfl; rfl; omega)); rfl; rfl) | apply px_nil | apply qseq_normal | apply pwp_ret)
  all_goals (refine qbody_ret1 (v := .bool _) rfl rfl ⟨by first | exact ret_true rfl (by omega) | exact ret_false rfl (by omega) | exact ret_iff (by omega), fun _ h => h.below⟩)
theorem en_i_IsInducedPath : Entry Try.prog 105 := ⟨_, Try.func105, by kernel_rfl, rfl⟩
theorem i_IsInducedPath_c (size : Int) (gv lv : Value) (rows l : List Int) (w : World) (hr : Arr w gv (ints rows)) (hv : Arr w lv (ints l)) :
    Pure Try.prog 105 #[.agg #[.int .i64 size, gv], lv] w (.bool (decide (pathP size rows l))) := by
  refine pure_enter (args := [_, _]) en_i_IsInducedPath Try.func105 rfl Try.ntmps105 rfl ?_
  have hl := hv.len
  repeat' (first | apply pwp_seq | apply pwp_region | (apply px_run; (first | (apply opv_move; first | exact hid_bool rfl | rfl) | (apply opv_assign; first | exact hid_bool rfl) | (apply opv_gtr <;> rfl) | (apply opv_pick_t <;> rfl) | (apply opv_pick_f <;> rfl) | (apply opv_len_ints el_int; rfl; (first | exact rd_old (by assumption))) | (apply opv_load_str 0 st_G; rfl; rfl; rfl) | (apply opv_call; rfl; rfl; exact Cl.stable _ _ _; exact fun w hw => i_areJoined_c _ _ _ rows l 133 [] pathJ _ (by first | exact hw.arr (by assumption)) (by first | exact hw.arr (by assumption)) (fun i k w' h1 h2 h3 => i_IsInducedPath_1_c i k w' (by omega)))); rfl; rfl) | apply px_nil | (apply px_skip; rfl; rfl) | apply qseq_normal | apply pwp_ret | (apply px_guard_dec; rfl; rfl; rfl; all_goals (intro hc; try (first | fail))) | (apply px_box; rfl; rfl; rfl; rfl; intro bk))
  · refine qbody_ret1 (v := .bool (decide _)) rfl rfl ⟨ret_iff ⟨fun h => ⟨by omega, h⟩, fun h => h.2⟩, fun _ h => h.below⟩
  · refine qbody_ret1 (v := .bool _) rfl rfl ⟨ret_false rfl fun h => hc (by have := h.1; omega), fun _ h => h.below⟩
theorem en_s_IsInducedPath : Entry Try.prog 100 := ⟨_, Try.func100, by kernel_rfl, rfl⟩
set_option maxHeartbeats 800000 in
theorem s_IsInducedPath_c (size : Int) (gv lv : Value) (rows l : List Int) (w : World) (hr : Arr w gv (ints rows)) (hv : Arr w lv (ints l)) :
    Pure Try.prog 100 #[.agg #[.int .i64 size, gv], lv] w (.bool (decide (pathP size rows l))) := by
  refine pure_enter (args := [_, _]) en_s_IsInducedPath Try.func100 rfl Try.ntmps100 rfl ?_
  have hl := hv.len
  repeat' (first | apply pwp_seq | apply pwp_region | (apply px_run; (first | (apply opv_move; first | exact hid_bool rfl | rfl) | (apply opv_assign; first | exact hid_int rfl | exact hid_bool rfl) | (apply opv_eql <;> rfl) | (apply opv_pick_t <;> rfl) | (apply opv_pick_f <;> rfl) | (apply opv_not_dec <;> rfl) | (apply opv_len_ints el_int; rfl; (first | exact rd_old (by assumption))) | (apply opv_load_str 0 st_G; rfl; rfl; rfl) | (apply opv_call; rfl; rfl; exact Cl.stable _ _ _; exact fun w hw => s_l4Distinct_c _ _ _ rows l _ (by first | exact hw.arr (by assumption)) (by first | exact hw.arr (by assumption)))); rfl; rfl) | apply px_nil | (apply px_skip; rfl; rfl) | apply qseq_normal | apply qseq_ret | apply pwp_block | apply pwp_skip | apply pwp_ret | (apply pwp_cond_t; rfl) | (apply px_guard_ndec; rfl; rfl; rfl; all_goals (intro hc; try (first | fail))) | (apply pwp_cond_dec; rfl; all_goals (intro hc; try (first | fail))) | (apply px_box; rfl; rfl; rfl; rfl; intro bk))
  all_goals try (refine qbody_ret1 (v := .bool _) rfl rfl ⟨ret_false rfl fun h => hc h.2.1, fun _ h => h.below⟩)
  all_goals try (refine qbody_ret1 (v := .bool _) rfl rfl ⟨ret_false rfl fun h => ?_, fun _ h => h.below⟩; have q := h.1; omega)
  have hd : distinctP size rows l := by assumption
  refine pwp_loop (τ := Nat) [(4,6), (16,41)] (fun k => [(5, .int .i64 (k : Int))]) (fun _ => Cl [] w [.blk bk [.int .i64 size, gv]]) (fun k => k ≤ l.length ∧ ∀ j, j < k → ∀ i, i < j → joinQ rows l pathJ j i) (fun k => l.length - k) 0
    ⟨rfl, trivial⟩ ⟨Nat.zero_le _, fun v hv => by omega⟩ (fun _ h => h) (fun J k hk => ?_)
  obtain ⟨hk, hok⟩ := hk
  by_cases hlt : k < l.length
  · obtain ⟨ha1, ha2⟩ := distinct_at hd hlt
    repeat' (first | apply pwp_seq | apply pwp_region | (apply px_run; (first | (apply opv_move; first | exact hid_int rfl | rfl) | (apply opv_assign; first | exact hid_int rfl) | (apply opv_lss <;> rfl) | (apply opv_len_ints el_int; rfl; (first | exact rd_old (by assumption)))); rfl; rfl) | apply px_nil | apply qseq_normal | apply pwp_block | apply pwp_skip | (apply pwp_cond_dec; rfl; all_goals (intro hc; try (first | (exfalso; omega)))))
    refine pwp_loop (τ := Nat) [(4,4), (6,6), (22,41)] (fun i => [(6, .int .i64 (i : Int))]) (fun _ => Cl [] w [.blk bk [.int .i64 size, gv]]) (fun i => i ≤ k ∧ ∀ j, j < i → joinQ rows l pathJ k j) (fun i => k - i) 0
      ⟨rfl, trivial⟩ ⟨Nat.zero_le _, fun v hv => by omega⟩ (fun _ h => h) (fun J2 i hi => ?_)
    obtain ⟨hi, hsi⟩ := hi
    by_cases hli : i < k
    · obtain ⟨hb1, hb2⟩ := distinct_at hd (i := i) (by omega)
      have he := edge_l hd (i := i) (k := k) (by omega) hlt
      have hq : joinQ rows l pathJ k i ↔ hasB (rows.getD (l.getD k 0).toNat 0) (l.getD i 0) = decide (k = i + 1) := by unfold joinQ pathJ; rw [he]
      repeat' (first | apply pwp_seq | apply pwp_region | (apply px_run; (first | (apply opv_move; first | exact hid_int rfl | rfl) | (apply opv_assign; first | exact hid_int rfl | exact hid_bool rfl) | (apply opv_lss <;> rfl) | (apply opv_eql <;> rfl) | (apply opv_add_in; rfl; rfl; omega) | (apply opv_sub_in; rfl; rfl; omega) | (apply opv_load_ints sc_int; rfl; (first | exact rd_old (by assumption)); (first | omega)) | (apply opv_index_nat (vs := ints _) el_int; rfl; rfl; (first | exact rd_old (by assumption)); (first | (simp only [ints_length]; omega))) | (apply opv_load_str 0 st_G; rfl; rfl; rfl) | (apply opv_call; rfl; rfl; exact Cl.stable _ _ _; exact fun w hw => s_l2Edge_c _ _ rows _ _ _ (by first | exact hw.arr (by assumption)) (by omega) (by omega)) | (apply opv_neq_bool ty_bool <;> rfl)); rfl; rfl) | apply px_nil | apply qseq_normal | apply qseq_ret | apply pwp_block | apply qblock_normal | apply qblock_ret | apply pwp_skip | apply pwp_ret | apply qround_ret | (apply pwp_region_draw; kernel_rfl; kernel_rfl; exact Cl.stable _ _ _) | (apply pwp_cond_dec; rfl; all_goals (intro hc; try (first | (exfalso; omega)))) | (apply pwp_cond_not; rfl; all_goals (intro hc; try (first | fail))))
      · refine qbody_ret1 (v := .bool _) rfl rfl ⟨ret_false rfl fun h => ?_, fun _ h => h.below⟩
        have := hq.1 (h.2.2 k hlt i hli)
        rw [this] at hc
        simp only [beq_eq_false_iff_ne, bne_iff_ne, ne_eq, decide_eq_decide] at hc; omega
      · refine qround_normal ?_ ⟨i + 1, ⟨rfl, trivial⟩, ⟨by omega, fun x hx => ?_⟩, by omega, fun _ h => h⟩
        · repeat (first | exact same_refl | refine same_upd rfl ?_ | refine same_junk rfl ?_)
        · by_cases hvk : x < i
          · exact hsi x hvk
          · obtain rfl : x = i := by omega
            first | rw [hq, bne_eq_false_iff_eq.1 hc] | rw [hq, eq_of_beq hc]
            exact decide_eq_decide.2 (by omega)
    · repeat' (first | apply pwp_seq | apply pwp_region | (apply px_run; (first | (apply opv_move; first | exact hid_int rfl) | (apply opv_assign; first | exact hid_int rfl) | (apply opv_lss <;> rfl) | (apply opv_add_in; rfl; rfl; omega)); rfl; rfl) | apply px_nil | apply qseq_normal | apply qseq_exit | apply qblock_normal | (apply qblock_exit_same; rfl) | apply pwp_exit | apply qround_exit | (apply pwp_cond_dec; rfl; all_goals (intro hc; try (first | (exfalso; omega)))))
      refine qround_normal ?_ ⟨k + 1, ⟨rfl, trivial⟩, ⟨by omega, fun x hx => ?_⟩, by omega, fun _ h => h⟩
      · repeat (first | exact same_refl | refine same_upd rfl ?_ | refine same_junk rfl ?_)
      · by_cases hvk : x < k
        · exact hok x hvk
        · obtain rfl : x = k := by omega
          exact fun y hy => hsi y (by omega)
  · repeat' (first | apply pwp_seq | apply pwp_region | (apply px_run; (first | (apply opv_move; first | exact hid_int rfl | rfl) | (apply opv_assign; first | exact hid_bool rfl) | (apply opv_lss <;> rfl) | (apply opv_len_ints el_int; rfl; (first | exact rd_old (by assumption)))); rfl; rfl) | apply px_nil | apply qseq_normal | apply qseq_exit | (apply qblock_exit_same; rfl) | apply pwp_exit | apply pwp_ret | apply qround_exit | (apply pwp_cond_dec; rfl; all_goals (intro hc; try (first | (exfalso; omega)))))
    refine qbody_ret1 (v := .bool _) rfl rfl ⟨ret_true rfl ⟨by omega, hd, fun v hv => hok v (by omega)⟩, fun _ h => h.below⟩
theorem en_i_IsThresholdObstacle : Entry Try.prog 56 := ⟨_, Try.func56, by kernel_rfl, rfl⟩
theorem i_IsThresholdObstacle_c (size : Int) (gv lv : Value) (rows l : List Int) (w : World) (hr : Arr w gv (ints rows)) (hv : Arr w lv (ints l)) :
    Pure Try.prog 56 #[.agg #[.int .i64 size, gv], lv] w (.bool (decide (thrObsP size rows l))) := by
  refine pure_enter (args := [_, _]) en_i_IsThresholdObstacle Try.func56 rfl Try.ntmps56 rfl ?_
  have hl := hv.len
  repeat' (first | apply pwp_seq | apply pwp_region | (apply px_run; (first | (apply opv_move; first | exact hid_bool rfl | rfl) | (apply opv_assign; first | exact hid_bool rfl) | (apply opv_eql <;> rfl) | (apply opv_pick_t <;> rfl) | (apply opv_pick_f <;> rfl) | (apply opv_len_ints el_int; rfl; (first | exact rd_old (by assumption))) | (apply opv_load_str 0 st_G; rfl; rfl; rfl) | (apply opv_call; rfl; rfl; exact Cl.stable _ _ _; exact fun w hw => i_IsTwoEdges_c _ _ _ rows l _ (by first | exact hw.arr (by assumption)) (by first | exact hw.arr (by assumption))) | (apply opv_call; rfl; rfl; exact Cl.stable _ _ _; exact fun w hw => i_IsHole_c _ _ _ rows l _ (by first | exact hw.arr (by assumption)) (by first | exact hw.arr (by assumption))) | (apply opv_call; rfl; rfl; exact Cl.stable _ _ _; exact fun w hw => i_IsInducedPath_c _ _ _ rows l _ (by first | exact hw.arr (by assumption)) (by first | exact hw.arr (by assumption)))); rfl; rfl) | apply px_nil | (apply px_skip; rfl; rfl) | apply qseq_normal | apply pwp_ret | (apply px_guard_dec; rfl; rfl; rfl; all_goals (intro hc; try (first | fail))) | (apply px_box; rfl; rfl; rfl; rfl; intro bk))
  all_goals first
    | (refine qbody_ret1 (v := .bool _) rfl rfl ⟨ret_true rfl ⟨by omega, .inl hc⟩, fun _ h => h.below⟩; done)
    | (refine qbody_ret1 (v := .bool _) rfl rfl ⟨ret_true rfl ⟨by omega, .inr (.inl hc)⟩, fun _ h => h.below⟩; done)
    | (refine qbody_ret1 (v := .bool (decide _)) rfl rfl ⟨ret_iff ⟨fun h => ⟨by omega, .inr (.inr h)⟩, fun h => by rcases h.2 with h | h | h; exact absurd h (by assumption); exact absurd h (by assumption); exact h⟩, fun _ h => h.below⟩; done)
    | (refine qbody_ret1 (v := .bool _) rfl rfl ⟨ret_false rfl fun h => hc (by have := h.1; omega), fun _ h => h.below⟩; done)
theorem en_s_IsThresholdObstacle : Entry Try.prog 52 := ⟨_, Try.func52, by kernel_rfl, rfl⟩
theorem s_IsThresholdObstacle_c (size : Int) (gv lv : Value) (rows l : List Int) (w : World) (hr : Arr w gv (ints rows)) (hv : Arr w lv (ints l)) :
    Pure Try.prog 52 #[.agg #[.int .i64 size, gv], lv] w (.bool (decide (thrObsP size rows l))) := by
  refine pure_enter (args := [_, _]) en_s_IsThresholdObstacle Try.func52 rfl Try.ntmps52 rfl ?_
  have hl := hv.len
  repeat' (first | apply pwp_seq | apply pwp_region | (apply px_run; (first | (apply opv_move; first | exact hid_bool rfl | rfl) | (apply opv_assign; first | exact hid_bool rfl) | (apply opv_eql <;> rfl) | (apply opv_pick_t <;> rfl) | (apply opv_pick_f <;> rfl) | (apply opv_len_ints el_int; rfl; (first | exact rd_old (by assumption))) | (apply opv_load_str 0 st_G; rfl; rfl; rfl) | (apply opv_call; rfl; rfl; exact Cl.stable _ _ _; exact fun w hw => s_IsTwoEdges_c _ _ _ rows l _ (by first | exact hw.arr (by assumption)) (by first | exact hw.arr (by assumption))) | (apply opv_call; rfl; rfl; exact Cl.stable _ _ _; exact fun w hw => s_IsHole_c _ _ _ rows l _ (by first | exact hw.arr (by assumption)) (by first | exact hw.arr (by assumption))) | (apply opv_call; rfl; rfl; exact Cl.stable _ _ _; exact fun w hw => s_IsInducedPath_c _ _ _ rows l _ (by first | exact hw.arr (by assumption)) (by first | exact hw.arr (by assumption)))); rfl; rfl) | apply px_nil | (apply px_skip; rfl; rfl) | apply qseq_normal | apply pwp_ret | (apply px_guard_dec; rfl; rfl; rfl; all_goals (intro hc; try (first | fail))) | (apply px_box; rfl; rfl; rfl; rfl; intro bk))
  all_goals first
    | (refine qbody_ret1 (v := .bool _) rfl rfl ⟨ret_true rfl ⟨by omega, .inl hc⟩, fun _ h => h.below⟩; done)
    | (refine qbody_ret1 (v := .bool _) rfl rfl ⟨ret_true rfl ⟨by omega, .inr (.inl hc)⟩, fun _ h => h.below⟩; done)
    | (refine qbody_ret1 (v := .bool (decide _)) rfl rfl ⟨ret_iff ⟨fun h => ⟨by omega, .inr (.inr h)⟩, fun h => by rcases h.2 with h | h | h; exact absurd h (by assumption); exact absurd h (by assumption); exact h⟩, fun _ h => h.below⟩; done)
    | (refine qbody_ret1 (v := .bool _) rfl rfl ⟨ret_false rfl fun h => hc (by have := h.1; omega), fun _ h => h.below⟩; done)
end Go.Proofs.Ytpmeehkabaobkaa
