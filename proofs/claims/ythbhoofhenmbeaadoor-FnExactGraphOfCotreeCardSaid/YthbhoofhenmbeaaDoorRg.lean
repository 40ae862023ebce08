/- The reference's graph of a cograph's tree. -/
import Derived.Test.YthbhoofhenmbeaaDoorRs
import Derived.Test.YthbhoofhenmbeaaDoorPwPge
import Derived.Test.YthbhoofhenmbeaaDoorPwOri
namespace Go.Proofs.YthbhoofhenmbeaaDoor
open Go Go.RowKit Go.Pw
theorem en_s_GraphOfCotree : Entry Tryd.prog 16 := ⟨_, Tryd.func16, by kernel_rfl, rfl⟩
set_option maxRecDepth 100000 in
set_option maxHeartbeats 3200000 in
theorem s_GraphOfCotree_c (s : ByteArray) (w : World) (hs : s.size ≤ 1048576) :
    Gives Tryd.prog 16 #[.string s] w (fun v objs => ∃ sv, v = .tuple #[.agg #[.int .i64 (gosZ s), sv], .bool (gosB s)] ∧ objs = [.row 3 sv (ints (gosL s))]) := by
  refine gives_enter (args := [_]) en_s_GraphOfCotree Tryd.func16 rfl Tryd.ntmps16 rfl ?_
  repeat' (first | apply pwp_seq | apply pwp_region | (apply px_run; (first | (apply opv_assign; first | exact hid_int rfl | exact hid_bool rfl)); rfl; rfl) | apply px_nil | apply qseq_normal | apply pwp_block | (apply px_alloc st_G; rfl; rfl; rfl; intro bk))
  refine pwp_loop (τ := Nat) [(4,5), (11,28)] (fun k => [(4, .int .i64 (digC s k : Nat)), (5, .int .i64 (k : Int))]) (fun k => Cl [] w [.blk bk [.int .i64 0, .slice none 0 0]]) (fun k => k ≤ s.size) (fun k => s.size - k) 0
    ⟨rfl, rfl, trivial⟩ (Nat.zero_le _) (fun w' h => by exact Cl.sub (by assumption) (by repeat (first | exact List.Sublist.slnil | exact List.Sublist.refl _ | apply List.Sublist.cons_cons | exact List.sublist_append_left _ _ | exact List.sublist_append_right _ _ | apply List.Sublist.cons))) (fun J k hk => ?_)
  have hdl := digC_le s k
  by_cases hlt : k < s.size
  · have hj0 := byteAt_get (s := s) (i := k) hlt
    have hjv : ((s.data.toList.getD k 0).toNat) = byteAt s k := rfl
    by_cases hd : 48 ≤ byteAt s k ∧ byteAt s k ≤ 54
    · have hdc : digC s (k + 1) = digC s k + 1 := by rw [digC, if_pos hd]
      repeat' (first | apply pwp_seq | apply pwp_region | (apply px_run; (first | (apply opv_len_str ty_str; rfl) | (apply opv_index_str ty_str; rfl; rfl; exact hj0) | (apply opv_geq_k; rfl; rfl) | (apply opv_leq_k; rfl; rfl) | (apply opv_move; first | exact hid_int rfl | exact hid_bool rfl | rfl) | (apply opv_assign; first | exact hid_int rfl) | (apply opv_lss <;> rfl) | (apply opv_pick_t <;> rfl) | (apply opv_add_in; rfl; rfl; omega)); rfl; rfl) | apply px_nil | apply qseq_normal | apply pwp_block | apply qblock_normal | apply pwp_skip | (apply px_guard_dec; rfl; rfl; rfl; all_goals (intro hc; try (first | (exfalso; omega)))) | (apply pwp_cond_dec; rfl; all_goals (intro hc; try (first | (exfalso; omega)))))
      refine qround_normal ?_ ⟨k + 1, ⟨by rw [hdc]; rfl, rfl, trivial⟩, by (try dsimp only); omega, by (try dsimp only); omega, fun w' h => ?_⟩
      · repeat (first | exact same_refl | refine same_upd rfl ?_ | refine same_junk rfl ?_)
      · exact Cl.sub (by assumption) (by repeat (first | exact List.Sublist.slnil | exact List.Sublist.refl _ | apply List.Sublist.cons_cons | exact List.sublist_append_left _ _ | exact List.sublist_append_right _ _ | apply List.Sublist.cons))
    · have hdc : digC s (k + 1) = digC s k := by rw [digC, if_neg hd]
      repeat' (first | apply pwp_seq | apply pwp_region | (apply px_run; (first | (apply opv_len_str ty_str; rfl) | (apply opv_index_str ty_str; rfl; rfl; exact hj0) | (apply opv_geq_k; rfl; rfl) | (apply opv_leq_k; rfl; rfl) | (apply opv_move; first | exact hid_int rfl | exact hid_bool rfl | rfl) | (apply opv_assign; first | exact hid_int rfl) | (apply opv_lss <;> rfl) | (apply opv_pick_t <;> rfl) | (apply opv_pick_f <;> rfl) | (apply opv_add_in; rfl; rfl; omega)); rfl; rfl) | apply px_nil | (apply px_skip; rfl; rfl) | apply qseq_normal | apply pwp_block | apply qblock_normal | apply pwp_skip | (apply pwp_cond_f; rfl) | (apply px_guard_dec; rfl; rfl; rfl; all_goals (intro hc; try (first | fail))) | (apply pwp_cond_dec; rfl; all_goals (intro hc; try (first | (exfalso; omega)))))
      all_goals
        refine qround_normal ?_ ⟨k + 1, ⟨by rw [hdc]; rfl, rfl, trivial⟩, by (try dsimp only); omega, by (try dsimp only); omega, fun w' h => ?_⟩
        · repeat (first | exact same_refl | refine same_upd rfl ?_ | refine same_junk rfl ?_)
        · exact Cl.sub (by assumption) (by repeat (first | exact List.Sublist.slnil | exact List.Sublist.refl _ | apply List.Sublist.cons_cons | exact List.sublist_append_left _ _ | exact List.sublist_append_right _ _ | apply List.Sublist.cons))
  obtain rfl : k = s.size := by omega
  rw [digC_all] at hdl ⊢
  by_cases hok : 1 ≤ dg s ∧ dg s ≤ 7 ∧ s.size ≤ 60
  case neg =>
    have hB : gosB s = false := by unfold gosB; rw [decide_eq_false hok]; rfl
    have hZ : gosZ s = 0 := by unfold gosZ; rw [if_neg (by rw [hB]; exact Bool.false_ne_true)]
    have hL : gosL s = [] := by unfold gosL; rw [if_neg (by rw [hB]; exact Bool.false_ne_true)]
    repeat' (first | apply pwp_seq | apply pwp_region | (apply px_run; (first | (apply opv_len_str ty_str; rfl) | (apply opv_move; first | exact hid_int rfl | exact hid_bool rfl | rfl) | (apply opv_assign; first | exact hid_bool rfl) | (apply opv_lss <;> rfl) | (apply opv_gtr <;> rfl) | (apply opv_pick_t <;> rfl) | (apply opv_pick_f <;> rfl) | (apply opv_not_dec <;> rfl) | (apply opv_build0 bl_G) | (apply opv_call; rfl; rfl; exact Cl.stable _ _ _; exact fun w hw => s_l1In_c _ _ _ _)); rfl; rfl) | apply px_nil | (apply px_skip; rfl; rfl) | apply qseq_normal | apply qseq_ret | apply qseq_exit | (apply qblock_exit_same; rfl) | apply pwp_exit | apply pwp_ret | apply qround_exit | (apply pwp_cond_t; rfl) | (apply px_guard_ndec; rfl; rfl; rfl; all_goals (intro hc; try (first | fail))) | (apply pwp_cond_dec; rfl; all_goals (intro hc; try (first | (exfalso; omega)))) | (apply px_store_str 0 st_G; rfl; rfl; rfl; rfl; rfl; (intro w hw; (first | refine all2 rfl ?_ ?_) <;> (first | rfl)); rfl))
    all_goals
      first
        | refine qbody_cell_tmp 0 rfl st_G rfl rfl rfl rfl ⟨_, ⟨_, by rw [hZ, hB]; rfl, rfl⟩, fun w' h => ?_⟩
        | refine qbody_cell_tmp 1 rfl st_G rfl rfl rfl rfl ⟨_, ⟨_, by rw [hZ, hB]; rfl, rfl⟩, fun w' h => ?_⟩
        | refine qbody_cell_tmp 2 rfl st_G rfl rfl rfl rfl ⟨_, ⟨_, by rw [hZ, hB]; rfl, rfl⟩, fun w' h => ?_⟩
        | refine qbody_cell_tmp 3 rfl st_G rfl rfl rfl rfl ⟨_, ⟨_, by rw [hZ, hB]; rfl, rfl⟩, fun w' h => ?_⟩
        | refine qbody_cell_tmp 4 rfl st_G rfl rfl rfl rfl ⟨_, ⟨_, by rw [hZ, hB]; rfl, rfl⟩, fun w' h => ?_⟩
        | refine qbody_cell_tmp 5 rfl st_G rfl rfl rfl rfl ⟨_, ⟨_, by rw [hZ, hB]; rfl, rfl⟩, fun w' h => ?_⟩
      rw [hL]
      exact (h.sub (List.nil_sublist _)).nilRow _
  obtain ⟨h1, hn, h60⟩ := hok
  have hB : gosB s = gosO s := by unfold gosB; rw [decide_eq_true ⟨h1, hn, h60⟩]; rfl
  have hg0 : gRows (dg s) (fun _ _ => false) = List.replicate (dg s) 0 := gRows_none (fun _ _ _ _ => rfl)
  have kR := fun gv w' ho' => s_l17Read_c s (dg s) (by omega) h1 hn 101 0 (fun _ _ => false) gv w' ho' (fun _ _ => rfl) (fun _ => rfl) (Nat.zero_le _) (by omega)
  have hR : rdS s 101 0 (fun _ _ => false) = gosR s := rfl
  have hrep : ints (List.replicate (dg s) 0) = List.replicate (dg s) (Value.int .i64 0) := by simp [ints]
  rw [hR, hg0, hrep] at kR
  have hO : gosO s = match gosR s with
    | none => false
    | some r => decide (r.2.2 = s.size ∧ r.2.1 = 2 ^ dg s - 1) && (cogb (dg s) (gRows (dg s) r.1) && decide (cotX (dg s) (gRows (dg s) r.1) = s)) := rfl
  have hM : gosM s = match gosR s with
    | none => []
    | some r => gRows (dg s) r.1 := rfl
  have hok2 := fun r h => rdS_ok s 101 0 (fun _ _ => false) r (fun _ _ => rfl) (fun _ => rfl) (hR.trans h)
  have hZ : gosZ s = if gosB s = true then (dg s : Int) else 0 := rfl
  have hL : gosL s = if gosB s = true then gosM s else [] := rfl
  clear hR
  generalize dg s = n at *
  have h7 := pow_le7 hn
  have hpos := Nat.two_pow_pos n
  have hall : ishl 1 (n : Int) - 1 = ((2 ^ n - 1 : Nat) : Int) := by rw [ishl_one_nat (by omega)]; omega
  cases hres : gosR s with
  | none =>
    rw [hres] at kR hO
    rw [hO] at hB
    rw [if_neg (by rw [hB]; exact Bool.false_ne_true)] at hZ hL
    repeat' (first | apply pwp_seq | apply pwp_region | (apply px_run; (first | (apply opv_len_str ty_str; rfl) | (apply opv_move; first | exact hid_int rfl | exact hid_bool rfl | rfl) | (apply opv_assign; first | exact hid_int rfl | exact hid_bool rfl) | (apply opv_lss <;> rfl) | (apply opv_gtr <;> rfl) | (apply opv_neq <;> rfl) | (apply opv_pick_t <;> rfl) | (apply opv_pick_f <;> rfl) | (apply opv_not_dec <;> rfl) | (apply opv_build2 bl_G; rfl; rfl; (first | exact rd_row 0 rfl)) | (apply opv_build0 bl_G) | (apply opv_extract; rfl; rfl) | (apply opv_call; rfl; rfl; exact Cl.stable _ _ _; exact fun w hw => s_l1In_c _ _ _ _)); rfl; rfl) | apply px_nil | (apply px_skip; rfl; rfl) | apply qseq_normal | apply qseq_ret | apply qseq_exit | (apply qblock_exit_same; rfl) | apply pwp_skip | apply pwp_exit | apply pwp_ret | apply qround_exit | (apply pwp_cond_t; rfl) | (apply px_guard_ndec; rfl; rfl; rfl; all_goals (intro hc; try (first | (exfalso; omega)))) | (apply pwp_cond_dec; rfl; all_goals (intro hc; try (first | (exfalso; omega)))) | (apply px_givesU [0]; rfl; rfl; rfl; rfl; rfl; (exact fun w' ho' => kR _ w' ho'); rintro _ _ ⟨⟨gx, hgx, rfl⟩, rfl⟩) | (apply px_alloc st_G; rfl; rfl; rfl; intro bk) | (apply px_store_str 0 st_G; rfl; rfl; rfl; rfl; rfl; (intro w hw; (first | refine all2 rfl ?_ ?_) <;> (first | rfl | assumption)); rfl) | (apply px_store_str 1 st_G; rfl; rfl; rfl; rfl; rfl; (intro w hw; (first | refine all2 rfl ?_ ?_) <;> (first | rfl)); rfl) | (apply px_make ez_int; rfl; rfl; rfl; rfl; rfl; omega; (simp only [maxLen]; omega); intro sv))
    all_goals
      first
        | refine qbody_cell_tmp 0 rfl st_G rfl rfl rfl rfl ⟨_, ⟨_, by rw [hZ, hB]; rfl, rfl⟩, fun w' h => ?_⟩
        | refine qbody_cell_tmp 1 rfl st_G rfl rfl rfl rfl ⟨_, ⟨_, by rw [hZ, hB]; rfl, rfl⟩, fun w' h => ?_⟩
        | refine qbody_cell_tmp 2 rfl st_G rfl rfl rfl rfl ⟨_, ⟨_, by rw [hZ, hB]; rfl, rfl⟩, fun w' h => ?_⟩
        | refine qbody_cell_tmp 3 rfl st_G rfl rfl rfl rfl ⟨_, ⟨_, by rw [hZ, hB]; rfl, rfl⟩, fun w' h => ?_⟩
        | refine qbody_cell_tmp 4 rfl st_G rfl rfl rfl rfl ⟨_, ⟨_, by rw [hZ, hB]; rfl, rfl⟩, fun w' h => ?_⟩
        | refine qbody_cell_tmp 5 rfl st_G rfl rfl rfl rfl ⟨_, ⟨_, by rw [hZ, hB]; rfl, rfl⟩, fun w' h => ?_⟩
      rw [hL]
      exact (h.sub (List.nil_sublist _)).nilRow _
  | some r =>
    rw [hres] at kR hO hM
    obtain ⟨q1, q2, q3, q4, q5⟩ := hok2 r hres
    obtain ⟨P', set, next⟩ := r
    dsimp only at q1 q2 q3 q4 q5 hO hM kR
    have kL : ∀ sv w', Arr w' sv (ints (gRows n P')) → Pure Tryd.prog 12 #[.agg #[.int .i64 n, sv]] w' (.tuple #[.string (cotX n (gRows n P')), .bool (cogb n (gRows n P'))]) := fun sv w' h => s_CotreeOf_c n sv (gRows n P') w' h
    have hE := toList_beq (cotX n (gRows n P')) s
    rw [hM] at hL
    generalize cogb (n : Int) (gRows n P') = cg at *
    generalize cotX (n : Int) (gRows n P') = T at *
    generalize decide (T = s) = eb at *
    by_cases hc : next = s.size ∧ set = 2 ^ n - 1
    case neg =>
      rw [decide_eq_false hc] at hO
      rw [hO] at hB
      have hB' : gosB s = false := hB
      rw [if_neg (by rw [hB']; exact Bool.false_ne_true)] at hZ hL
      have hc2 : ¬ ((next : Int) = (s.size : Int) ∧ (set : Int) = ishl 1 (n : Int) - 1) := fun h => hc ⟨by omega, by rw [hall] at h; omega⟩
      have hc3 : ¬ (((((P', set, next) : Rel × Nat × Nat).2.2 : Nat) : Int) = (s.size : Int) ∧ ((((P', set, next) : Rel × Nat × Nat).2.1 : Nat) : Int) = ishl 1 (n : Int) - 1) := hc2
      repeat' (first | apply pwp_seq | apply pwp_region | (apply px_run; (first | (apply opv_len_str ty_str; rfl) | (apply opv_move; first | exact hid_int rfl | exact hid_bool rfl | rfl) | (apply opv_assign; first | exact hid_int rfl | exact hid_bool rfl) | (apply opv_lss <;> rfl) | (apply opv_gtr <;> rfl) | (apply opv_neq <;> rfl) | (apply opv_pick_t <;> rfl) | (apply opv_pick_f <;> rfl) | (apply opv_not_dec <;> rfl) | (apply opv_sub_in; rfl; rfl; omega) | (apply opv_shl; rfl; rfl; omega) | (apply opv_build2 bl_G; rfl; rfl; (first | exact rd_row 0 rfl)) | (apply opv_build0 bl_G) | (apply opv_extract; rfl; rfl) | (apply opv_call; rfl; rfl; exact Cl.stable _ _ _; exact fun w hw => s_l1In_c _ _ _ _)); rfl; rfl) | apply px_nil | (apply px_skip; rfl; rfl) | apply qseq_normal | apply qseq_ret | apply qseq_exit | (apply qblock_exit_same; rfl) | apply pwp_skip | apply pwp_exit | apply pwp_ret | apply qround_exit | (apply pwp_cond_t; rfl) | (apply px_guard_ndec; rfl; rfl; rfl; all_goals (intro hc; try (first | (exfalso; omega)))) | (apply pwp_cond_ndec; rfl; all_goals (intro hc; try (first | (exfalso; omega)))) | (apply pwp_cond_dec; rfl; all_goals (intro hc; try (first | (exfalso; omega)))) | (apply px_givesU [0]; rfl; rfl; rfl; rfl; rfl; (exact fun w' ho' => kR _ w' ho'); rintro _ _ ⟨gx, hgx, rfl, rfl⟩) | (apply px_alloc st_G; rfl; rfl; rfl; intro bk) | (apply px_store_str 0 st_G; rfl; rfl; rfl; rfl; rfl; (intro w hw; (first | refine all2 rfl ?_ ?_) <;> (first | rfl | assumption)); rfl) | (apply px_store_str 2 st_G; rfl; rfl; rfl; rfl; rfl; (intro w hw; (first | refine all2 rfl ?_ ?_) <;> (first | rfl)); rfl) | (apply px_make ez_int; rfl; rfl; rfl; rfl; rfl; omega; (simp only [maxLen]; omega); intro sv))
      all_goals
        first
          | refine qbody_cell_tmp 0 rfl st_G rfl rfl rfl rfl ⟨_, ⟨_, by rw [hZ, hB']; rfl, rfl⟩, fun w' h => ?_⟩
          | refine qbody_cell_tmp 1 rfl st_G rfl rfl rfl rfl ⟨_, ⟨_, by rw [hZ, hB']; rfl, rfl⟩, fun w' h => ?_⟩
          | refine qbody_cell_tmp 2 rfl st_G rfl rfl rfl rfl ⟨_, ⟨_, by rw [hZ, hB']; rfl, rfl⟩, fun w' h => ?_⟩
          | refine qbody_cell_tmp 3 rfl st_G rfl rfl rfl rfl ⟨_, ⟨_, by rw [hZ, hB']; rfl, rfl⟩, fun w' h => ?_⟩
          | refine qbody_cell_tmp 4 rfl st_G rfl rfl rfl rfl ⟨_, ⟨_, by rw [hZ, hB']; rfl, rfl⟩, fun w' h => ?_⟩
          | refine qbody_cell_tmp 5 rfl st_G rfl rfl rfl rfl ⟨_, ⟨_, by rw [hZ, hB']; rfl, rfl⟩, fun w' h => ?_⟩
        rw [hL]
        exact (h.sub (List.nil_sublist _)).nilRow _
    rw [decide_eq_true hc] at hO
    have hc2 : (next : Int) = (s.size : Int) ∧ (set : Int) = ishl 1 (n : Int) - 1 := ⟨by omega, by rw [hall]; omega⟩
    obtain ⟨c1, c2⟩ := hc2
    cases cg with
    | false =>
      rw [hO] at hB
      have hB' : gosB s = false := hB
      rw [if_neg (by rw [hB']; exact Bool.false_ne_true)] at hZ hL
      repeat' (first | apply pwp_seq | apply pwp_region | (apply px_run; (first | (apply opv_len_str ty_str; rfl) | (apply opv_move; first | exact hid_int rfl | exact hid_bool rfl | rfl) | (apply opv_assign; first | exact hid_int rfl | exact hid_bool rfl | rfl) | (apply opv_lss <;> rfl) | (apply opv_gtr <;> rfl) | (apply opv_neq <;> rfl) | (apply opv_pick_t <;> rfl) | (apply opv_pick_f <;> rfl) | (apply opv_not_dec <;> rfl) | (apply opv_not <;> rfl) | (apply opv_sub_in; rfl; rfl; omega) | (apply opv_shl; rfl; rfl; omega) | (apply opv_load_str 0 st_G; rfl; rfl; rfl) | (apply opv_build2 bl_G; rfl; rfl; (first | exact rd_row 0 rfl)) | (apply opv_build0 bl_G) | (apply opv_extract; rfl; rfl) | (apply opv_call; rfl; rfl; exact Cl.stable _ _ _; exact fun w hw => s_l1In_c _ _ _ _) | (apply opv_call; rfl; rfl; exact Cl.stable _ _ _; exact fun w hw => kL _ _ (by first | exact hw.rowArr (k := 1) rfl))); rfl; rfl) | apply px_nil | (apply px_skip; rfl; rfl) | apply qseq_normal | apply qseq_ret | apply qseq_exit | (apply qblock_exit_same; rfl) | apply pwp_skip | apply pwp_exit | apply pwp_ret | apply qround_exit | (apply pwp_cond_t; rfl) | (apply px_guard_ndec; rfl; rfl; rfl; all_goals (intro hc; try (first | contradiction | (exfalso; omega)))) | (apply pwp_cond_ndec; rfl; all_goals (intro hc; try (first | contradiction))) | (apply pwp_cond_dec; rfl; all_goals (intro hc; try (first | (exfalso; omega)))) | (apply px_givesU [0]; rfl; rfl; rfl; rfl; rfl; (exact fun w' ho' => kR _ w' ho'); rintro _ _ ⟨gx, hgx, rfl, rfl⟩) | (apply px_alloc st_G; rfl; rfl; rfl; intro bk) | (apply px_store_str 0 st_G; rfl; rfl; rfl; rfl; rfl; (intro w hw; (first | refine all2 rfl ?_ ?_) <;> (first | rfl | assumption)); rfl) | (apply px_store_str 2 st_G; rfl; rfl; rfl; rfl; rfl; (intro w hw; (first | refine all2 rfl ?_ ?_) <;> (first | rfl)); rfl) | (apply px_make ez_int; rfl; rfl; rfl; rfl; rfl; omega; (simp only [maxLen]; omega); intro sv))
      all_goals
        first
          | refine qbody_cell_tmp 0 rfl st_G rfl rfl rfl rfl ⟨_, ⟨_, by rw [hZ, hB']; rfl, rfl⟩, fun w' h => ?_⟩
          | refine qbody_cell_tmp 1 rfl st_G rfl rfl rfl rfl ⟨_, ⟨_, by rw [hZ, hB']; rfl, rfl⟩, fun w' h => ?_⟩
          | refine qbody_cell_tmp 2 rfl st_G rfl rfl rfl rfl ⟨_, ⟨_, by rw [hZ, hB']; rfl, rfl⟩, fun w' h => ?_⟩
          | refine qbody_cell_tmp 3 rfl st_G rfl rfl rfl rfl ⟨_, ⟨_, by rw [hZ, hB']; rfl, rfl⟩, fun w' h => ?_⟩
          | refine qbody_cell_tmp 4 rfl st_G rfl rfl rfl rfl ⟨_, ⟨_, by rw [hZ, hB']; rfl, rfl⟩, fun w' h => ?_⟩
          | refine qbody_cell_tmp 5 rfl st_G rfl rfl rfl rfl ⟨_, ⟨_, by rw [hZ, hB']; rfl, rfl⟩, fun w' h => ?_⟩
        rw [hL]
        exact (h.sub (List.nil_sublist _)).nilRow _
    | true =>
      cases eb with
      | false =>
        rw [hO] at hB
        have hB' : gosB s = false := hB
        rw [if_neg (by rw [hB']; exact Bool.false_ne_true)] at hZ hL
        repeat' (first | apply pwp_seq | apply pwp_region | (apply px_run; (first | (apply opv_len_str ty_str; rfl) | (apply opv_neq_s_r; rfl; rfl; exact hE) | (apply opv_move; first | exact hid_int rfl | exact hid_bool rfl | rfl) | (apply opv_assign; first | exact hid_int rfl | exact hid_bool rfl | rfl) | (apply opv_lss <;> rfl) | (apply opv_gtr <;> rfl) | (apply opv_neq <;> rfl) | (apply opv_pick_f <;> rfl) | (apply opv_not_dec <;> rfl) | (apply opv_not <;> rfl) | (apply opv_sub_in; rfl; rfl; omega) | (apply opv_shl; rfl; rfl; omega) | (apply opv_load_str 0 st_G; rfl; rfl; rfl) | (apply opv_build2 bl_G; rfl; rfl; (first | exact rd_row 0 rfl)) | (apply opv_build0 bl_G) | (apply opv_extract; rfl; rfl) | (apply opv_call; rfl; rfl; exact Cl.stable _ _ _; exact fun w hw => s_l1In_c _ _ _ _) | (apply opv_call; rfl; rfl; exact Cl.stable _ _ _; exact fun w hw => kL _ _ (by first | exact hw.rowArr (k := 1) rfl))); rfl; rfl) | apply px_nil | apply qseq_normal | apply qseq_ret | apply qseq_exit | (apply qblock_exit_same; rfl) | apply pwp_skip | apply pwp_exit | apply pwp_ret | apply qround_exit | (apply pwp_cond_t; rfl) | (apply px_guard_ndec; rfl; rfl; rfl; all_goals (intro hc; try (first | contradiction | (exfalso; omega)))) | (apply pwp_cond_ndec; rfl; all_goals (intro hc; try (first | contradiction))) | (apply pwp_cond_dec; rfl; all_goals (intro hc; try (first | (exfalso; omega)))) | (apply px_givesU [0]; rfl; rfl; rfl; rfl; rfl; (exact fun w' ho' => kR _ w' ho'); rintro _ _ ⟨gx, hgx, rfl, rfl⟩) | (apply px_alloc st_G; rfl; rfl; rfl; intro bk) | (apply px_store_str 0 st_G; rfl; rfl; rfl; rfl; rfl; (intro w hw; (first | refine all2 rfl ?_ ?_) <;> (first | rfl | assumption)); rfl) | (apply px_store_str 2 st_G; rfl; rfl; rfl; rfl; rfl; (intro w hw; (first | refine all2 rfl ?_ ?_) <;> (first | rfl)); rfl) | (apply px_make ez_int; rfl; rfl; rfl; rfl; rfl; omega; (simp only [maxLen]; omega); intro sv))
        all_goals
          first
            | refine qbody_cell_tmp 0 rfl st_G rfl rfl rfl rfl ⟨_, ⟨_, by rw [hZ, hB']; rfl, rfl⟩, fun w' h => ?_⟩
            | refine qbody_cell_tmp 1 rfl st_G rfl rfl rfl rfl ⟨_, ⟨_, by rw [hZ, hB']; rfl, rfl⟩, fun w' h => ?_⟩
            | refine qbody_cell_tmp 2 rfl st_G rfl rfl rfl rfl ⟨_, ⟨_, by rw [hZ, hB']; rfl, rfl⟩, fun w' h => ?_⟩
            | refine qbody_cell_tmp 3 rfl st_G rfl rfl rfl rfl ⟨_, ⟨_, by rw [hZ, hB']; rfl, rfl⟩, fun w' h => ?_⟩
            | refine qbody_cell_tmp 4 rfl st_G rfl rfl rfl rfl ⟨_, ⟨_, by rw [hZ, hB']; rfl, rfl⟩, fun w' h => ?_⟩
            | refine qbody_cell_tmp 5 rfl st_G rfl rfl rfl rfl ⟨_, ⟨_, by rw [hZ, hB']; rfl, rfl⟩, fun w' h => ?_⟩
          rw [hL]
          exact (h.sub (List.nil_sublist _)).nilRow _
      | true =>
        rw [hO] at hB
        have hB' : gosB s = true := hB
        rw [if_pos hB'] at hZ hL
        repeat' (first | apply pwp_seq | apply pwp_region | (apply px_run; (first | (apply opv_len_str ty_str; rfl) | (apply opv_neq_s_r; rfl; rfl; exact hE) | (apply opv_move; first | exact hid_int rfl | exact hid_bool rfl | rfl) | (apply opv_assign; first | exact hid_int rfl | exact hid_bool rfl | rfl) | (apply opv_lss <;> rfl) | (apply opv_gtr <;> rfl) | (apply opv_neq <;> rfl) | (apply opv_pick_f <;> rfl) | (apply opv_not_dec <;> rfl) | (apply opv_not <;> rfl) | (apply opv_sub_in; rfl; rfl; omega) | (apply opv_shl; rfl; rfl; omega) | (apply opv_load_str 0 st_G; rfl; rfl; rfl) | (apply opv_build2 bl_G; rfl; rfl; (first | exact rd_row 0 rfl)) | (apply opv_extract; rfl; rfl) | (apply opv_call; rfl; rfl; exact Cl.stable _ _ _; exact fun w hw => s_l1In_c _ _ _ _) | (apply opv_call; rfl; rfl; exact Cl.stable _ _ _; exact fun w hw => kL _ _ (by first | exact hw.rowArr (k := 1) rfl))); rfl; rfl) | apply px_nil | apply qseq_normal | apply qseq_exit | (apply qblock_exit_same; rfl) | apply pwp_skip | apply pwp_exit | apply pwp_ret | apply qround_exit | (apply pwp_cond_f; rfl) | (apply px_guard_ndec; rfl; rfl; rfl; all_goals (intro hc; try (first | contradiction | (exfalso; omega)))) | (apply pwp_cond_ndec; rfl; all_goals (intro hc; try (first | contradiction))) | (apply pwp_cond_dec; rfl; all_goals (intro hc; try (first | (exfalso; omega)))) | (apply px_givesU [0]; rfl; rfl; rfl; rfl; rfl; (exact fun w' ho' => kR _ w' ho'); rintro _ _ ⟨gx, hgx, rfl, rfl⟩) | (apply px_alloc st_G; rfl; rfl; rfl; intro bk) | (apply px_store_str 0 st_G; rfl; rfl; rfl; rfl; rfl; (intro w hw; (first | refine all2 rfl ?_ ?_) <;> (first | rfl | assumption)); rfl) | (apply px_store_str 2 st_G; rfl; rfl; rfl; rfl; rfl; (intro w hw; (first | refine all2 rfl ?_ ?_) <;> (first | rfl | assumption)); rfl) | (apply px_make ez_int; rfl; rfl; rfl; rfl; rfl; omega; (simp only [maxLen]; omega); intro sv))
        all_goals
          first
            | refine qbody_cell_tmp 0 rfl st_G rfl rfl rfl rfl ⟨_, ⟨_, by rw [hZ, hB']; rfl, rfl⟩, fun w' h => ?_⟩
            | refine qbody_cell_tmp 1 rfl st_G rfl rfl rfl rfl ⟨_, ⟨_, by rw [hZ, hB']; rfl, rfl⟩, fun w' h => ?_⟩
            | refine qbody_cell_tmp 2 rfl st_G rfl rfl rfl rfl ⟨_, ⟨_, by rw [hZ, hB']; rfl, rfl⟩, fun w' h => ?_⟩
            | refine qbody_cell_tmp 3 rfl st_G rfl rfl rfl rfl ⟨_, ⟨_, by rw [hZ, hB']; rfl, rfl⟩, fun w' h => ?_⟩
            | refine qbody_cell_tmp 4 rfl st_G rfl rfl rfl rfl ⟨_, ⟨_, by rw [hZ, hB']; rfl, rfl⟩, fun w' h => ?_⟩
            | refine qbody_cell_tmp 5 rfl st_G rfl rfl rfl rfl ⟨_, ⟨_, by rw [hZ, hB']; rfl, rfl⟩, fun w' h => ?_⟩
          rw [hL]
          exact Cl.ofSel (by assumption) (by repeat (first | exact sel_nil | refine sel_cons 0 rfl ?_ | refine sel_cons 1 rfl ?_ | refine sel_cons 2 rfl ?_ | refine sel_cons 3 rfl ?_ | refine sel_cons 4 rfl ?_ | refine sel_cons 5 rfl ?_ | refine sel_cons 6 rfl ?_ | refine sel_cons 7 rfl ?_ | refine sel_cons 8 rfl ?_ | refine sel_cons 9 rfl ?_ | refine sel_cons 10 rfl ?_ | refine sel_cons 11 rfl ?_ | refine sel_cons 12 rfl ?_ | refine sel_cons 13 rfl ?_))
theorem s_GraphOfCotree2_c (s : ByteArray) (w : World) (hs : s.size ≤ 1048576) :
    Gives Tryd.prog 16 #[.string s] w (fun v objs => ∃ sv, v = .tuple #[.agg #[.int .i64 (gocZ s), sv], .bool (gocB s)] ∧ objs = [.row 3 sv (ints (gocL s))]) := by
  have := s_GraphOfCotree_c s w hs
  rw [← (goc_same s).1, ← (goc_same s).2.1, ← (goc_same s).2.2] at this
  exact this
theorem gocL_length (s : ByteArray) : (gocL s).length ≤ 7 := by
  unfold gocL; split
  · unfold gocR; rw [rowsI_length]; exact cntN_le7 _
  · exact Nat.zero_le _
end Go.Proofs.YthbhoofhenmbeaaDoor
