/- The program's largest sets. -/
import Derived.Test.YtpmeehkabaobkaaCc
import Derived.Test.YtpmeehkabaobkaaPwPcx
namespace Go.Proofs.Ytpmeehkabaobkaa
open Go Go.RowKit Go.Pw
theorem en_i_largest : Entry Try.prog 125 := ⟨_, Try.func125, by kernel_rfl, rfl⟩
set_option maxHeartbeats 1600000 in
theorem i_largest_c (n : Nat) (gv : Value) (rows : List Int) (f : FuncId) (P : Nat → Bool) (w : World) (hr : Arr w gv (ints rows)) (hg : IsG n rows) (hn : n ≤ 7)
    (hf : ∀ (s : Nat) w', s < 2 ^ n → Below w.heap.size w w' → Pure Try.prog f #[.agg #[.int .i64 n, gv], .int .i64 s] w' (.bool (P s))) :
    Pure Try.prog 125 #[.agg #[.int .i64 n, gv], .func (.func f) #[] #[]] w (.int .i64 (bestN P (2 ^ n))) := by
  refine pure_enter (args := [_, _]) en_i_largest Try.func125 rfl Try.ntmps125 rfl ?_
  have h7 := pow_le7 hn
  have hpos := Nat.two_pow_pos n
  have hall : ishl 1 (n : Int) - 1 = ((2 ^ n - 1 : Nat) : Int) := by rw [ishl_one_nat (by omega)]; omega
  have kA : ∀ w', Pure Try.prog 120 #[.agg #[.int .i64 n, gv]] w' (.int .i64 ((2 ^ n - 1 : Nat) : Int)) := fun w' => by
    have := i_all_c n gv w' (by omega)
    rw [hall] at this; exact this
  have kG : ∀ w', Arr w' gv (ints rows) → Pure Try.prog 74 #[.agg #[.int .i64 n, gv]] w' (.bool true) := fun w' h => by
    have := i_IsGraph_c n gv rows w' h
    rw [decide_eq_true hg] at this; exact this
  have kC : ∀ (s : Nat) w', s < 128 → Pure Try.prog 91 #[.int .i64 s] w' (.int .i64 (cntN s : Nat)) := fun s w' h => by
    have := i_CountSet_c s w'
    rw [cntS_nat h] at this; exact this
  generalize hN : 2 ^ n = N at *
  repeat' (first | apply pwp_seq | apply pwp_region | (apply px_run; (first | (apply opv_assign; first | exact hid_int rfl) | (apply opv_not <;> rfl) | (apply opv_load_str 0 st_G; rfl; rfl; rfl) | (apply opv_call; rfl; rfl; exact Cl.stable _ _ _; exact fun w hw => kG _ (by first | exact hw.arr (by assumption)))); rfl; rfl) | apply px_nil | apply qseq_normal | apply pwp_block | apply pwp_skip | (apply pwp_cond_f; rfl) | (apply px_box; rfl; rfl; rfl; rfl; intro bk))
  refine pwp_loop (τ := Nat) [(5,6), (10,27)] (fun s => [(6, .int .i64 (s : Int)), (5, .int .i64 (bestN P s : Nat))]) (fun s => Cl [] w [.blk bk [.int .i64 n, gv]]) (fun s => 1 ≤ s ∧ s ≤ N) (fun s => N - s) 1
    ⟨rfl, by simp [bestN, cntN_zero]; rfl, trivial⟩ ⟨by omega, by omega⟩ (fun _ h => h) (fun J s hs => ?_)
  have hbl := bestN_lt P s
  have hst : bestN P (s + 1) = if cntN (bestN P s) < cntN s ∧ P s = true then s else bestN P s := rfl
  by_cases hsn : s < N
  · have c1 := kC s
    have c2 := kC (bestN P s)
    have kf : ∀ w', Below w.heap.size w w' → Pure Try.prog f #[.agg #[.int .i64 n, gv], .int .i64 s] w' (.bool (P s)) := fun w' hb => hf s w' hsn hb
    cases hP : P s with
    | true =>
      rw [hP] at kf
      repeat' (first | apply pwp_seq | apply pwp_region | (apply px_run; (first | (apply opv_move; first | exact hid_int rfl | exact hid_bool rfl | rfl) | (apply opv_assign; first | exact hid_int rfl) | (apply opv_leq <;> rfl) | (apply opv_gtr <;> rfl) | (apply opv_pick_t <;> rfl) | (apply opv_pick_f <;> rfl) | (apply opv_add_in; rfl; rfl; omega) | (apply opv_load_str 0 st_G; rfl; rfl; rfl) | (apply opv_callx; rfl; rfl; exact Cl.stable _ _ _; exact fun w hw => kf _ hw.below) | (apply opv_call; rfl; rfl; exact Cl.stable _ _ _; exact fun w hw => kC s _ (by omega)) | (apply opv_call; rfl; rfl; exact Cl.stable _ _ _; exact fun w hw => kC (bestN P s) _ (by omega)) | (apply opv_call; rfl; rfl; exact Cl.stable _ _ _; exact fun w hw => kA _)); rfl; rfl) | apply px_nil | (apply px_skip; rfl; rfl) | apply qseq_normal | apply pwp_block | apply qblock_normal | apply pwp_skip | (apply pwp_cond_t; rfl) | (apply pwp_cond_f; rfl) | (apply px_guard_dec; rfl; rfl; rfl; all_goals (intro hc; try (first | fail))) | (apply pwp_cond_dec; rfl; all_goals (intro hc; try (first | (exfalso; omega)))))
      all_goals first
        | (refine qround_normal ?_ ⟨s + 1, ⟨rfl, by rw [hst, if_pos ⟨by omega, hP⟩]; rfl, trivial⟩, ⟨by omega, by omega⟩, by omega, fun _ h => h⟩
           repeat (first | exact same_refl | refine same_upd rfl ?_ | refine same_junk rfl ?_))
        | (refine qround_normal ?_ ⟨s + 1, ⟨rfl, by rw [hst, if_neg (fun h => by omega)]; rfl, trivial⟩, ⟨by omega, by omega⟩, by omega, fun _ h => h⟩
           repeat (first | exact same_refl | refine same_upd rfl ?_ | refine same_junk rfl ?_))
    | false =>
      rw [hP] at kf
      repeat' (first | apply pwp_seq | apply pwp_region | (apply px_run; (first | (apply opv_move; first | exact hid_int rfl | exact hid_bool rfl | rfl) | (apply opv_assign; first | exact hid_int rfl) | (apply opv_leq <;> rfl) | (apply opv_gtr <;> rfl) | (apply opv_pick_t <;> rfl) | (apply opv_pick_f <;> rfl) | (apply opv_add_in; rfl; rfl; omega) | (apply opv_load_str 0 st_G; rfl; rfl; rfl) | (apply opv_callx; rfl; rfl; exact Cl.stable _ _ _; exact fun w hw => kf _ hw.below) | (apply opv_call; rfl; rfl; exact Cl.stable _ _ _; exact fun w hw => kC s _ (by omega)) | (apply opv_call; rfl; rfl; exact Cl.stable _ _ _; exact fun w hw => kC (bestN P s) _ (by omega)) | (apply opv_call; rfl; rfl; exact Cl.stable _ _ _; exact fun w hw => kA _)); rfl; rfl) | apply px_nil | (apply px_skip; rfl; rfl) | apply qseq_normal | apply pwp_block | apply qblock_normal | apply pwp_skip | (apply pwp_cond_f; rfl) | (apply px_guard_dec; rfl; rfl; rfl; all_goals (intro hc; try (first | fail))) | (apply pwp_cond_dec; rfl; all_goals (intro hc; try (first | (exfalso; omega)))))
      all_goals (
        refine qround_normal ?_ ⟨s + 1, ⟨rfl, by rw [hst, if_neg (fun h => by rw [hP] at h; cases h.2)]; rfl, trivial⟩, ⟨by omega, by omega⟩, by omega, fun _ h => h⟩
        repeat (first | exact same_refl | refine same_upd rfl ?_ | refine same_junk rfl ?_))
  · obtain rfl : s = N := by omega
    repeat' (first | apply pwp_seq | apply pwp_region | (apply px_run; (first | (apply opv_move; first | exact hid_int rfl) | (apply opv_assign; first | exact hid_int rfl) | (apply opv_leq <;> rfl) | (apply opv_load_str 0 st_G; rfl; rfl; rfl) | (apply opv_call; rfl; rfl; exact Cl.stable _ _ _; exact fun w hw => kA _)); rfl; rfl) | apply px_nil | apply qseq_normal | apply qseq_exit | (apply qblock_exit_same; rfl) | apply pwp_exit | apply pwp_ret | apply qround_exit | (apply pwp_cond_dec; rfl; all_goals (intro hc; try (first | (exfalso; omega)))))
    refine qbody_ret1 (v := .int _ _) rfl rfl ⟨rfl, fun _ h => h.below⟩
theorem en_i_LargestClique : Entry Try.prog 124 := ⟨_, Try.func124, by kernel_rfl, rfl⟩
theorem i_LargestClique_c (n : Nat) (gv : Value) (rows : List Int) (w : World) (hr : Arr w gv (ints rows)) (hg : IsG n rows) (hn : n ≤ 7) :
    Pure Try.prog 124 #[.agg #[.int .i64 n, gv]] w (.int .i64 (bestN (fun s => decide (cliqueP n rows (s : Int))) (2 ^ n))) := by
  refine pure_enter (args := [_]) en_i_LargestClique Try.func124 rfl Try.ntmps124 rfl ?_
  repeat' (first | apply pwp_seq | apply pwp_region | (apply px_run; (first | (apply opv_assign; first | exact hid_int rfl) | (apply opv_load_str 0 st_G; rfl; rfl; rfl) | (apply opv_call; rfl; rfl; exact Cl.stable _ _ _; exact fun w hw => i_largest_c n gv rows _ (fun s => decide (cliqueP n rows (s : Int))) _ (by first | exact hw.arr (by assumption)) hg hn (fun s w' _ hb => i_IsClique_c _ _ rows _ _ (Arr.below (by first | exact hw.arr (by assumption)) hb)))); rfl; rfl) | apply px_nil | apply qseq_normal | apply pwp_ret | (apply px_box; rfl; rfl; rfl; rfl; intro bk))
  refine qbody_ret1 (v := .int _ _) rfl rfl ⟨rfl, fun _ h => h.below⟩
theorem en_i_LargestIndependent : Entry Try.prog 92 := ⟨_, Try.func92, by kernel_rfl, rfl⟩
theorem i_LargestIndependent_c (n : Nat) (gv : Value) (rows : List Int) (w : World) (hr : Arr w gv (ints rows)) (hg : IsG n rows) (hn : n ≤ 7) :
    Pure Try.prog 92 #[.agg #[.int .i64 n, gv]] w (.int .i64 (bestN (fun s => decide (indepP n rows (s : Int))) (2 ^ n))) := by
  refine pure_enter (args := [_]) en_i_LargestIndependent Try.func92 rfl Try.ntmps92 rfl ?_
  repeat' (first | apply pwp_seq | apply pwp_region | (apply px_run; (first | (apply opv_assign; first | exact hid_int rfl) | (apply opv_load_str 0 st_G; rfl; rfl; rfl) | (apply opv_call; rfl; rfl; exact Cl.stable _ _ _; exact fun w hw => i_largest_c n gv rows _ (fun s => decide (indepP n rows (s : Int))) _ (by first | exact hw.arr (by assumption)) hg hn (fun s w' _ hb => i_IsIndependent_c _ _ rows _ _ (Arr.below (by first | exact hw.arr (by assumption)) hb)))); rfl; rfl) | apply px_nil | apply qseq_normal | apply pwp_ret | (apply px_box; rfl; rfl; rfl; rfl; intro bk))
  refine qbody_ret1 (v := .int _ _) rfl rfl ⟨rfl, fun _ h => h.below⟩
theorem en_i_CliqueNumber : Entry Try.prog 90 := ⟨_, Try.func90, by kernel_rfl, rfl⟩
theorem i_CliqueNumber_c (n : Nat) (gv : Value) (rows : List Int) (w : World) (hr : Arr w gv (ints rows)) (hg : IsG n rows) (hn : n ≤ 7) :
    Pure Try.prog 90 #[.agg #[.int .i64 n, gv]] w (.int .i64 (cntN (bestN (fun s => decide (cliqueP n rows (s : Int))) (2 ^ n)) : Nat)) := by
  refine pure_enter (args := [_]) en_i_CliqueNumber Try.func90 rfl Try.ntmps90 rfl ?_
  have h7 := pow_le7 hn
  have hlt := bestN_lt (fun s => decide (cliqueP n rows (s : Int))) (2 ^ n)
  have hsp := (bestN_spec (fun s => decide (cliqueP n rows (s : Int))) (2 ^ n)).1
  have kG : ∀ w', Arr w' gv (ints rows) → Pure Try.prog 74 #[.agg #[.int .i64 n, gv]] w' (.bool true) := fun w' h => by
    have := i_IsGraph_c n gv rows w' h
    rw [decide_eq_true hg] at this; exact this
  have kC : ∀ (s : Nat) w', s < 128 → Pure Try.prog 91 #[.int .i64 s] w' (.int .i64 (cntN s : Nat)) := fun s w' h => by
    have := i_CountSet_c s w'
    rw [cntS_nat h] at this; exact this
  repeat' (first | apply pwp_seq | apply pwp_region | (apply px_run; (first | (apply opv_assign; first | exact hid_int rfl) | (apply opv_not <;> rfl) | (apply opv_load_str 0 st_G; rfl; rfl; rfl) | (apply opv_call; rfl; rfl; exact Cl.stable _ _ _; exact fun w hw => kG _ (by first | exact hw.arr (by assumption))) | (apply opv_call; rfl; rfl; exact Cl.stable _ _ _; exact fun w hw => i_LargestClique_c n gv rows _ (by first | exact hw.arr (by assumption)) hg hn) | (apply opv_call; rfl; rfl; exact Cl.stable _ _ _; exact fun w hw => kC _ _ (by omega))); rfl; rfl) | apply px_nil | apply qseq_normal | apply pwp_skip | apply pwp_ret | (apply pwp_cond_f; rfl) | (apply px_box; rfl; rfl; rfl; rfl; intro bk))
  refine qbody_ret1 (v := .int _ _) rfl rfl ⟨rfl, fun _ h => h.below⟩
theorem en_s_l17Answers : Entry Try.prog 88 := ⟨_, Try.func88, by kernel_rfl, rfl⟩
set_option maxRecDepth 100000 in
set_option maxHeartbeats 6400000 in
theorem s_l17Answers_c (n : Nat) (gv hv : Value) (rows : List Int) (hg : IsG n rows) (hn : n ≤ 7) (hp : P4f (eN (rowN rows))) : ∀ (c set : Nat) (w : World), cntN set ≤ c → set ≠ 0 → set < 2 ^ n → Arr w gv (ints rows) → Arr w hv (ints (barL n rows)) →
    Gives Try.prog 88 #[.agg #[.int .i64 n, gv], .agg #[.int .i64 n, hv], .int .i64 set] w (fun v objs => objs = [.row 3 v (ints (pairL (omM (eN (rowN rows)) set) (omM (coE (eN (rowN rows))) set)))]) := by
  have h7 := pow_le7 hn
  intro c
  induction c with
  | zero =>
    intro set w hc h0 hset _ _
    have := (cnt_pos ⟨set, by omega⟩).2 h0
    dsimp only at this; omega
  | succ c ih =>
    intro set w hc h0 hset hr hh
    have hpos := (cnt_pos ⟨set, by omega⟩).2 h0
    dsimp only at hpos
    refine gives_enter (args := [_, _, _]) en_s_l17Answers Try.func88 rfl Try.ntmps88 rfl ?_
    have kC : ∀ w', Pure Try.prog 122 #[.int .i64 set] w' (.int .i64 (cntN set : Nat)) := fun w' => by
      have := s_CountSet_c set w'
      rw [cntS_nat (by omega)] at this; exact this
    by_cases h1 : cntN set = 1
    · rw [om_single (by omega) h1, om_single (by omega) h1]
      repeat' (first | apply pwp_seq | apply pwp_region | (apply px_run; (first | (apply opv_move; first | exact hid_int rfl) | (apply opv_assign; first | rfl) | (apply opv_eql <;> rfl) | (apply opv_call; rfl; rfl; exact Cl.stable _ _ _; exact fun w hw => kC _)); rfl; rfl) | apply px_nil | apply qseq_normal | apply qseq_ret | apply pwp_ret | (apply pwp_cond_dec; rfl; all_goals (intro hc; try (first | (exfalso; omega)))) | (apply px_box; rfl; rfl; rfl; rfl; intro bk) | (apply px_lit2 ez_int; rfl; (intro w hw; (first | rfl)); rfl; (intro w hw; (first | rfl)); rfl; rfl; rfl; intro sv))
      refine qbody_ret1 rfl rfl ⟨_, rfl, fun w' h => ?_⟩
      exact Cl.sub (by assumption) (by repeat (first | exact List.Sublist.slnil | exact List.Sublist.refl _ | apply List.Sublist.cons_cons | exact List.sublist_append_left _ _ | exact List.sublist_append_right _ _ | apply List.Sublist.cons))
    have hgr := ng_of hg rfl
    have hbg := bar_isG hg
    have hgs := ng_of hbg rfl
    have hcog := cog_parts hgr hgs (fun x y hx hy => bar_eN hg rfl hx hy) hp (eN_sym hg rfl) hset (by omega)
    have kP : ∀ w', Arr w' gv (ints rows) → Gives Try.prog 123 #[.agg #[.int .i64 n, gv], .int .i64 set] w' (fun v objs => objs = [.row 3 v (ints ((partsN (rowN rows) n set 128 set).map Int.ofNat))]) := fun w' h => by
      have := s_PartsOf_c n gv rows n set w' h hg rfl hset
      unfold partsL at this; exact this
    have kQ : ∀ w', Arr w' hv (ints (barL n rows)) → Gives Try.prog 123 #[.agg #[.int .i64 n, hv], .int .i64 set] w' (fun v objs => objs = [.row 3 v (ints ((partsN (rowN (barL n rows)) n set 128 set).map Int.ofNat))]) := fun w' h => by
      have := s_PartsOf_c n hv (barL n rows) n set w' h hbg rfl hset
      unfold partsL at this; exact this
    have hlenP : ((partsN (rowN rows) n set 128 set).map Int.ofNat).length = (partsN (rowN rows) n set 128 set).length := List.length_map ..
    have hlenQ : ((partsN (rowN (barL n rows)) n set 128 set).map Int.ofNat).length = (partsN (rowN (barL n rows)) n set 128 set).length := List.length_map ..
    by_cases hone : (partsN (rowN rows) n set 128 set).length = 1
    · repeat' (first | apply pwp_seq | apply pwp_region | (apply px_run; (first | (apply opv_move; first | exact hid_int rfl | exact hid_bool rfl | rfl) | (apply opv_assign; first | exact hid_int rfl | exact hid_bool rfl | rfl) | (apply opv_eql <;> rfl) | (apply opv_len_ints el_int; rfl; (first | exact rd_row 0 rfl)) | (apply opv_load_str 1 st_G; rfl; rfl; rfl) | (apply opv_call; rfl; rfl; exact Cl.stable _ _ _; exact fun w hw => kC _)); rfl; rfl) | apply px_nil | apply qseq_normal | apply pwp_block | apply pwp_skip | (apply pwp_cond_dec; rfl; all_goals (intro hc; try (first | (exfalso; omega)))) | (apply px_box; rfl; rfl; rfl; rfl; intro bk) | (apply px_lit2 ez_int; rfl; (intro w hw; (first | rfl)); rfl; (intro w hw; (first | rfl)); rfl; rfl; rfl; intro sv) | (apply px_gives; rfl; rfl; rfl; rfl; rfl; exact fun w hw => kP _ (by first | exact hw.arr (by assumption)); rintro pv _ rfl) | (apply px_gives; rfl; rfl; rfl; rfl; rfl; exact fun w hw => kQ _ (by first | exact hw.arr (by assumption)); rintro qv _ rfl))
      rename_i b3 hcn
      have hin := parts_in hgs hset 128 set ⟨SubN.refl _, fun _ _ _ h _ => h⟩
      have hsm := hcog.1 hone
      have hwh := whole_om hgs hset
      rw [(bar_om hg rfl hset).1, (bar_om hg rfl hset).2] at hwh
      have hL128 : (partsN (rowN (barL n rows)) n set 128 set).length ≤ 128 := partsN_length _ _ _ _ _
      generalize partsN (rowN (barL n rows)) n set 128 set = L at *
      refine pwp_loop (τ := Nat × Value) [(9,11), (27,70)] (fun x => [(10, .int .i64 (x.1 : Int)), (9, x.2)]) (fun x => Cl [] w [.row 3 x.2 (ints (pairL (((L.take x.1).map (omM (coE (eN (rowN (barL n rows)))))).foldl (· + ·) 0) (((L.take x.1).map (omM (eN (rowN (barL n rows))))).foldl max 0))), .row 3 qv (ints (L.map Int.ofNat)), .blk bk [.int .i64 n, hv], .blk b3 [.int .i64 n, gv]]) (fun x => x.1 ≤ L.length) (fun x => L.length - x.1) (0, sv)
        ⟨rfl, rfl, trivial⟩ (Nat.zero_le _) (fun w' h => by exact Cl.sub (by assumption) (by repeat (first | exact List.Sublist.slnil | exact List.Sublist.refl _ | apply List.Sublist.cons_cons | exact List.sublist_append_left _ _ | exact List.sublist_append_right _ _ | apply List.Sublist.cons))) (fun J x hx => ?_)
      obtain ⟨i, ov⟩ := x
      dsimp only at hx ⊢
      have hLl : (L.map Int.ofNat).length = L.length := List.length_map ..
      by_cases hlt : i < L.length
      · have hpm : L.getD i 0 ∈ L := by simp [List.getD, hlt]
        obtain ⟨hs1, hs0⟩ := hin _ hpm
        have hs2 := hsm _ hpm
        have hpn : L.getD i 0 < 2 ^ n := lt_of_sub hs1 hset
        have hgt : (L.map Int.ofNat).getD i 0 = ((L.getD i 0 : Nat) : Int) := by simp [List.getD, hlt]
        have kI : ∀ w', Arr w' gv (ints rows) → Arr w' hv (ints (barL n rows)) → Gives Try.prog 88 #[.agg #[.int .i64 n, gv], .agg #[.int .i64 n, hv], .int .i64 ((L.map Int.ofNat).getD i 0)] w' (fun v objs => objs = [.row 3 v (ints (pairL (omM (eN (rowN rows)) (L.getD i 0)) (omM (coE (eN (rowN rows))) (L.getD i 0))))]) := fun w' h1 h2 => by
          have := ih (L.getD i 0) w' (by omega) hs0 hpn h1 h2
          rw [← hgt] at this; exact this
        have hb0 := sum_le7 (omM_le (coE (eN (rowN (barL n rows))))) (L.take i) 0
        have hb1 := omM_le (eN (rowN rows)) (L.getD i 0)
        have hti : (L.take i).length ≤ 128 := by rw [List.length_take]; omega
        have hf1 := fold_take (f := (· + ·)) (g := omM (coE (eN (rowN (barL n rows))))) hlt 0
        have hf2 := fold_take (f := max) (g := omM (eN (rowN (barL n rows)))) hlt 0
        rw [(bar_om hg rfl hpn).2] at hf1
        rw [(bar_om hg rfl hpn).1] at hf2
        generalize ((L.take i).map (omM (coE (eN (rowN (barL n rows)))))).foldl (· + ·) 0 = a0 at *
        generalize ((L.take i).map (omM (eN (rowN (barL n rows))))).foldl max 0 = b0 at *
        generalize omM (eN (rowN rows)) (L.getD i 0) = a1 at *
        generalize omM (coE (eN (rowN rows))) (L.getD i 0) = b1 at *
        have hp1 := pairL_len a0 b0
        have hp2 := pairL_len a1 b1
        have q1 := pairL_0 a0 b0
        have q2 := pairL_1 a0 b0
        have q3 := pairL_0 a1 b1
        have q4 := pairL_1 a1 b1
        repeat' (first | apply pwp_seq | apply pwp_region | (apply px_run; (first | (apply opv_max; rfl; rfl) | (apply opv_move; first | exact hid_int rfl | exact hid_bool rfl | rfl) | (apply opv_assign; first | exact hid_int rfl | rfl) | (apply opv_lss <;> rfl) | (apply opv_add_in; rfl; rfl; omega) | (apply opv_load_ints sc_int; rfl; (first | exact rd_row 0 rfl | exact rd_row 1 rfl); (first | omega)) | (apply opv_index_nat (k := 0) (vs := ints _) el_int; rfl; rfl; (first | exact rd_row 0 rfl | exact rd_row 1 rfl); (first | (simp only [ints_length]; first | omega))) | (apply opv_index_nat (k := 1) (vs := ints _) el_int; rfl; rfl; (first | exact rd_row 0 rfl | exact rd_row 1 rfl); (first | (simp only [ints_length]; first | omega))) | (apply opv_index_nat (vs := ints _) el_int; rfl; rfl; (first | exact rd_row 1 rfl); (first | (simp only [ints_length]; omega))) | (apply opv_len_ints el_int; rfl; (first | exact rd_row 1 rfl)) | (apply opv_load_str 2 st_G; rfl; rfl; rfl) | (apply opv_load_str 3 st_G; rfl; rfl; rfl)); rfl; rfl) | apply px_nil | apply qseq_normal | apply pwp_block | apply qblock_normal | apply pwp_skip | (apply pwp_region_any [0, 1, 2, 3, 4, 5] [] 2 (Cl [] w [.row 3 ov _, .row 3 qv _, .blk bk _, .blk b3 _]); kernel_rfl; decide +kernel; exact Cl.stable _ _ _; exact fun w h => h.sub (by repeat (first | exact List.Sublist.refl _))) | apply qlooks_normal | (apply qstep_in; exact fun w h => h.sub (by repeat (first | exact List.sublist_append_right _ _))) | (apply pxa_nil; decide +kernel) | (apply pxa_one 6; decide +kernel; rfl) | (apply pxa_one 7; decide +kernel; rfl) | (apply pwp_region_mix; kernel_rfl; decide +kernel; exact Cl.stable _ _ _) | (apply pwp_cond_dec; rfl; all_goals (intro hc; try (first | contradiction | (exfalso; omega)))) | (apply px_lit2 ez_int; rfl; (intro w hw; (first | rfl)); rfl; (intro w hw; (first | rfl)); rfl; rfl; rfl; intro sv) | (apply px_gives; rfl; rfl; rfl; rfl; rfl; exact fun w hw => kI _ (by first | exact hw.arr (by assumption)) (by first | exact hw.arr (by assumption)); rintro xv _ rfl))
        refine qround_normal ?_ ⟨(i + 1, _), ⟨rfl, rfl, trivial⟩, by dsimp only; omega, by dsimp only; omega, fun w' h => ?_⟩
        · repeat (first | exact same_refl | refine same_upd rfl ?_ | refine same_junk rfl ?_)
        · dsimp only
          rw [hf1, hf2]
          have e : ints (pairL (a0 + a1) (max b0 b1)) = [.int .i64 ((pairL a0 b0).getD 0 0 + (pairL a1 b1).getD 0 0), .int .i64 (max ((pairL a0 b0).getD 1 0) ((pairL a1 b1).getD 1 0))] := by
            rw [pairL_0, pairL_0, pairL_1, pairL_1]
            simp only [pairL, ints, List.map_cons, List.map_nil]
            rw [show ((max b0 b1 : Nat) : Int) = max (b0 : Int) (b1 : Int) by omega]
            rfl
          rw [e]
          exact Cl.sub (by assumption) (by repeat (first | exact List.Sublist.slnil | exact List.Sublist.refl _ | apply List.Sublist.cons_cons | exact List.sublist_append_left _ _ | exact List.sublist_append_right _ _ | apply List.Sublist.cons))
      · obtain rfl : i = L.length := by omega
        rw [List.take_length, hwh.1, hwh.2]
        repeat' (first | apply pwp_seq | apply pwp_region | (apply px_run; (first | (apply opv_move; first | exact hid_int rfl | rfl) | (apply opv_assign; first | rfl) | (apply opv_lss <;> rfl) | (apply opv_len_ints el_int; rfl; (first | exact rd_row 1 rfl))); rfl; rfl) | apply px_nil | apply qseq_normal | apply qseq_exit | (apply qblock_exit_same; rfl) | apply pwp_exit | apply pwp_ret | apply qround_exit | (apply pwp_cond_dec; rfl; all_goals (intro hc; try (first | (exfalso; omega)))))
        refine qbody_ret1 rfl rfl ⟨_, rfl, fun w' h => ?_⟩
        exact Cl.sub (by assumption) (by repeat (first | exact List.Sublist.slnil | exact List.Sublist.refl _ | apply List.Sublist.cons_cons | exact List.sublist_append_left _ _ | exact List.sublist_append_right _ _ | apply List.Sublist.cons))
    · repeat' (first | apply pwp_seq | apply pwp_region | (apply px_run; (first | (apply opv_move; first | exact hid_int rfl | exact hid_bool rfl | rfl) | (apply opv_assign; first | exact hid_int rfl | exact hid_bool rfl | rfl) | (apply opv_eql <;> rfl) | (apply opv_len_ints el_int; rfl; (first | exact rd_row 0 rfl)) | (apply opv_load_str 1 st_G; rfl; rfl; rfl) | (apply opv_call; rfl; rfl; exact Cl.stable _ _ _; exact fun w hw => kC _)); rfl; rfl) | apply px_nil | apply qseq_normal | apply pwp_block | apply pwp_skip | (apply pwp_cond_dec; rfl; all_goals (intro hc; try (first | (exfalso; omega)))) | (apply px_box; rfl; rfl; rfl; rfl; intro bk) | (apply px_lit2 ez_int; rfl; (intro w hw; (first | rfl)); rfl; (intro w hw; (first | rfl)); rfl; rfl; rfl; intro sv) | (apply px_gives; rfl; rfl; rfl; rfl; rfl; exact fun w hw => kP _ (by first | exact hw.arr (by assumption)); rintro pv _ rfl))
      rename_i b3 hcn
      have hin := parts_in hgr hset 128 set ⟨SubN.refl _, fun _ _ _ h _ => h⟩
      have hsm := hcog.2 hone
      have hwh := whole_om hgr hset
      clear kQ hlenQ
      have hL128 : (partsN (rowN rows) n set 128 set).length ≤ 128 := partsN_length _ _ _ _ _
      generalize partsN (rowN rows) n set 128 set = L at *
      refine pwp_loop (τ := Nat × Value) [(9,11), (27,70)] (fun x => [(10, .int .i64 (x.1 : Int)), (9, x.2)]) (fun x => Cl [] w [.row 3 x.2 (ints (pairL (((L.take x.1).map (omM (eN (rowN rows)))).foldl max 0) (((L.take x.1).map (omM (coE (eN (rowN rows))))).foldl (· + ·) 0))), .row 3 pv (ints (L.map Int.ofNat)), .blk bk [.int .i64 n, hv], .blk b3 [.int .i64 n, gv]]) (fun x => x.1 ≤ L.length) (fun x => L.length - x.1) (0, sv)
        ⟨rfl, rfl, trivial⟩ (Nat.zero_le _) (fun w' h => by exact Cl.sub (by assumption) (by repeat (first | exact List.Sublist.slnil | exact List.Sublist.refl _ | apply List.Sublist.cons_cons | exact List.sublist_append_left _ _ | exact List.sublist_append_right _ _ | apply List.Sublist.cons))) (fun J x hx => ?_)
      obtain ⟨i, ov⟩ := x
      dsimp only at hx ⊢
      have hLl : (L.map Int.ofNat).length = L.length := List.length_map ..
      by_cases hlt : i < L.length
      · have hpm : L.getD i 0 ∈ L := by simp [List.getD, hlt]
        obtain ⟨hs1, hs0⟩ := hin _ hpm
        have hs2 := hsm _ hpm
        have hpn : L.getD i 0 < 2 ^ n := lt_of_sub hs1 hset
        have hgt : (L.map Int.ofNat).getD i 0 = ((L.getD i 0 : Nat) : Int) := by simp [List.getD, hlt]
        have kI : ∀ w', Arr w' gv (ints rows) → Arr w' hv (ints (barL n rows)) → Gives Try.prog 88 #[.agg #[.int .i64 n, gv], .agg #[.int .i64 n, hv], .int .i64 ((L.map Int.ofNat).getD i 0)] w' (fun v objs => objs = [.row 3 v (ints (pairL (omM (eN (rowN rows)) (L.getD i 0)) (omM (coE (eN (rowN rows))) (L.getD i 0))))]) := fun w' h1 h2 => by
          have := ih (L.getD i 0) w' (by omega) hs0 hpn h1 h2
          rw [← hgt] at this; exact this
        have hb0 := sum_le7 (omM_le (coE (eN (rowN rows)))) (L.take i) 0
        have hb1 := omM_le (coE (eN (rowN rows))) (L.getD i 0)
        have hti : (L.take i).length ≤ 128 := by rw [List.length_take]; omega
        have hf1 := fold_take (f := max) (g := omM (eN (rowN rows))) hlt 0
        have hf2 := fold_take (f := (· + ·)) (g := omM (coE (eN (rowN rows)))) hlt 0
        generalize ((L.take i).map (omM (eN (rowN rows)))).foldl max 0 = a0 at *
        generalize ((L.take i).map (omM (coE (eN (rowN rows))))).foldl (· + ·) 0 = b0 at *
        generalize omM (eN (rowN rows)) (L.getD i 0) = a1 at *
        generalize omM (coE (eN (rowN rows))) (L.getD i 0) = b1 at *
        have hp1 := pairL_len a0 b0
        have hp2 := pairL_len a1 b1
        have q1 := pairL_0 a0 b0
        have q2 := pairL_1 a0 b0
        have q3 := pairL_0 a1 b1
        have q4 := pairL_1 a1 b1
        repeat' (first | apply pwp_seq | apply pwp_region | (apply px_run; (first | (apply opv_max; rfl; rfl) | (apply opv_move; first | exact hid_int rfl | exact hid_bool rfl | rfl) | (apply opv_assign; first | exact hid_int rfl | rfl) | (apply opv_lss <;> rfl) | (apply opv_add_in; rfl; rfl; omega) | (apply opv_load_ints sc_int; rfl; (first | exact rd_row 0 rfl | exact rd_row 1 rfl); (first | omega)) | (apply opv_index_nat (k := 0) (vs := ints _) el_int; rfl; rfl; (first | exact rd_row 0 rfl | exact rd_row 1 rfl); (first | (simp only [ints_length]; first | omega))) | (apply opv_index_nat (k := 1) (vs := ints _) el_int; rfl; rfl; (first | exact rd_row 0 rfl | exact rd_row 1 rfl); (first | (simp only [ints_length]; first | omega))) | (apply opv_index_nat (vs := ints _) el_int; rfl; rfl; (first | exact rd_row 1 rfl); (first | (simp only [ints_length]; omega))) | (apply opv_len_ints el_int; rfl; (first | exact rd_row 1 rfl)) | (apply opv_load_str 2 st_G; rfl; rfl; rfl) | (apply opv_load_str 3 st_G; rfl; rfl; rfl)); rfl; rfl) | apply px_nil | apply qseq_normal | apply pwp_block | apply qblock_normal | apply pwp_skip | (apply pwp_region_any [0, 1, 2, 3, 4, 5] [] 2 (Cl [] w [.row 3 ov _, .row 3 pv _, .blk bk _, .blk b3 _]); kernel_rfl; decide +kernel; exact Cl.stable _ _ _; exact fun w h => h.sub (by repeat (first | exact List.Sublist.refl _))) | (apply pwp_region_any [0, 1, 2, 3, 4, 5, 7, 8, 9, 10, 11, 12, 13] [] 3 (Cl [] w [.row 3 xv _, .row 3 ov _, .row 3 pv _, .blk bk _, .blk b3 _]); kernel_rfl; decide +kernel; exact Cl.stable _ _ _; exact fun w h => h.sub (by repeat (first | exact List.Sublist.refl _))) | apply qlooks_normal | (apply qstep_in; exact fun w h => h.sub (by repeat (first | exact List.Sublist.refl _ | exact List.sublist_append_right _ _ | apply List.Sublist.cons))) | (apply pxa_nil; decide +kernel) | (apply pxa_one 6; decide +kernel; rfl) | (apply pxa_one 7; decide +kernel; rfl) | (apply pxa_one 14; decide +kernel; rfl) | (apply pxa_one 15; decide +kernel; rfl) | (apply pwp_cond_dec; rfl; all_goals (intro hc; try (first | contradiction | (exfalso; omega)))) | (apply px_lit2 ez_int; rfl; (intro w hw; (first | rfl)); rfl; (intro w hw; (first | rfl)); rfl; rfl; rfl; intro sv) | (apply px_gives; rfl; rfl; rfl; rfl; rfl; exact fun w hw => kI _ (by first | exact hw.arr (by assumption)) (by first | exact hw.arr (by assumption)); rintro xv _ rfl))
        refine qround_normal ?_ ⟨(i + 1, _), ⟨rfl, rfl, trivial⟩, by dsimp only; omega, by dsimp only; omega, fun w' h => ?_⟩
        · repeat (first | exact same_refl | refine same_upd rfl ?_ | refine same_junk rfl ?_)
        · dsimp only
          rw [hf1, hf2]
          have e : ints (pairL (max a0 a1) (b0 + b1)) = [.int .i64 (max ((pairL a0 b0).getD 0 0) ((pairL a1 b1).getD 0 0)), .int .i64 ((pairL a0 b0).getD 1 0 + (pairL a1 b1).getD 1 0)] := by
            rw [pairL_0, pairL_0, pairL_1, pairL_1]
            simp only [pairL, ints, List.map_cons, List.map_nil]
            rw [show ((max a0 a1 : Nat) : Int) = max (a0 : Int) (a1 : Int) by omega]
            rfl
          rw [e]
          exact Cl.sub (by assumption) (by repeat (first | exact List.Sublist.slnil | exact List.Sublist.refl _ | apply List.Sublist.cons_cons | exact List.sublist_append_left _ _ | exact List.sublist_append_right _ _ | apply List.Sublist.cons))
      · obtain rfl : i = L.length := by omega
        rw [List.take_length, hwh.1, hwh.2]
        repeat' (first | apply pwp_seq | apply pwp_region | (apply px_run; (first | (apply opv_move; first | exact hid_int rfl | rfl) | (apply opv_assign; first | rfl) | (apply opv_lss <;> rfl) | (apply opv_len_ints el_int; rfl; (first | exact rd_row 1 rfl))); rfl; rfl) | apply px_nil | apply qseq_normal | apply qseq_exit | (apply qblock_exit_same; rfl) | apply pwp_exit | apply pwp_ret | apply qround_exit | (apply pwp_cond_dec; rfl; all_goals (intro hc; try (first | (exfalso; omega)))))
        refine qbody_ret1 rfl rfl ⟨_, rfl, fun w' h => ?_⟩
        exact Cl.sub (by assumption) (by repeat (first | exact List.Sublist.slnil | exact List.Sublist.refl _ | apply List.Sublist.cons_cons | exact List.sublist_append_left _ _ | exact List.sublist_append_right _ _ | apply List.Sublist.cons))
end Go.Proofs.Ytpmeehkabaobkaa
