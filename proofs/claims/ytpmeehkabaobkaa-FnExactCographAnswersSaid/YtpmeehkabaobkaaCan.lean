/- A cograph's clique number and independence number. -/
import Derived.Test.YtpmeehkabaobkaaCa
import Derived.Test.YtpmeehkabaobkaaFl
import Derived.Test.YtpmeehkabaobkaaKd
namespace Go.Proofs.Ytpmeehkabaobkaa
open Go Go.RowKit Go.Pw
def cogB (size : Int) (rows : List Int) : Bool := decide (IsG size rows ∧ pathX size rows 4 = none)
noncomputable def cogL (size : Int) (rows : List Int) : List Int := if IsG size rows ∧ pathX size rows 4 = none then pairL (omM (eN (rowN rows)) (2 ^ size.toNat - 1)) (omM (coE (eN (rowN rows))) (2 ^ size.toNat - 1)) else []
theorem cogL_length (size : Int) (rows : List Int) : (cogL size rows).length ≤ 128 := by
  unfold cogL; split
  · rw [pairL_len]; omega
  · exact Nat.zero_le _
theorem en_i_CographAnswers : Entry Try.prog 45 := ⟨_, Try.func45, by kernel_rfl, rfl⟩
theorem i_CographAnswers_c (size : Int) (gv : Value) (rows : List Int) (w : World) (hr : Arr w gv (ints rows)) :
    Gives Try.prog 45 #[.agg #[.int .i64 size, gv]] w (fun v objs => ∃ sv, v = .tuple #[sv, .bool (cogB size rows)] ∧ objs = [.row 3 sv (ints (cogL size rows))]) := by
  refine gives_enter (args := [_]) en_i_CographAnswers Try.func45 rfl Try.ntmps45 rfl ?_
  have kI : ∀ w', Arr w' gv (ints rows) → Pure Try.prog 89 #[.agg #[.int .i64 size, gv]] w' (.bool (cogB size rows)) := fun w' h => i_IsCograph_c size gv rows w' h
  by_cases hc0 : IsG size rows ∧ pathX size rows 4 = none
  case neg =>
    have hB : cogB size rows = false := decide_eq_false hc0
    have hL : cogL size rows = [] := if_neg hc0
    rw [hB] at kI
    repeat' (first | apply pwp_seq | apply pwp_region | (apply px_run; (first | (apply opv_assign; first | exact hid_bool rfl | rfl) | (apply opv_not <;> rfl) | (apply opv_load_str 0 st_G; rfl; rfl; rfl) | (apply opv_call; rfl; rfl; exact Cl.stable _ _ _; exact fun w hw => kI _ (by first | exact hw.arr (by assumption)))); rfl; rfl) | apply px_nil | apply qseq_normal | apply qseq_ret | apply pwp_ret | (apply pwp_cond_t; rfl) | (apply px_box; rfl; rfl; rfl; rfl; intro bk))
    refine qbody_ret2 rfl rfl rfl ⟨_, ⟨_, by rw [hB]; rfl, rfl⟩, fun w' h => ?_⟩
    rw [hL]
    exact (h.sub (List.nil_sublist _)).nilRow _
  have hB : cogB size rows = true := decide_eq_true hc0
  rw [hB] at kI ⊢
  obtain ⟨hg, hpn⟩ := hc0
  obtain ⟨n, rfl, hrl, hn1, hn7⟩ := isG_size hg
  have h7 := pow_le7 hn7
  have e1 : cntN (bestN (fun s => decide (cliqueP n rows (s : Int))) (2 ^ n)) = omM (eN (rowN rows)) (2 ^ n - 1) := best_om hn7 (fun C hC => clique_om hg hC)
  have e2 : cntN (bestN (fun s => decide (indepP n rows (s : Int))) (2 ^ n)) = omM (coE (eN (rowN rows))) (2 ^ n - 1) := best_om hn7 (fun C hC => indep_om hg hC)
  have hL : cogL (n : Int) rows = pairL (omM (eN (rowN rows)) (2 ^ n - 1)) (omM (coE (eN (rowN rows))) (2 ^ n - 1)) := if_pos ⟨hg, hpn⟩
  rw [hL, ← e1, ← e2]
  have hlt := bestN_lt (fun s => decide (indepP n rows (s : Int))) (2 ^ n)
  have hsp := (bestN_spec (fun s => decide (indepP n rows (s : Int))) (2 ^ n)).1
  have kC : ∀ (s : Nat) w', s < 128 → Pure Try.prog 91 #[.int .i64 s] w' (.int .i64 (cntN s : Nat)) := fun s w' h => by
    have := i_CountSet_c s w'
    rw [cntS_nat h] at this; exact this
  have kL : ∀ w', Arr w' gv (ints rows) → Pure Try.prog 92 #[.agg #[.int .i64 n, gv]] w' (.int .i64 (bestN (fun s => decide (indepP n rows (s : Int))) (2 ^ n))) := fun w' h => i_LargestIndependent_c n gv rows w' h hg hn7
  have kN : ∀ w', Arr w' gv (ints rows) → Pure Try.prog 90 #[.agg #[.int .i64 n, gv]] w' (.int .i64 (cntN (bestN (fun s => decide (cliqueP n rows (s : Int))) (2 ^ n)) : Nat)) := fun w' h => i_CliqueNumber_c n gv rows w' h hg hn7
  have hlt' : bestN (fun s => decide (indepP n rows (s : Int))) (2 ^ n) < 128 := by omega
  clear e1 e2
  generalize bestN (fun s => decide (indepP n rows (s : Int))) (2 ^ n) = b at *
  generalize cntN (bestN (fun s => decide (cliqueP n rows (s : Int))) (2 ^ n)) = a at *
  repeat' (first | apply pwp_seq | apply pwp_region | (apply px_run; (first | (apply opv_assign; first | exact hid_bool rfl | rfl) | (apply opv_not <;> rfl) | (apply opv_load_str 0 st_G; rfl; rfl; rfl) | (apply opv_call; rfl; rfl; exact Cl.stable _ _ _; exact fun w hw => kI _ (by first | exact hw.arr (by assumption))) | (apply opv_call; rfl; rfl; exact Cl.stable _ _ _; exact fun w hw => kN _ (by first | exact hw.arr (by assumption))) | (apply opv_call; rfl; rfl; exact Cl.stable _ _ _; exact fun w hw => kL _ (by first | exact hw.arr (by assumption))) | (apply opv_call; rfl; rfl; exact Cl.stable _ _ _; exact fun w hw => kC b _ hlt')); rfl; rfl) | apply px_nil | apply qseq_normal | apply pwp_skip | apply pwp_ret | (apply pwp_cond_f; rfl) | (apply pwp_region_any [0, 2] [] 6 (Cl [] w [.blk bk _]); kernel_rfl; decide +kernel; exact Cl.stable _ _ _; exact fun w h => h.sub (by repeat (first | exact List.Sublist.refl _))) | apply qlooks_normal | (apply qstep_in; exact fun w h => h.sub (by repeat (first | exact List.Sublist.refl _ | apply List.Sublist.cons))) | (apply pxa_nil; decide +kernel) | (apply pxa_one 1; decide +kernel; rfl) | (apply pxa_one 3; decide +kernel; rfl) | (apply pxa_one 4; decide +kernel; rfl) | (apply pxa_one 5; decide +kernel; rfl) | (apply pxa_one 6; decide +kernel; rfl) | (apply pxa_one 7; decide +kernel; rfl) | (apply px_box; rfl; rfl; rfl; rfl; intro bk) | (apply px_lit2 ez_int; rfl; (intro w hw; (first | rfl)); rfl; (intro w hw; (first | rfl)); rfl; rfl; rfl; intro sv))
  refine qbody_ret2 rfl rfl rfl ⟨_, ⟨_, rfl, rfl⟩, fun w' h => ?_⟩
  exact Cl.sub (by assumption) (by repeat (first | exact List.Sublist.slnil | exact List.Sublist.refl _ | apply List.Sublist.cons_cons | exact List.sublist_append_left _ _ | exact List.sublist_append_right _ _ | apply List.Sublist.cons))
theorem en_s_CographAnswers : Entry Try.prog 44 := ⟨_, Try.func44, by kernel_rfl, rfl⟩
theorem s_CographAnswers_c (size : Int) (gv : Value) (rows : List Int) (w : World) (hr : Arr w gv (ints rows)) :
    Gives Try.prog 44 #[.agg #[.int .i64 size, gv]] w (fun v objs => ∃ sv, v = .tuple #[sv, .bool (cogB size rows)] ∧ objs = [.row 3 sv (ints (cogL size rows))]) := by
  refine gives_enter (args := [_]) en_s_CographAnswers Try.func44 rfl Try.ntmps44 rfl ?_
  have kI : ∀ w', Arr w' gv (ints rows) → Pure Try.prog 87 #[.agg #[.int .i64 size, gv]] w' (.bool (cogB size rows)) := fun w' h => s_IsCograph_c size gv rows w' h
  by_cases hc0 : IsG size rows ∧ pathX size rows 4 = none
  case neg =>
    have hB : cogB size rows = false := decide_eq_false hc0
    have hL : cogL size rows = [] := if_neg hc0
    rw [hB] at kI
    repeat' (first | apply pwp_seq | apply pwp_region | (apply px_run; (first | (apply opv_assign; first | exact hid_bool rfl | rfl) | (apply opv_not <;> rfl) | (apply opv_load_str 0 st_G; rfl; rfl; rfl) | (apply opv_call; rfl; rfl; exact Cl.stable _ _ _; exact fun w hw => kI _ (by first | exact hw.arr (by assumption)))); rfl; rfl) | apply px_nil | apply qseq_normal | apply qseq_ret | apply pwp_ret | (apply pwp_cond_t; rfl) | (apply px_box; rfl; rfl; rfl; rfl; intro bk) | (apply px_lit0 ez_int; rfl; rfl; rfl; intro sv))
    refine qbody_ret2 rfl rfl rfl ⟨_, ⟨_, by rw [hB]; rfl, rfl⟩, fun w' h => ?_⟩
    rw [hL]
    exact Cl.sub (by assumption) (by repeat (first | exact List.Sublist.slnil | exact List.Sublist.refl _ | apply List.Sublist.cons_cons | exact List.sublist_append_left _ _ | exact List.sublist_append_right _ _ | apply List.Sublist.cons))
  have hB : cogB size rows = true := decide_eq_true hc0
  rw [hB] at kI ⊢
  obtain ⟨hg, hpn⟩ := hc0
  obtain ⟨n, rfl, hrl, hn1, hn7⟩ := isG_size hg
  have h7 := pow_le7 hn7
  have hpos := Nat.two_pow_pos n
  have h2 : 2 ^ 1 ≤ 2 ^ n := Nat.pow_le_pow_right (by omega) hn1
  have hbz : barZ (n : Int) rows = n := if_pos hg
  have hL : cogL (n : Int) rows = pairL (omM (eN (rowN rows)) (2 ^ n - 1)) (omM (coE (eN (rowN rows))) (2 ^ n - 1)) := if_pos ⟨hg, hpn⟩
  have hco := fun w' h => s_ComplementOf_c n gv rows w' h
  rw [hbz, decide_eq_true hg] at hco
  have hall : ishl 1 (n : Int) - 1 = ((2 ^ n - 1 : Nat) : Int) := by rw [ishl_one_nat (by omega)]; omega
  have kA : ∀ w' hv, Arr w' gv (ints rows) → Arr w' hv (ints (barL n rows)) → Gives Try.prog 88 #[.agg #[.int .i64 n, gv], .agg #[.int .i64 n, hv], .int .i64 (ishl 1 (n : Int) - 1)] w' (fun v objs => objs = [.row 3 v (ints (cogL n rows))]) := fun w' hv h1 h2 => by
    have := s_l17Answers_c n gv hv rows hg hn7 (path_none hg rfl hpn) _ (2 ^ n - 1) w' (Nat.le_refl _) (by omega) (by omega) h1 h2
    rw [hall, hL]; exact this
  repeat' (first | apply pwp_seq | apply pwp_region | (apply px_run; (first | (apply opv_move; first | rfl) | (apply opv_assign; first | exact hid_bool rfl | rfl) | (apply opv_not <;> rfl) | (apply opv_sub_in; rfl; rfl; omega) | (apply opv_shl; rfl; rfl; omega) | (apply opv_field fld_G0; rfl) | (apply opv_load_blk 2; (first | with_reducible exact sc_int); rfl; rfl; rfl) | (apply opv_load_str 0 st_G; rfl; rfl; rfl) | (apply opv_load_str 2 st_G; rfl; rfl; rfl) | (apply opv_extract; rfl; rfl) | (apply opv_call; rfl; rfl; exact Cl.stable _ _ _; exact fun w hw => kI _ (by first | exact hw.arr (by assumption)))); rfl; rfl) | apply px_nil | apply qseq_normal | apply pwp_skip | apply pwp_ret | (apply pwp_cond_f; rfl) | (apply pwp_region_mix; kernel_rfl; decide +kernel; exact Cl.stable _ _ _) | (apply px_box; rfl; rfl; rfl; rfl; intro bk) | (apply px_alloc st_G; rfl; rfl; rfl; intro bk) | (apply px_store_str 0 st_G; rfl; rfl; rfl; rfl; rfl; (intro w hw; (first | refine all2 rfl ?_ ?_) <;> (first | rfl | exact stor_row 1 hw rfl)); rfl) | (apply px_gives; rfl; rfl; rfl; rfl; rfl; exact fun w hw => hco _ (by first | exact hw.arr (by assumption)); rintro _ _ ⟨hv, rfl, rfl⟩) | (apply px_gives; rfl; rfl; rfl; rfl; rfl; exact fun w hw => kA _ _ (by first | exact hw.arr (by assumption)) (by first | exact hw.rowArr (k := 1) rfl); rintro xv _ rfl))
  refine qbody_ret2 rfl rfl rfl ⟨_, ⟨_, rfl, rfl⟩, fun w' h => ?_⟩
  exact Cl.sub (by assumption) (by repeat (first | exact List.Sublist.slnil | exact List.Sublist.refl _ | apply List.Sublist.cons_cons | exact List.sublist_append_left _ _ | exact List.sublist_append_right _ _ | apply List.Sublist.cons))
end Go.Proofs.Ytpmeehkabaobkaa
