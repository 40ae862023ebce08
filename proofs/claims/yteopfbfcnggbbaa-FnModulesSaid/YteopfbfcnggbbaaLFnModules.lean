/- FnModules holds: for every input true; the input reads as it did. -/
import Derived.Test.YteopfbfcnggbbaaLk
import Derived.Test.YteopfbfcnggbbaaDq
import Derived.Test.YteopfbfcnggbbaaDh
import Derived.Test.YteopfbfcnggbbaaQo
import Derived.Test.YteopfbfcnggbbaaLm
import Derived.Test.YteopfbfcnggbbaaPwPfn
import Derived.Test.YteopfbfcnggbbaaPwByt
namespace Go.Proofs.Yteopfbfcnggbbaa
open Go Go.RowKit Go.Pw Go.ChangeShapes Go.WideShapes Go.ChangeAt
theorem en_l_FnModules : Entry Try.prog 3 := ⟨_, Try.func3, by kernel_rfl, rfl⟩
theorem sameInts_same (sa sb : Value) (a : List Int) (w : World) (ha : Arr w sa (ints a)) (hb : Arr w sb (ints a)) : Pure Try.prog 8 #[sa, sb] w (.bool true) := by
  have h := sameInts_c sa sb a a w ha hb
  rwa [decide_eq_true rfl] at h
theorem opv_neq_self {P : Program} {C : Cls} {ρ : Operand → Value} {x y : Operand} {t t' ty : TypeId} {d : Option Nat} {pos : String} {af : Array Edge} {g : Option (Nat × Bool)} {a : Bool} (ht : P.underlying t = some .bool) (hx : ρ x = .bool a) (hy : ρ y = .bool a) :
    Opv P C ρ ⟨d, .binOp .neq t x y t', ty, pos, af, g⟩ (.bool false) := by
  have h := opv_neq_bool (P := P) (C := C) (d := d) (t' := t') (ty := ty) (pos := pos) (af := af) (g := g) ht hx hy
  rwa [show (a != a) = false by simp] at h
set_option maxRecDepth 100000 in
set_option maxHeartbeats 6400000 in
theorem fnModules_c (cv : Value) (l : List Int) (w : World) (hr : Arr w cv (byts l)) (hb : ∀ x ∈ l, 0 ≤ x ∧ x ≤ 255) :
    Pure Try.prog 3 #[cv] w (.bool true) := by
  refine pure_enter (args := [_]) en_l_FnModules Try.func3 rfl Try.ntmps3 rfl ?_
  by_cases hlen : l.length ≤ 1048576
  case neg =>
    have kb := fun w' h => big_c cv l w' h
    rw [decide_eq_true (show (1048576 : Int) < (l.length : Int) by omega)] at kb
    repeat' (first | apply pwp_seq | apply pwp_region | (apply px_run; (first | (apply opv_move; first | rfl) | (apply opv_assign; first | exact hid_bool rfl) | (apply opv_call; rfl; rfl; exact Cl.stable _ _ _; exact fun w hw => kb _ (hw.arr hr))); rfl; rfl) | apply px_nil | apply qseq_normal | apply qseq_ret | apply pwp_ret | (apply pwp_cond_t; rfl))
    refine qbody_ret1 (v := .bool _) rfl rfl ⟨rfl, fun _ h => h.below⟩
  have hcp : CodeP w cv l := ⟨hr, hb, hlen⟩
  have hap := nox (cv := cv) (l := l)
  have kb := fun w' h => big_c cv l w' h
  rw [decide_eq_false (show ¬ (1048576 : Int) < (l.length : Int) by omega)] at kb
  repeat' (first | apply pwp_seq | apply pwp_region | (apply px_run; (first | (apply opv_neq_self ty_bool; rfl; rfl) | (apply opv_move; first | exact hid_bool rfl | rfl) | (apply opv_assign; first | exact hid_bool rfl | rfl) | (apply opv_gtr <;> rfl) | (apply opv_pick_f <;> rfl) | (apply opv_not <;> rfl) | (apply opv_len_ints el_int; rfl; (first | exact rd_row 3 rfl)) | (apply opv_load_str 0 st_G; rfl; rfl; rfl) | (apply opv_load_str 1 st_G; rfl; rfl; rfl) | (apply opv_load_str 2 st_G; rfl; rfl; rfl) | (apply opv_load_str 3 st_G; rfl; rfl; rfl) | (apply opv_load_str 4 st_G; rfl; rfl; rfl) | (apply opv_call; rfl; rfl; exact Cl.stable _ _ _; exact fun w hw => kb _ (hw.arr hr)) | (apply opv_call; rfl; rfl; exact Cl.stable _ _ _; exact fun w hw => sameInts_same _ _ (modsL n rows) _ (by first | exact hw.rowArr (k := 2) rfl) (by first | exact hw.rowArr (k := 0) rfl)) | (apply opv_call; rfl; rfl; exact Cl.stable _ _ _; exact fun w hw => sameInts_same _ _ (strongL n rows) _ (by first | exact hw.rowArr (k := 2) rfl) (by first | exact hw.rowArr (k := 0) rfl)) | (apply opv_call; rfl; rfl; exact Cl.stable _ _ _; exact fun w hw => i_IsPrime_c _ _ rows _ (by first | exact hw.rowArr (k := 5) rfl)) | (apply opv_call; rfl; rfl; exact Cl.stable _ _ _; exact fun w hw => s_IsPrime_c _ _ rows _ (by first | exact hw.rowArr (k := 5) rfl))); rfl; rfl) | apply px_nil | apply qseq_normal | apply pwp_skip | (apply pwp_cond_f; rfl) | (apply pwp_region_ord [0,1,2,3,4,5,6,7,8,9,10,11,12,13,15,14,16,17,18]; kernel_rfl; decide +kernel; exact Cl.stable _ _ _) | (apply px_guard_not; rfl; rfl; rfl; all_goals (intro hc; try (first | contradiction))) | (apply px_alloc st_G; rfl; rfl; rfl; intro bk) | (apply px_store_str 0 st_G; rfl; rfl; rfl; rfl; rfl; (intro w hw; (first | refine all2 rfl ?_ ?_) <;> (first | rfl | assumption)); rfl) | (apply px_gives; rfl; rfl; rfl; rfl; rfl; exact fun w hw => s_DrawModulesOf_c cv l _ (hcp.at hap hw); rintro _ _ ⟨n, gv, rows, ⟨hn, hrl, hgv⟩, rfl, rfl⟩) | (apply px_gives; rfl; rfl; rfl; rfl; rfl; exact fun w hw => i_ModulesOf_c _ _ rows _ (by first | exact hw.rowArr (k := 1) rfl); rintro lv _ rfl) | (apply px_gives; rfl; rfl; rfl; rfl; rfl; exact fun w hw => s_ModulesOf_c _ _ rows _ (by first | exact hw.rowArr (k := 3) rfl); rintro lw _ rfl) | (apply px_gives; rfl; rfl; rfl; rfl; rfl; exact fun w hw => i_StrongModules_c _ _ rows _ (by first | exact hw.rowArr (k := 2) rfl); rintro sv _ rfl) | (apply px_gives; rfl; rfl; rfl; rfl; rfl; exact fun w hw => s_StrongModules_c _ _ rows _ (by first | exact hw.rowArr (k := 4) rfl); rintro sw _ rfl))
  refine pwp_join [(2,2),(6,10),(54,140)] (fun _ : Unit => []) (fun _ => Cl [] w []) (fun _ => True) ?_ (fun J x _ => ?_)
  · by_cases h0 : 0 < (modsL n rows).length
    case neg =>
      repeat' (first | apply pwp_skip | (apply pwp_cond_dec; rfl; all_goals (intro hc; try (first | (exfalso; omega)))))
      refine qjoin_normal ?_ ⟨(), trivial, trivial, fun _ h => by exact Cl.sub (by assumption) (by repeat (first | exact List.Sublist.slnil | exact List.Sublist.refl _ | apply List.Sublist.cons_cons | exact List.sublist_append_left _ _ | exact List.sublist_append_right _ _ | apply List.Sublist.cons))⟩
      repeat (first | exact same_refl | refine same_upd rfl ?_ | refine same_junk rfl ?_)
    have hg : IsG n rows := by
      refine Decidable.byContradiction fun hg => ?_
      unfold modsL at h0
      rw [if_neg hg] at h0
      exact absurd h0 (by simp)
    obtain ⟨m, rfl, hrl', hm1, hm7⟩ := isG_size hg
    have h7 := pow_le7 hm7
    have hx1 := tmod_in (m := atF l 1) (n := ((modsL m rows).length : Int)) (atF_in hb 1) (by omega)
    have hx2 := tmod_in (m := atF l 2) (n := ((modsL m rows).length : Int)) (atF_in hb 2) (by omega)
    have hx3 := tmod_in (m := atF l 3) (n := (m : Int)) (atF_in hb 3) (by omega)
    have hx4 := tmod_in (m := atF l 4) (n := (m : Int)) (atF_in hb 4) (by omega)
    have hml := modsL_length (m : Int) rows
    have k1 := fun w' h => at_c cv l 1 w' h (by omega)
    have k2 := fun w' h => at_c cv l 2 w' h (by omega)
    have k3 := fun w' h => at_c cv l 3 w' h (by omega)
    have k4 := fun w' h => at_c cv l 4 w' h (by omega)
    have hmeet := mods_meet hg (getD_mem (l := modsL m rows) (k := ((atF l 1).tmod ((modsL m rows).length : Int)).toNat) (by omega)) (getD_mem (l := modsL m rows) (k := ((atF l 2).tmod ((modsL m rows).length : Int)).toNat) (by omega))
    obtain ⟨S, hS, hSlt, hS0⟩ : ∃ S : Nat, ior (ishl 1 ((atF l 3).tmod (m : Int))) (ishl 1 ((atF l 4).tmod (m : Int))) = S ∧ S < 2 ^ m ∧ S ≠ 0 := by
      obtain ⟨X, hX⟩ : ∃ X : Nat, (atF l 3).tmod (m : Int) = X := ⟨((atF l 3).tmod (m : Int)).toNat, by omega⟩
      obtain ⟨Y, hY⟩ : ∃ Y : Nat, (atF l 4).tmod (m : Int) = Y := ⟨((atF l 4).tmod (m : Int)).toNat, by omega⟩
      rw [hX, hY, ishl_one_nat (by omega), ishl_one_nat (by omega)]
      have hX2 := Nat.pow_lt_pow_right (a := 2) (by omega) (show X < m by omega)
      have hY2 := Nat.pow_lt_pow_right (a := 2) (by omega) (show Y < m by omega)
      refine ⟨2 ^ X ||| 2 ^ Y, ior_nat (by omega) (by omega), Nat.or_lt_two_pow hX2 hY2, fun e => ?_⟩
      have := Nat.left_le_or (n := 2 ^ X) (m := 2 ^ Y)
      have := Nat.one_le_two_pow (n := X)
      omega
    have hf := least_facts hg rfl hSlt hS0
    rw [← hS] at hf
    have kH := fun w' h => hasL_c lv (modsL m rows) (leastM m rows (ior (ishl 1 ((atF l 3).tmod (m : Int))) (ishl 1 ((atF l 4).tmod (m : Int))))) w' h
    rw [decide_eq_true hf.1] at kH
    repeat' (first | apply pwp_seq | apply pwp_region | (apply px_run; (first | (apply opv_move; first | exact hid_int rfl | exact hid_bool rfl | rfl) | (apply opv_assign; first | exact hid_int rfl | exact hid_bool rfl) | (apply opv_neq <;> rfl) | (apply opv_and <;> rfl) | (apply opv_or <;> rfl) | (apply opv_pick_t <;> rfl) | (apply opv_pick_f <;> rfl) | (apply opv_not_dec <;> rfl) | (apply opv_not <;> rfl) | (apply opv_shl; rfl; rfl; omega) | (apply opv_rem; rfl; rfl; omega) | (apply opv_field fld_G0; rfl) | (apply opv_load_blk 4; (first | with_reducible exact sc_int); rfl; rfl; rfl) | (apply opv_load_ints sc_int; rfl; (first | exact rd_row 3 rfl); (first | omega)) | (apply opv_index (vs := ints _) el_int; rfl; rfl; (first | exact rd_row 3 rfl); omega; (first | (simp only [ints_length]; omega))) | (apply opv_len_ints el_int; rfl; (first | exact rd_row 3 rfl)) | (apply opv_load_str 4 st_G; rfl; rfl; rfl) | (apply opv_call; rfl; rfl; exact Cl.stable _ _ _; exact fun w hw => k1 _ (hcp.at hap hw)) | (apply opv_call; rfl; rfl; exact Cl.stable _ _ _; exact fun w hw => k2 _ (hcp.at hap hw)) | (apply opv_call; rfl; rfl; exact Cl.stable _ _ _; exact fun w hw => k3 _ (hcp.at hap hw)) | (apply opv_call; rfl; rfl; exact Cl.stable _ _ _; exact fun w hw => k4 _ (hcp.at hap hw)) | (apply opv_call; rfl; rfl; exact Cl.stable _ _ _; exact fun w hw => i_IsModule_c _ _ rows _ _ (by first | exact hw.rowArr (k := 5) rfl)) | (apply opv_call; rfl; rfl; exact Cl.stable _ _ _; exact fun w hw => i_LeastModule_c _ _ rows _ _ (by first | exact hw.rowArr (k := 5) rfl)) | (apply opv_call; rfl; rfl; exact Cl.stable _ _ _; exact fun w hw => kH _ (by first | exact hw.rowArr (k := 3) rfl))); rfl; rfl) | apply px_nil | (apply px_skip; rfl; rfl) | apply qseq_normal | apply qseq_ret | apply pwp_block | apply pwp_skip | apply pwp_ret | (apply pwp_cond_t; rfl) | (apply pwp_cond_f; rfl) | (apply pwp_region_draw; kernel_rfl; kernel_rfl; exact Cl.stable _ _ _) | (apply px_guard_ndec; rfl; rfl; rfl; all_goals (intro hc; try (first | fail))) | (apply pwp_cond_ndec; rfl; all_goals (intro hc; try (first | (exfalso; omega)))) | (apply pwp_cond_dec; rfl; all_goals (intro hc; try (first | (exfalso; omega)))))
    · exact absurd (hmeet (by with_reducible assumption)).1 (by with_reducible assumption)
    · exact absurd (hmeet (by with_reducible assumption)).2 (by with_reducible assumption)
    all_goals
      clear kH hmeet k1 k2 k3 k4
      obtain ⟨hf1, hf2, hf3⟩ := hf
      refine pwp_loop [(2,2), (10,10), (117,140)] (fun k : Nat => [(10, .int .i64 (k : Int))]) (fun k => Cl [] w [.row 3 lv (ints (modsL m rows))]) (fun k => k ≤ (modsL m rows).length) (fun k => (modsL m rows).length - k) 0 ⟨rfl, trivial⟩ (Nat.zero_le _) (fun w' h => by exact Cl.ofSel (by assumption) (by repeat (first | exact sel_nil | refine sel_cons 0 rfl ?_ | refine sel_cons 1 rfl ?_ | refine sel_cons 2 rfl ?_ | refine sel_cons 3 rfl ?_ | refine sel_cons 4 rfl ?_ | refine sel_cons 5 rfl ?_ | refine sel_cons 6 rfl ?_ | refine sel_cons 7 rfl ?_ | refine sel_cons 8 rfl ?_ | refine sel_cons 9 rfl ?_ | refine sel_cons 10 rfl ?_ | refine sel_cons 11 rfl ?_ | refine sel_cons 12 rfl ?_ | refine sel_cons 13 rfl ?_))) (fun J k hk => ?_)
      by_cases hlt : k < (modsL m rows).length
      · repeat' (first | apply pwp_seq | apply pwp_region | (apply px_run; (first | (apply opv_move; first | exact hid_int rfl | exact hid_bool rfl | rfl) | (apply opv_assign; first | exact hid_int rfl | exact hid_bool rfl) | (apply opv_lss <;> rfl) | (apply opv_eql <;> rfl) | (apply opv_neq <;> rfl) | (apply opv_and <;> rfl) | (apply opv_pick_t <;> rfl) | (apply opv_pick_f <;> rfl) | (apply opv_add_in; rfl; rfl; omega) | (apply opv_load_ints sc_int; rfl; (first | exact rd_row 0 rfl); (first | omega)) | (apply opv_index_nat (vs := ints _) el_int; rfl; rfl; (first | exact rd_row 0 rfl); (first | (simp only [ints_length]; omega))) | (apply opv_len_ints el_int; rfl; (first | exact rd_row 0 rfl))); rfl; rfl) | apply px_nil | (apply px_skip; rfl; rfl) | apply qseq_normal | apply qseq_ret | apply pwp_block | apply qblock_normal | apply qblock_ret | apply pwp_skip | apply pwp_ret | apply qround_ret | (apply pwp_cond_f; rfl) | (apply px_guard_dec; rfl; rfl; rfl; all_goals (intro hc; try (first | fail))) | (apply pwp_cond_ndec; rfl; all_goals (intro hc; try (first | fail))) | (apply pwp_cond_dec; rfl; all_goals (intro hc; try (first | (exfalso; omega)))))
        all_goals try exact absurd (hf3 _ (getD_mem hlt) (by with_reducible assumption)) (by with_reducible assumption)
        all_goals
          refine qround_normal ?_ ⟨k + 1, ⟨rfl, trivial⟩, by (try dsimp only); omega, by (try dsimp only); omega, fun w' h => by exact Cl.sub (by assumption) (by repeat (first | exact List.Sublist.slnil | exact List.Sublist.refl _ | apply List.Sublist.cons_cons | exact List.sublist_append_left _ _ | exact List.sublist_append_right _ _ | apply List.Sublist.cons))⟩
          repeat (first | exact same_refl | refine same_upd rfl ?_ | refine same_junk rfl ?_)
      · repeat' (first | apply pwp_seq | apply pwp_region | (apply px_run; (first | (apply opv_move; first | exact hid_int rfl | rfl) | (apply opv_lss <;> rfl) | (apply opv_len_ints el_int; rfl; (first | exact rd_row 0 rfl))); rfl; rfl) | apply px_nil | apply qseq_normal | apply qseq_exit | (apply qblock_exit_same; rfl) | apply pwp_exit | apply qround_exit | (apply pwp_cond_dec; rfl; all_goals (intro hc; try (first | (exfalso; omega)))))
        refine qjoin_normal ?_ ⟨(), trivial, trivial, fun _ h => by exact Cl.sub (by assumption) (by repeat (first | exact List.Sublist.slnil | exact List.Sublist.refl _ | apply List.Sublist.cons_cons | exact List.sublist_append_left _ _ | exact List.sublist_append_right _ _ | apply List.Sublist.cons))⟩
        repeat (first | exact same_refl | refine same_upd rfl ?_ | refine same_junk rfl ?_)
  repeat' (first | apply pwp_seq | apply pwp_region | (apply px_run; (first | (apply opv_move; first | exact hid_int rfl | exact hid_bool rfl | rfl) | (apply opv_assign; first | exact hid_int rfl | exact hid_bool rfl | rfl) | (apply opv_eql <;> rfl) | (apply opv_pick_t <;> rfl) | (apply opv_load_str 0 st_G; rfl; rfl; rfl) | (apply opv_load_str 2 st_G; rfl; rfl; rfl) | (apply opv_load_str 4 st_G; rfl; rfl; rfl) | (apply opv_load_str 9 st_G; rfl; rfl; rfl) | (apply opv_load_str 11 st_G; rfl; rfl; rfl) | (apply opv_load_str 13 st_G; rfl; rfl; rfl) | (apply opv_extract; rfl; rfl) | (apply opv_call; rfl; rfl; exact Cl.stable _ _ _; exact fun w hw => i_LeastModule_c _ _ rows1 _ _ (by first | exact hw.rowArr (k := 14) rfl)) | (apply opv_call; rfl; rfl; exact Cl.stable _ _ _; exact fun w hw => s_LeastModule_c _ _ rows1 _ _ (by first | exact hw.rowArr (k := 14) rfl)) | (apply opv_call; rfl; rfl; exact Cl.stable _ _ _; exact fun w hw => i_TwinsOf_c _ _ rows2 _ _ (by first | exact hw.rowArr (k := 12) rfl)) | (apply opv_call; rfl; rfl; exact Cl.stable _ _ _; exact fun w hw => s_TwinsOf_c _ _ rows2 _ _ (by first | exact hw.rowArr (k := 12) rfl)) | (apply opv_call; rfl; rfl; exact Cl.stable _ _ _; exact fun w hw => i_IsModule_c _ _ rows3 _ _ (by first | exact hw.rowArr (k := 10) rfl)) | (apply opv_call; rfl; rfl; exact Cl.stable _ _ _; exact fun w hw => s_IsModule_c _ _ rows3 _ _ (by first | exact hw.rowArr (k := 10) rfl)) | (apply opv_call; rfl; rfl; exact Cl.stable _ _ _; exact fun w hw => s_EqualGraphs_c _ _ _ (qL _ rows4 parts4) _ (by first | exact hw.rowArr (k := 5) rfl) (by first | exact hw.rowArr (k := 3) rfl)) | (apply opv_call; rfl; rfl; exact Cl.stable _ _ _; exact fun w hw => i_IsPrime_c _ _ rows5 _ (by first | exact hw.rowArr (k := 1) rfl)) | (apply opv_call; rfl; rfl; exact Cl.stable _ _ _; exact fun w hw => s_IsPrime_c _ _ rows5 _ (by first | exact hw.rowArr (k := 1) rfl)) | (apply opv_eql_bool ty_bool <;> rfl)); rfl; rfl) | apply px_nil | apply qseq_normal | apply pwp_ret | (apply pwp_region_draw; kernel_rfl; kernel_rfl; exact Cl.stable _ _ _) | (apply px_guard_dec; rfl; rfl; rfl; all_goals (intro hc; try (first | contradiction))) | (apply px_alloc st_G; rfl; rfl; rfl; intro bk) | (apply px_store_str 0 st_G; rfl; rfl; rfl; rfl; rfl; (intro w hw; (first | refine all2 rfl ?_ ?_) <;> (first | rfl | assumption | exact stor_row 1 hw rfl)); rfl) | (apply px_gives; rfl; rfl; rfl; rfl; rfl; exact fun w hw => s_DrawLeastModule_c cv l _ (hcp.at hap hw); rintro _ _ ⟨n1, gv1, rows1, x1, ⟨hn1, hrl1, hgv1⟩, rfl, rfl⟩) | (apply px_gives; rfl; rfl; rfl; rfl; rfl; exact fun w hw => s_DrawTwinsOf_c cv l _ (hcp.at hap hw); rintro _ _ ⟨n2, gv2, rows2, x2, ⟨hn2, hrl2, hgv2⟩, rfl, rfl⟩) | (apply px_gives; rfl; rfl; rfl; rfl; rfl; exact fun w hw => s_DrawIsModule_c cv l _ (hcp.at hap hw); rintro _ _ ⟨n3, gv3, rows3, x3, ⟨hn3, hrl3, hgv3⟩, rfl, rfl⟩) | (apply px_gives; rfl; rfl; rfl; rfl; rfl; exact fun w hw => s_DrawQuotientOf_c cv l _ (hcp.at hap hw); rintro _ _ ⟨n4, gv4, rows4, pv4, parts4, ⟨hn4, hrl4, hgv4⟩, hp4, rfl, rfl⟩) | (apply px_gives; rfl; rfl; rfl; rfl; rfl; exact fun w hw => s_DrawIsPrime_c cv l _ (hcp.at hap hw); rintro _ _ ⟨n5, gv5, rows5, ⟨hn5, hrl5, hgv5⟩, rfl, rfl⟩) | (apply px_gives; rfl; rfl; rfl; rfl; rfl; exact fun w hw => i_QuotientOf_c _ _ _ rows4 parts4 _ (by first | exact hw.rowArr (k := 1) rfl) (by first | exact hw.rowArr (k := 2) rfl); rintro _ _ ⟨qi, rfl, rfl⟩) | (apply px_gives; rfl; rfl; rfl; rfl; rfl; exact fun w hw => s_QuotientOf_c _ _ _ rows4 parts4 _ (by first | exact hw.rowArr (k := 3) rfl) (by first | exact hw.rowArr (k := 4) rfl); rintro _ _ ⟨qs, rfl, rfl⟩))
  refine qbody_ret1 (v := .bool _) rfl rfl ⟨by simp, fun _ h => h.below⟩
set_option maxRecDepth 100000 in
theorem FnModules_lifted (os : Os) (started : os.Started) (H : Type) (enc : TypeId × Value → H) :
    ReturnsInHanded {} Try.checked os 3 .any (Rows.fnModulesSpec.pre6 enc Try.prog Try.f3 Rows.fnModulesRow.domain false) (Rows.fnModulesSpec.post enc Try.prog Try.f3 false true false false) := by
  refine returnsInHanded_of_change (C := Try.checked) own started (by kernel_rfl) Try.func3
    (ChangeSpec.witness6 (enc := enc) (C := Try.checked) false ⟨#[], #[.slice none 0 0], []⟩ 8 (by kernel_rfl) (by kernel_rfl) (by kernel_rfl) (by kernel_rfl)) ?_
  intro W base args ds gs before hval0 hW hcnd _
  have hval : ∀ (j : Nat) t v, Try.f3.params[j]? = some t → args[j]? = some v → Value.okWide Try.prog W .any base t v := hval0
  have hW' := hW
  obtain ⟨p, q, hA0, hV, rfl, hfz, hnd⟩ := hW
  have hA : DataW.TrodAll enc Try.prog W 0 (fun _ => true) true Try.f3.params.toList args.toList ds p := hA0
  rw [Try.params3] at hA hval
  obtain ⟨v0, d0, rfl, rfl, h0⟩ := trodAll_one hA
  obtain ⟨rfl, rfl⟩ := trodVars_none hV
  obtain ⟨r0, hr0, hb0⟩ := read_bytes Try.underlying22 Try.underlying5 (by kernel_rfl) (hval 0 _ _ rfl rfl) h0
  exact law_calls (tb := 4) laidOut rfl hW' (by rw [Try.params3]; decide +kernel) (by kernel_rfl) (by kernel_rfl) rfl (fnModules_c v0 r0 W hr0 hb0)
theorem FnModules_holds : Rows.FnModulesSaid :=
  OpenClaim.holds_of_wide 3 Try.f3 rfl rfl rfl rfl rfl rfl rfl ⟨rfl, rfl, rfl, rfl, rfl⟩ rfl rfl rfl rfl rfl (by kernel_rfl) Try.func3 (by kernel_rfl)
    (of_decide_eq_true (by kernel_rfl)) (by unfold Func.isWrapper; first | (rw [if_pos (by decide +kernel)]; kernel_rfl) | (rw [if_neg (by decide +kernel)]; exact ⟨rfl, rfl⟩))
    (fun os started H enc _ => FnModules_lifted os started H enc)
end Go.Proofs.Yteopfbfcnggbbaa
