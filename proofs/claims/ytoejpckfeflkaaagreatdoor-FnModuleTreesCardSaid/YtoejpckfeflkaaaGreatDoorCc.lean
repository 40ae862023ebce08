/- Parts: what hangs together within a set. -/
import Derived.Test.YtoejpckfeflkaaaGreatDoorCq
import Derived.Test.YtoejpckfeflkaaaGreatDoorPwPcc
namespace Go.Proofs.YtoejpckfeflkaaaGreatDoor
open Go Go.RowKit Go.Pw

theorem en_i_partOf : Entry Tryz.prog 77 := ⟨_, Tryz.func77, by kernel_rfl, rfl⟩
set_option maxHeartbeats 800000 in
theorem i_partOf_c (size : Int) (gv : Value) (rows : List Int) (n set S : Nat) (w : World) (hr : Arr w gv (ints rows)) (hg : IsG size rows) (hn : size = n) (hset : set < 2 ^ n) (hS : SubN S set) (h0 : S ≠ 0) :
    Pure Tryz.prog 77 #[.agg #[.int .i64 size, gv], .int .i64 set, .int .i64 S] w (.int .i64 (compN (rowN rows) n set S : Nat)) := by
  refine pure_enter (args := [_, _, _]) en_i_partOf Tryz.func77 rfl Tryz.ntmps77 rfl ?_
  have hng := ng_of hg hn
  have h7 := pow_le7 hng.le
  repeat' (first | apply pwp_seq | apply pwp_region | (apply px_run; (first | (apply opv_assign; first | exact hid_int rfl)); rfl; rfl) | apply px_nil | apply qseq_normal | apply pwp_block | (apply px_box; rfl; rfl; rfl; rfl; intro bk))
  refine pwp_loop (τ := Nat) [(2,2), (6,19)] (fun t => [(2, .int .i64 ((iterN (growN (rowN rows) n set) t S : Nat) : Int))]) (fun _ => Cl [] w [.blk bk [.int .i64 size, gv]]) (fun _ => True) (fun t => 128 - iterN (growN (rowN rows) n set) t S) 0
    ⟨rfl, trivial⟩ trivial (fun _ h => h) (fun J t _ => ?_)
  have hin := comp_in (r := rowN rows) (n := n) hS t
  have hlt := lt_of_sub hin hset
  have hgr := grow_nat hg hn hlt hset
  have hset' : (0 : Int) ≤ ((iterN (growN (rowN rows) n set) t S : Nat) : Int) ∧ ((iterN (growN (rowN rows) n set) t S : Nat) : Int) < ishl 1 size := by rw [hn, ishl_one_nat (by have := hng.le; omega)]; omega
  have hcf := comp_of_fixed (r := rowN rows) (t := t) hng.le hset h0 hS
  have hup := growN_up (r := rowN rows) (n := n) hin
  have hlt' := lt_of_sub (growN_in (r := rowN rows) (n := n) (set := set) (S := iterN (growN (rowN rows) n set) t S)) hset
  have hnx : iterN (growN (rowN rows) n set) (t + 1) S = growN (rowN rows) n set (iterN (growN (rowN rows) n set) t S) := rfl
  have hle := sub_le hup
  repeat' (first | apply pwp_seq | apply pwp_region | (apply px_run; (first | (apply opv_move; first | exact hid_int rfl) | (apply opv_assign; first | exact hid_int rfl) | (apply opv_eql <;> rfl) | (apply opv_and <;> rfl) | (apply opv_or <;> rfl) | (apply opv_load_str 0 st_G; rfl; rfl; rfl) | (apply opv_call; rfl; rfl; exact Cl.stable _ _ _; exact fun w hw => i_neighbors_c _ _ rows _ _ (by first | exact hw.arr (by assumption)) hg hset')); rfl; rfl) | apply px_nil | apply qseq_normal | apply qseq_ret | apply pwp_block | apply qblock_normal | apply qblock_ret | apply pwp_skip | apply pwp_ret | apply qround_ret | (apply pwp_cond_dec; rfl; all_goals (intro hc; try (first | fail))))
  · have hc' : growN (rowN rows) n set (iterN (growN (rowN rows) n set) t S) = iterN (growN (rowN rows) n set) t S := by rw [hgr] at hc; exact Int.ofNat.inj hc
    refine qbody_ret1 (v := .int _ _) rfl rfl ⟨by rw [hcf hc'], fun _ h => h.below⟩
  · have hc' : growN (rowN rows) n set (iterN (growN (rowN rows) n set) t S) ≠ iterN (growN (rowN rows) n set) t S := fun e => hc (by rw [hgr, e])
    refine qround_normal ?_ ⟨t + 1, ⟨?_, trivial⟩, trivial, ?_, fun _ h => h⟩
    · repeat (first | exact same_refl | refine same_upd rfl ?_ | refine same_junk rfl ?_)
    · show Value.int .i64 _ = .int .i64 _
      rw [hgr]; rfl
    · rw [hnx]; omega
theorem en_i_parts : Entry Tryz.prog 49 := ⟨_, Tryz.func49, by kernel_rfl, rfl⟩
set_option maxHeartbeats 1600000 in
theorem i_parts_c (size : Int) (gv : Value) (rows : List Int) (n set : Nat) (w : World) (hr : Arr w gv (ints rows)) (hg : IsG size rows) (hn : size = n) (hset : set < 2 ^ n) :
    Gives Tryz.prog 49 #[.agg #[.int .i64 size, gv], .int .i64 set] w (fun v objs => objs = [.row 3 v (ints (partsL rows size set))]) := by
  refine gives_enter (args := [_, _]) en_i_parts Tryz.func49 rfl Tryz.ntmps49 rfl ?_
  have hng := ng_of hg hn
  have h7 := pow_le7 hng.le
  repeat' (first | apply pwp_seq | apply pwp_region | (apply px_run; (first | (apply opv_assign; first | rfl)); rfl; rfl) | apply px_nil | apply qseq_normal | apply pwp_block | (apply px_box; rfl; rfl; rfl; rfl; intro bk) | (apply px_lit0 ez_int; rfl; rfl; rfl; intro sv))
  refine pwp_loop (τ := Nat × Nat × List Int × Value) [(1,1), (5,6), (8,23)] (fun x => [(1, .int .i64 (x.2.1 : Int)), (5, x.2.2.2)]) (fun x => Cl [] w [.row 3 x.2.2.2 (ints x.2.2.1), .blk bk [.int .i64 size, gv]])
    (fun x => SplitN (rowN rows) x.2.1 set ∧ x.2.1 < x.1 ∧ x.2.2.1.length + x.1 ≤ 129 ∧ partsL rows size set = x.2.2.1 ++ (partsN (rowN rows) n set x.1 x.2.1).map Int.ofNat) (fun x => x.1) (128, set, [], _)
    ⟨rfl, rfl, trivial⟩ ⟨⟨SubN.refl _, fun _ _ _ h _ => h⟩, by dsimp only; omega, by dsimp only; simp, by unfold partsL; rw [hn]; rfl⟩ (fun _ h => h) (fun J x hx => ?_)
  obtain ⟨f, left, o, so⟩ := x
  obtain ⟨hsp, hlf, hof, hR⟩ := hx
  dsimp only at hsp hlf hof hR ⊢
  obtain ⟨f, rfl⟩ : ∃ f' : Nat, f = f' + 1 := ⟨f - 1, by omega⟩
  have hln := lt_of_sub hsp.1 hset
  by_cases h0 : left = 0
  · subst h0
    rw [partsN, if_pos rfl, List.map_nil, List.append_nil] at hR
    repeat' (first | apply pwp_seq | apply pwp_region | (apply px_run; (first | (apply opv_move; first | exact hid_int rfl | rfl) | (apply opv_assign; first | rfl) | (apply opv_neq <;> rfl)); rfl; rfl) | apply px_nil | apply qseq_normal | apply qseq_exit | (apply qblock_exit_same; rfl) | apply pwp_exit | apply pwp_ret | apply qround_exit | (apply pwp_cond_f; rfl))
    refine qbody_ret1 (v := so) rfl rfl ⟨_, rfl, fun w' h => ?_⟩
    rw [hR]
    exact Cl.sub (by assumption) (by repeat (first | exact List.Sublist.slnil | exact List.Sublist.refl _ | apply List.Sublist.cons_cons | exact List.sublist_append_left _ _ | exact List.sublist_append_right _ _ | apply List.Sublist.cons))
  · obtain ⟨q1, q2, q3⟩ := low_spec ⟨left, by omega⟩ h0
    dsimp only at q1 q2 q3
    have hps := pow_sub q1
    have hp0 : 2 ^ lowN left ≠ 0 := Nat.pos_iff_ne_zero.1 (Nat.pow_pos (by omega))
    have hcs := comp_split (n := n) hsp hps
    have hnext := split_next (S := 2 ^ lowN left) hng.le hng hset hsp hp0 hps
    have hcin : SubN (compN (rowN rows) n left (2 ^ lowN left)) left := comp_in hps n
    have hsub := sub_nat (A := left) (B := compN (rowN rows) n left (2 ^ lowN left)) (by omega) hcin
    have hpos := comp_pos (r := rowN rows) (n := n) hps hp0
    rw [partsN, if_neg h0, ← hcs] at hR
    have hi := i_partOf_c size gv rows n left (2 ^ lowN left)
    rw [← q3] at hi
    repeat' (first
        | apply pwp_seq
        | apply pwp_region
        | (apply px_run; (first
            | (apply opv_move; first | exact hid_int rfl | exact hid_bool rfl | exact hid_ptr rfl | rfl)
            | (apply opv_assign; first | exact hid_int rfl | exact hid_bool rfl | exact hid_ptr rfl | rfl)
            | (apply opv_lss <;> rfl)
            | (apply opv_leq <;> rfl)
            | (apply opv_gtr <;> rfl)
            | (apply opv_geq <;> rfl)
            | (apply opv_eql <;> rfl)
            | (apply opv_neq <;> rfl)
            | (apply opv_and <;> rfl)
            | (apply opv_or <;> rfl)
            | (apply opv_xor <;> rfl)
            | (apply opv_andNot <;> rfl)
            | (apply opv_pick_t <;> rfl)
            | (apply opv_pick_f <;> rfl)
            | (apply opv_not_dec <;> rfl)
            | (apply opv_not <;> rfl)
            | (apply opv_neg <;> rfl)
            | (apply opv_add_in; rfl; rfl; omega)
            | (apply opv_sub_in; rfl; rfl; omega)
            | (apply opv_mul_in; rfl; rfl; omega)
            | (apply opv_shl; rfl; rfl; omega)
            | (apply opv_shr; rfl; rfl; omega)
            | (apply opv_quo; rfl; rfl; omega)
            | (apply opv_rem; rfl; rfl; omega)
            | (apply opv_field fld_G0; rfl)
            | (apply opv_field fld_G1; rfl)
            | (apply opv_load_blk 0; (first | with_reducible exact sc_int | with_reducible exact sc_ints); rfl; rfl; rfl)
            | (apply opv_load_blk 1; (first | with_reducible exact sc_int | with_reducible exact sc_ints); rfl; rfl; rfl)
            | (apply opv_load_blk 2; (first | with_reducible exact sc_int | with_reducible exact sc_ints); rfl; rfl; rfl)
            | (apply opv_load_blk 3; (first | with_reducible exact sc_int | with_reducible exact sc_ints); rfl; rfl; rfl)
            | (apply opv_load_blk 4; (first | with_reducible exact sc_int | with_reducible exact sc_ints); rfl; rfl; rfl)
            | (apply opv_load_ints sc_int; rfl; (first | exact rd_old (by assumption) | exact rd_row 0 rfl | exact rd_row 1 rfl | exact rd_row 2 rfl | exact rd_row 3 rfl | exact rd_row 4 rfl); (first | omega | (simp only [List.length_set]; omega)))
            | (apply opv_index_nat (vs := ints _) el_int; rfl; rfl; (first | exact rd_old (by assumption) | exact rd_row 0 rfl | exact rd_row 1 rfl | exact rd_row 2 rfl | exact rd_row 3 rfl | exact rd_row 4 rfl); (first | (simp only [ints_length]; omega) | (simp [ints]; omega)))
            | (apply opv_index (vs := ints _) el_int; rfl; rfl; (first | exact rd_old (by assumption) | exact rd_row 0 rfl | exact rd_row 1 rfl | exact rd_row 2 rfl | exact rd_row 3 rfl | exact rd_row 4 rfl); omega; (first | (simp only [ints_length]; omega) | (simp [ints]; omega)))
            | (apply opv_len_ints el_int; rfl; (first | exact rd_old (by assumption) | exact rd_row 0 rfl | exact rd_row 1 rfl | exact rd_row 2 rfl | exact rd_row 3 rfl | exact rd_row 4 rfl))
            | (apply opv_load_str 0 st_G; rfl; rfl; rfl)
            | (apply opv_load_str 1 st_G; rfl; rfl; rfl)
            | (apply opv_load_str 2 st_G; rfl; rfl; rfl)
            | (apply opv_load_str 3 st_G; rfl; rfl; rfl)
            | (apply opv_load_str 4 st_G; rfl; rfl; rfl)
            | (apply opv_call; rfl; rfl; exact Cl.stable _ _ _; exact fun w hw => hi _ (by first | exact hw.arr (by assumption) | exact hw.rowArr (k := 0) rfl | exact hw.rowArr (k := 1) rfl | exact hw.rowArr (k := 2) rfl | exact hw.rowArr (k := 3) rfl | exact hw.rowArr (k := 4) rfl | exact hw.rowArr (k := 5) rfl | exact hw.rowArr (k := 6) rfl | exact hw.rowArr (k := 7) rfl | exact hw.rowArr (k := 8) rfl | exact hw.rowArr (k := 9) rfl | exact hw.rowArr (k := 10) rfl | exact hw.rowArr (k := 11) rfl | exact hw.rowArr (k := 12) rfl | exact hw.rowArr (k := 13) rfl | exact hw.rowArr (k := 14) rfl | exact hw.rowArr (k := 15) rfl | exact hw.rowArr (k := 16) rfl | exact hw.rowArr (k := 17) rfl | exact hw.rowArr (k := 18) rfl | exact hw.rowArr (k := 19) rfl) hg hn hln hps hp0)
            | (apply opv_add <;> rfl)
            | (apply opv_sub <;> rfl)
            | (apply opv_mul <;> rfl)
            | (apply opv_eql_bool ty_bool <;> rfl)
            | (apply opv_neq_bool ty_bool <;> rfl)); rfl; rfl)
        | apply px_nil
        | (apply px_skip; rfl; rfl)
        | apply qseq_normal
        | apply qseq_ret
        | apply qseq_exit
        | apply pwp_block
        | apply qblock_normal
        | apply qblock_ret
        | (apply qblock_exit_same; rfl)
        | (apply qblock_exit_other; rfl)
        | apply pwp_skip
        | apply pwp_exit
        | apply pwp_ret
        | apply qround_ret
        | apply qround_exit
        | apply qonce_ret
        | apply qonce_exit
        | (apply pwp_cond_t; rfl)
        | (apply pwp_cond_f; rfl)
        | (apply pwp_region_mix; kernel_rfl; decide +kernel; exact Cl.stable _ _ _)
        | (apply pwp_region_draw; kernel_rfl; kernel_rfl; exact Cl.stable _ _ _)
        | (apply px_guard_ndec; rfl; rfl; rfl; all_goals (intro hc; try (first | contradiction | (exfalso; omega) | (exfalso; simp at hc; done))))
        | (apply px_guard_dec; rfl; rfl; rfl; all_goals (intro hc; try (first | contradiction | (exfalso; omega) | (exfalso; simp at hc; done))))
        | (apply px_guard_not; rfl; rfl; rfl; all_goals (intro hc; try (first | contradiction | (exfalso; omega) | (exfalso; simp at hc; done))))
        | (apply px_guard; rfl; rfl; rfl; all_goals (intro hc; (first | contradiction | (fail_if_success (cases hc); try (first | (exfalso; omega) | (exfalso; simp at hc; done))))))
        | (apply pwp_cond_ndec; rfl; all_goals (intro hc; try (first | contradiction | (exfalso; omega) | (exfalso; simp at hc; done))))
        | (apply pwp_cond_dec; rfl; all_goals (intro hc; try (first | contradiction | (exfalso; omega) | (exfalso; simp at hc; done))))
        | (apply pwp_cond_not; rfl; all_goals (intro hc; try (first | contradiction | (exfalso; omega) | (exfalso; simp at hc; done))))
        | (apply pwp_cond; rfl; all_goals (intro hc; try (first | contradiction | (exfalso; omega) | (exfalso; simp at hc; done))))
        | (apply px_box; rfl; rfl; rfl; rfl; intro bk)
        | (apply px_lit1 ez_int; rfl; (intro w hw; (first | rfl | assumption | exact stor_row 0 hw rfl | exact stor_row 1 hw rfl | exact stor_row 2 hw rfl | exact stor_row 3 hw rfl | exact stor_row 4 hw rfl | exact stor_row 5 hw rfl | exact stor_row 6 hw rfl | exact stor_row 7 hw rfl | exact stor_row 8 hw rfl | exact stor_arr (by assumption) | exact stor_mem hw (by repeat (first | assumption | apply List.mem_cons_of_mem | apply List.mem_append_right)))); rfl; rfl; rfl; intro sv)
        | (apply px_append 0 ez_int; rfl; rfl; rfl; (first | exact rd_old (by assumption) | exact rd_row 0 rfl | exact rd_row 1 rfl | exact rd_row 2 rfl | exact rd_row 3 rfl); (first | exact fun _ _ => stor_ints | (intro _ _ u hu; simp at hu; subst hu; rfl)); (simp [ints]; omega); decide; rfl; rfl; intro sv)
        | (apply px_append 1 ez_int; rfl; rfl; rfl; (first | exact rd_old (by assumption) | exact rd_row 0 rfl | exact rd_row 1 rfl | exact rd_row 2 rfl | exact rd_row 3 rfl); (first | exact fun _ _ => stor_ints | (intro _ _ u hu; simp at hu; subst hu; rfl)); (simp [ints]; omega); decide; rfl; rfl; intro sv)
        | (apply px_append 2 ez_int; rfl; rfl; rfl; (first | exact rd_old (by assumption) | exact rd_row 0 rfl | exact rd_row 1 rfl | exact rd_row 2 rfl | exact rd_row 3 rfl); (first | exact fun _ _ => stor_ints | (intro _ _ u hu; simp at hu; subst hu; rfl)); (simp [ints]; omega); decide; rfl; rfl; intro sv)
        | (apply px_append 3 ez_int; rfl; rfl; rfl; (first | exact rd_old (by assumption) | exact rd_row 0 rfl | exact rd_row 1 rfl | exact rd_row 2 rfl | exact rd_row 3 rfl); (first | exact fun _ _ => stor_ints | (intro _ _ u hu; simp at hu; subst hu; rfl)); (simp [ints]; omega); decide; rfl; rfl; intro sv)
        | (apply px_append 4 ez_int; rfl; rfl; rfl; (first | exact rd_old (by assumption) | exact rd_row 0 rfl | exact rd_row 1 rfl | exact rd_row 2 rfl | exact rd_row 3 rfl); (first | exact fun _ _ => stor_ints | (intro _ _ u hu; simp at hu; subst hu; rfl)); (simp [ints]; omega); decide; rfl; rfl; intro sv)
        | (apply px_append 5 ez_int; rfl; rfl; rfl; (first | exact rd_old (by assumption) | exact rd_row 0 rfl | exact rd_row 1 rfl | exact rd_row 2 rfl | exact rd_row 3 rfl); (first | exact fun _ _ => stor_ints | (intro _ _ u hu; simp at hu; subst hu; rfl)); (simp [ints]; omega); decide; rfl; rfl; intro sv)
        | (apply px_append 6 ez_int; rfl; rfl; rfl; (first | exact rd_old (by assumption) | exact rd_row 0 rfl | exact rd_row 1 rfl | exact rd_row 2 rfl | exact rd_row 3 rfl); (first | exact fun _ _ => stor_ints | (intro _ _ u hu; simp at hu; subst hu; rfl)); (simp [ints]; omega); decide; rfl; rfl; intro sv)
        | (apply px_append 7 ez_int; rfl; rfl; rfl; (first | exact rd_old (by assumption) | exact rd_row 0 rfl | exact rd_row 1 rfl | exact rd_row 2 rfl | exact rd_row 3 rfl); (first | exact fun _ _ => stor_ints | (intro _ _ u hu; simp at hu; subst hu; rfl)); (simp [ints]; omega); decide; rfl; rfl; intro sv)
        | (apply px_append 8 ez_int; rfl; rfl; rfl; (first | exact rd_old (by assumption) | exact rd_row 0 rfl | exact rd_row 1 rfl | exact rd_row 2 rfl | exact rd_row 3 rfl); (first | exact fun _ _ => stor_ints | (intro _ _ u hu; simp at hu; subst hu; rfl)); (simp [ints]; omega); decide; rfl; rfl; intro sv))
    refine qround_normal ?_ ⟨(f, left - compN (rowN rows) n left (2 ^ lowN left), o ++ [((compN (rowN rows) n left (2 ^ lowN left) : Nat) : Int)], _), ⟨?_, rfl, trivial⟩, ⟨hnext, by dsimp only; omega, by dsimp only; simp; omega, by rw [hR]; simp⟩, by dsimp only; omega, fun w' h => ?_⟩
    · repeat (first | exact same_refl | refine same_upd rfl ?_ | refine same_junk rfl ?_)
    · show Value.int .i64 _ = .int .i64 _
      rw [← hsub]
    · dsimp only
      rw [← ints_snoc]
      exact Cl.sub (by assumption) (by repeat (first | exact List.Sublist.slnil | exact List.Sublist.refl _ | apply List.Sublist.cons_cons | exact List.sublist_append_left _ _ | exact List.sublist_append_right _ _ | apply List.Sublist.cons))
theorem en_s_AroundSet : Entry Tryz.prog 92 := ⟨_, Tryz.func92, by kernel_rfl, rfl⟩
set_option maxHeartbeats 800000 in
theorem s_AroundSet_c (size : Int) (gv : Value) (rows : List Int) (n S : Nat) (w : World) (hr : Arr w gv (ints rows)) (hg : IsG size rows) (hn : size = n) (hS : S < 2 ^ n) :
    Pure Tryz.prog 92 #[.agg #[.int .i64 size, gv], .int .i64 S] w (.int .i64 (arU (rowN rows) S n : Nat)) := by
  refine pure_enter (args := [_, _]) en_s_AroundSet Tryz.func92 rfl Tryz.ntmps92 rfl ?_
  have hng := ng_of hg hn
  have h7 := pow_le7 hng.le
  obtain ⟨m, hm, hrl, _, hm7⟩ := isG_size hg
  have hset : IsG size rows ∧ (0 : Int) ≤ (S : Int) ∧ (S : Int) < ishl 1 size := by refine ⟨hg, by omega, ?_⟩; rw [hn, ishl_one_nat (by have := hng.le; omega)]; omega
  have hz := arU_zero (rowN rows) S
  repeat' (first | apply pwp_seq | apply pwp_region | (apply px_run; (first | (apply opv_move; first | exact hid_int rfl) | (apply opv_assign; first | exact hid_int rfl) | (apply opv_not_dec <;> rfl) | (apply opv_load_str 0 st_G; rfl; rfl; rfl) | (apply opv_call; rfl; rfl; exact Cl.stable _ _ _; exact fun w hw => s_IsSet_c _ _ rows _ _ (by first | exact hw.arr (by assumption)))); rfl; rfl) | apply px_nil | apply qseq_normal | apply pwp_block | apply pwp_skip | (apply pwp_cond_ndec; rfl; all_goals (intro hc; try (first | contradiction))) | (apply px_box; rfl; rfl; rfl; rfl; intro bk))
  refine pwp_loop (τ := Nat) [(5,6), (12,29)] (fun k => [(6, .int .i64 (k : Int)), (5, .int .i64 ((arU (rowN rows) S k : Nat) : Int))]) (fun _ => Cl [] w [.blk bk [.int .i64 size, gv]]) (fun k => k ≤ n) (fun k => n - k) 0
    ⟨rfl, by show Value.int .i64 _ = .int .i64 _; rw [hz], trivial⟩ (Nat.zero_le _) (fun _ h => h) (fun J k hk => ?_)
  by_cases hlt : k < n
  · have hs := arU_succ (rowN rows) S k
    have hl1 := arU_lt hng.lt hS k
    have hl2 := hng.lt k
    have hrow := rowN_eq hg k
    have hb : iand (ishr (S : Int) (k : Int)) 1 = 1 ↔ S.testBit k = true := by rw [← hasB_iff, hasB_nat (by omega) (by omega)]
    have ho : ior ((arU (rowN rows) S k : Nat) : Int) (rows.getD k 0) = ((arU (rowN rows) S k ||| rowN rows k : Nat) : Int) := by rw [hrow, ior_nat (by omega) (by omega)]
    repeat' (first | apply pwp_seq | apply pwp_region | (apply px_run; (first | (apply opv_move; first | exact hid_int rfl) | (apply opv_assign; first | exact hid_int rfl) | (apply opv_lss <;> rfl) | (apply opv_eql <;> rfl) | (apply opv_and <;> rfl) | (apply opv_or <;> rfl) | (apply opv_add_in; rfl; rfl; omega) | (apply opv_shr; rfl; rfl; omega) | (apply opv_field fld_G0; rfl) | (apply opv_field fld_G1; rfl) | (apply opv_load_blk 0; (first | with_reducible exact sc_int | with_reducible exact sc_ints); rfl; rfl; rfl) | (apply opv_load_ints sc_int; rfl; (first | exact rd_old (by assumption)); (first | omega)) | (apply opv_index_nat (vs := ints _) el_int; rfl; rfl; (first | exact rd_old (by assumption)); (first | (simp only [ints_length]; omega)))); rfl; rfl) | apply px_nil | apply qseq_normal | apply pwp_block | apply qblock_normal | apply pwp_skip | (apply pwp_cond_dec; rfl; all_goals (intro hc; try (first | (exfalso; omega)))))
    all_goals (refine qround_normal ?_ ⟨k + 1, ⟨rfl, ?_, trivial⟩, by omega, by omega, fun _ h => h⟩)
    all_goals first
      | (show Value.int .i64 _ = .int .i64 _; rw [hs]; first | (rw [if_pos (hb.1 hc), ← ho]; done) | (rw [if_neg (fun h => hc (hb.2 h))]; done))
      | skip
    all_goals (repeat (first | exact same_refl | refine same_upd rfl ?_ | refine same_junk rfl ?_))
  · repeat' (first | apply pwp_seq | apply pwp_region | (apply px_run; (first | (apply opv_move; first | exact hid_int rfl) | (apply opv_assign; first | exact hid_int rfl) | (apply opv_lss <;> rfl) | (apply opv_field fld_G0; rfl) | (apply opv_load_blk 0; (first | with_reducible exact sc_int); rfl; rfl; rfl)); rfl; rfl) | apply px_nil | apply qseq_normal | apply qseq_exit | (apply qblock_exit_same; rfl) | apply pwp_exit | apply pwp_ret | apply qround_exit | (apply pwp_cond_dec; rfl; all_goals (intro hc; try (first | (exfalso; omega)))))
    obtain rfl : k = n := by omega
    refine qbody_ret1 (v := .int _ _) rfl rfl ⟨rfl, fun _ h => h.below⟩
theorem en_s_l3Grow : Entry Tryz.prog 79 := ⟨_, Tryz.func79, by kernel_rfl, rfl⟩
set_option maxHeartbeats 800000 in
theorem s_l3Grow_c (size : Int) (gv : Value) (rows : List Int) (n S set : Nat) (w : World) (hr : Arr w gv (ints rows)) (hg : IsG size rows) (hn : size = n) (hset : set < 2 ^ n) (hS : SubN S set) :
    Pure Tryz.prog 79 #[.agg #[.int .i64 size, gv], .int .i64 S, .int .i64 set] w (.int .i64 (compN (rowN rows) n set S : Nat)) := by
  refine pure_enter (args := [_, _, _]) en_s_l3Grow Tryz.func79 rfl Tryz.ntmps79 rfl ?_
  have hng := ng_of hg hn
  have h7 := pow_le7 hng.le
  have hn7 := hng.le
  repeat' (first | apply pwp_seq | apply pwp_region | (apply px_run; (first | (apply opv_move; first | exact hid_int rfl) | (apply opv_assign; first | exact hid_int rfl)); rfl; rfl) | apply px_nil | apply qseq_normal | apply pwp_block | (apply px_box; rfl; rfl; rfl; rfl; intro bk))
  refine pwp_loop (τ := Nat) [(7,8), (10,20)] (fun t => [(8, .int .i64 (t : Int)), (7, .int .i64 ((iterN (growN (rowN rows) n set) t S : Nat) : Int))]) (fun _ => Cl [] w [.blk bk [.int .i64 size, gv]]) (fun t => t ≤ n) (fun t => n - t) 0
    ⟨rfl, rfl, trivial⟩ (Nat.zero_le _) (fun _ h => h) (fun J t ht => ?_)
  have hin := comp_in (r := rowN rows) (n := n) hS t
  have hlt := lt_of_sub hin hset
  by_cases h : t < n
  · have har := arU_lt hng.lt hlt n
    have hnx : iterN (growN (rowN rows) n set) (t + 1) S = arU (rowN rows) (iterN (growN (rowN rows) n set) t S) n &&& set := rfl
    have hand : iand ((arU (rowN rows) (iterN (growN (rowN rows) n set) t S) n : Nat) : Int) (set : Int) = ((arU (rowN rows) (iterN (growN (rowN rows) n set) t S) n &&& set : Nat) : Int) := iand_nat (by omega) (by omega)
    repeat' (first | apply pwp_seq | apply pwp_region | (apply px_run; (first | (apply opv_move; first | exact hid_int rfl) | (apply opv_assign; first | exact hid_int rfl) | (apply opv_lss <;> rfl) | (apply opv_and <;> rfl) | (apply opv_add_in; rfl; rfl; omega) | (apply opv_field fld_G0; rfl) | (apply opv_load_blk 0; (first | with_reducible exact sc_int); rfl; rfl; rfl) | (apply opv_load_str 0 st_G; rfl; rfl; rfl) | (apply opv_call; rfl; rfl; exact Cl.stable _ _ _; exact fun w hw => s_AroundSet_c _ _ rows n _ _ (by first | exact hw.arr (by assumption)) hg hn hlt)); rfl; rfl) | apply px_nil | apply qseq_normal | apply pwp_block | apply qblock_normal | apply pwp_skip | (apply pwp_cond_dec; rfl; all_goals (intro hc; try (first | (exfalso; omega)))))
    refine qround_normal ?_ ⟨t + 1, ⟨rfl, ?_, trivial⟩, by omega, by omega, fun _ h => h⟩
    · repeat (first | exact same_refl | refine same_upd rfl ?_ | refine same_junk rfl ?_)
    · show Value.int .i64 _ = .int .i64 _
      rw [hnx, ← hand]
  · repeat' (first | apply pwp_seq | apply pwp_region | (apply px_run; (first | (apply opv_move; first | exact hid_int rfl) | (apply opv_assign; first | exact hid_int rfl) | (apply opv_lss <;> rfl) | (apply opv_field fld_G0; rfl) | (apply opv_load_blk 0; (first | with_reducible exact sc_int); rfl; rfl; rfl)); rfl; rfl) | apply px_nil | apply qseq_normal | apply qseq_exit | (apply qblock_exit_same; rfl) | apply pwp_exit | apply pwp_ret | apply qround_exit | (apply pwp_cond_dec; rfl; all_goals (intro hc; try (first | (exfalso; omega)))))
    obtain rfl : t = n := by omega
    refine qbody_ret1 (v := .int _ _) rfl rfl ⟨rfl, fun _ h => h.below⟩
theorem en_s_PartsOf : Entry Tryz.prog 52 := ⟨_, Tryz.func52, by kernel_rfl, rfl⟩
set_option maxHeartbeats 1600000 in
theorem s_PartsOf_c (size : Int) (gv : Value) (rows : List Int) (n set : Nat) (w : World) (hr : Arr w gv (ints rows)) (hg : IsG size rows) (hn : size = n) (hset : set < 2 ^ n) :
    Gives Tryz.prog 52 #[.agg #[.int .i64 size, gv], .int .i64 set] w (fun v objs => objs = [.row 3 v (ints (partsL rows size set))]) := by
  refine gives_enter (args := [_, _]) en_s_PartsOf Tryz.func52 rfl Tryz.ntmps52 rfl ?_
  have hng := ng_of hg hn
  have h7 := pow_le7 hng.le
  have hset' : IsG size rows ∧ (0 : Int) ≤ (set : Int) ∧ (set : Int) < ishl 1 size := by refine ⟨hg, by omega, ?_⟩; rw [hn, ishl_one_nat (by have := hng.le; omega)]; omega
  repeat' (first | apply pwp_seq | apply pwp_region | (apply px_run; (first | (apply opv_move; first | exact hid_int rfl) | (apply opv_assign; first | exact hid_int rfl | rfl)); rfl; rfl) | apply px_nil | apply qseq_normal | apply pwp_block | (apply px_box; rfl; rfl; rfl; rfl; intro bk) | (apply px_lit0 ez_int; rfl; rfl; rfl; intro sv))
  refine pwp_loop (τ := Nat × Nat × List Int × Value) [(5,8), (11,33)] (fun x => [(6, .int .i64 (x.2.1 : Int)), (5, x.2.2.2)]) (fun x => Cl [] w [.row 3 x.2.2.2 (ints x.2.2.1), .blk bk [.int .i64 size, gv]])
    (fun x => SplitN (rowN rows) x.2.1 set ∧ x.2.1 < x.1 ∧ x.2.2.1.length + x.1 ≤ 129 ∧ partsL rows size set = x.2.2.1 ++ (partsN (rowN rows) n set x.1 x.2.1).map Int.ofNat) (fun x => x.1) (128, set, [], _)
    ⟨rfl, rfl, trivial⟩ ⟨⟨SubN.refl _, fun _ _ _ h _ => h⟩, by dsimp only; omega, by dsimp only; simp, by unfold partsL; rw [hn]; rfl⟩ (fun _ h => h) (fun J x hx => ?_)
  obtain ⟨f, left, o, so⟩ := x
  obtain ⟨hsp, hlf, hof, hR⟩ := hx
  dsimp only at hsp hlf hof hR ⊢
  obtain ⟨f, rfl⟩ : ∃ f' : Nat, f = f' + 1 := ⟨f - 1, by omega⟩
  have hln := lt_of_sub hsp.1 hset
  by_cases h0 : left = 0
  · subst h0
    rw [partsN, if_pos rfl, List.map_nil, List.append_nil] at hR
    repeat' (first | apply pwp_seq | apply pwp_region | (apply px_run; (first | (apply opv_move; first | exact hid_int rfl | exact hid_bool rfl | rfl) | (apply opv_assign; first | rfl) | (apply opv_gtr <;> rfl) | (apply opv_pick_f <;> rfl) | (apply opv_load_str 1 st_G; rfl; rfl; rfl)); rfl; rfl) | apply px_nil | (apply px_skip; rfl; rfl) | apply qseq_normal | apply qseq_exit | (apply qblock_exit_same; rfl) | apply pwp_exit | apply pwp_ret | apply qround_exit | (apply pwp_cond_f; rfl))
    refine qbody_ret1 (v := so) rfl rfl ⟨_, rfl, fun w' h => ?_⟩
    rw [hR]
    exact Cl.sub (by assumption) (by repeat (first | exact List.Sublist.slnil | exact List.Sublist.refl _ | apply List.Sublist.cons_cons | exact List.sublist_append_left _ _ | exact List.sublist_append_right _ _ | apply List.Sublist.cons))
  · obtain ⟨q1, q2, q3⟩ := low_spec ⟨left, by omega⟩ h0
    dsimp only at q1 q2 q3
    have hps := pow_sub q1
    have hp0 : 2 ^ lowN left ≠ 0 := Nat.pos_iff_ne_zero.1 (Nat.pow_pos (by omega))
    have hcs := comp_split (n := n) hsp hps
    have hnext := split_next (S := 2 ^ lowN left) hng.le hng hset hsp hp0 hps
    have hcin : SubN (compN (rowN rows) n left (2 ^ lowN left)) left := comp_in hps n
    have hcle := sub_le hcin
    have hpos := comp_pos (r := rowN rows) (n := n) hps hp0
    rw [hcs] at hnext hcle hpos
    rw [partsN, if_neg h0] at hR
    have hlow := low_list (S := left) (by omega)
    have hlen : 0 < (listS (left : Int)).length := by
      rw [listS_nat (by omega), List.length_map]
      exact List.length_pos_of_mem (List.mem_filter.2 ⟨List.mem_range.2 q2, q1⟩)
    have hsh := ishl_one_nat (v := lowN left) (by omega)
    have hgw := fun w' h => s_l3Grow_c size gv rows n (2 ^ lowN left) set w' h hg hn hset (fun i hi => hsp.1 i (hps i hi))
    rw [← hsh, ← hlow] at hgw
    have hnn : 0 ≤ (listS (left : Int)).getD 0 0 := by rw [hlow]; omega
    repeat' (first
        | apply pwp_seq
        | apply pwp_region
        | (apply px_run; (first
            | (apply opv_move; first | exact hid_int rfl | exact hid_bool rfl | exact hid_ptr rfl | rfl)
            | (apply opv_assign; first | exact hid_int rfl | exact hid_bool rfl | exact hid_ptr rfl | rfl)
            | (apply opv_lss <;> rfl)
            | (apply opv_leq <;> rfl)
            | (apply opv_gtr <;> rfl)
            | (apply opv_geq <;> rfl)
            | (apply opv_eql <;> rfl)
            | (apply opv_neq <;> rfl)
            | (apply opv_and <;> rfl)
            | (apply opv_or <;> rfl)
            | (apply opv_xor <;> rfl)
            | (apply opv_andNot <;> rfl)
            | (apply opv_pick_t <;> rfl)
            | (apply opv_pick_f <;> rfl)
            | (apply opv_not_dec <;> rfl)
            | (apply opv_not <;> rfl)
            | (apply opv_neg <;> rfl)
            | (apply opv_add_in; rfl; rfl; omega)
            | (apply opv_sub_in; rfl; rfl; omega)
            | (apply opv_mul_in; rfl; rfl; omega)
            | (apply opv_shl; rfl; rfl; omega)
            | (apply opv_shr; rfl; rfl; omega)
            | (apply opv_quo; rfl; rfl; omega)
            | (apply opv_rem; rfl; rfl; omega)
            | (apply opv_field fld_G0; rfl)
            | (apply opv_field fld_G1; rfl)
            | (apply opv_load_blk 0; (first | with_reducible exact sc_int | with_reducible exact sc_ints); rfl; rfl; rfl)
            | (apply opv_load_blk 1; (first | with_reducible exact sc_int | with_reducible exact sc_ints); rfl; rfl; rfl)
            | (apply opv_load_blk 2; (first | with_reducible exact sc_int | with_reducible exact sc_ints); rfl; rfl; rfl)
            | (apply opv_load_blk 3; (first | with_reducible exact sc_int | with_reducible exact sc_ints); rfl; rfl; rfl)
            | (apply opv_load_blk 4; (first | with_reducible exact sc_int | with_reducible exact sc_ints); rfl; rfl; rfl)
            | (apply opv_load_ints sc_int; rfl; (first | exact rd_old (by assumption) | exact rd_row 0 rfl | exact rd_row 1 rfl | exact rd_row 2 rfl | exact rd_row 3 rfl | exact rd_row 4 rfl); (first | omega | (simp only [List.length_set]; omega)))
            | (apply opv_index_nat (k := 0) (vs := ints _) el_int; rfl; rfl; (first | exact rd_old (by assumption) | exact rd_row 0 rfl | exact rd_row 1 rfl | exact rd_row 2 rfl | exact rd_row 3 rfl | exact rd_row 4 rfl); (first | (simp only [ints_length]; first | omega | assumption) | (simp [ints]; omega)))
            | (apply opv_index_nat (vs := ints _) el_int; rfl; rfl; (first | exact rd_old (by assumption) | exact rd_row 0 rfl | exact rd_row 1 rfl | exact rd_row 2 rfl | exact rd_row 3 rfl | exact rd_row 4 rfl); (first | (simp only [ints_length]; omega) | (simp [ints]; omega)))
            | (apply opv_index (vs := ints _) el_int; rfl; rfl; (first | exact rd_old (by assumption) | exact rd_row 0 rfl | exact rd_row 1 rfl | exact rd_row 2 rfl | exact rd_row 3 rfl | exact rd_row 4 rfl); omega; (first | (simp only [ints_length]; omega) | (simp [ints]; omega)))
            | (apply opv_len_ints el_int; rfl; (first | exact rd_old (by assumption) | exact rd_row 0 rfl | exact rd_row 1 rfl | exact rd_row 2 rfl | exact rd_row 3 rfl | exact rd_row 4 rfl))
            | (apply opv_load_str 0 st_G; rfl; rfl; rfl)
            | (apply opv_load_str 1 st_G; rfl; rfl; rfl)
            | (apply opv_load_str 2 st_G; rfl; rfl; rfl)
            | (apply opv_load_str 3 st_G; rfl; rfl; rfl)
            | (apply opv_load_str 4 st_G; rfl; rfl; rfl)
            | (apply opv_call; rfl; rfl; exact Cl.stable _ _ _; exact fun w hw => s_IsSet_c _ _ rows _ _ (by first | exact hw.arr (by assumption) | exact hw.rowArr (k := 0) rfl | exact hw.rowArr (k := 1) rfl | exact hw.rowArr (k := 2) rfl | exact hw.rowArr (k := 3) rfl | exact hw.rowArr (k := 4) rfl | exact hw.rowArr (k := 5) rfl | exact hw.rowArr (k := 6) rfl | exact hw.rowArr (k := 7) rfl | exact hw.rowArr (k := 8) rfl | exact hw.rowArr (k := 9) rfl | exact hw.rowArr (k := 10) rfl | exact hw.rowArr (k := 11) rfl | exact hw.rowArr (k := 12) rfl | exact hw.rowArr (k := 13) rfl | exact hw.rowArr (k := 14) rfl | exact hw.rowArr (k := 15) rfl | exact hw.rowArr (k := 16) rfl | exact hw.rowArr (k := 17) rfl | exact hw.rowArr (k := 18) rfl | exact hw.rowArr (k := 19) rfl))
            | (apply opv_call; rfl; rfl; exact Cl.stable _ _ _; exact fun w hw => hgw _ (by first | exact hw.arr (by assumption) | exact hw.rowArr (k := 0) rfl | exact hw.rowArr (k := 1) rfl | exact hw.rowArr (k := 2) rfl | exact hw.rowArr (k := 3) rfl | exact hw.rowArr (k := 4) rfl | exact hw.rowArr (k := 5) rfl | exact hw.rowArr (k := 6) rfl | exact hw.rowArr (k := 7) rfl | exact hw.rowArr (k := 8) rfl | exact hw.rowArr (k := 9) rfl | exact hw.rowArr (k := 10) rfl | exact hw.rowArr (k := 11) rfl | exact hw.rowArr (k := 12) rfl | exact hw.rowArr (k := 13) rfl | exact hw.rowArr (k := 14) rfl | exact hw.rowArr (k := 15) rfl | exact hw.rowArr (k := 16) rfl | exact hw.rowArr (k := 17) rfl | exact hw.rowArr (k := 18) rfl | exact hw.rowArr (k := 19) rfl))
            | (apply opv_add <;> rfl)
            | (apply opv_sub <;> rfl)
            | (apply opv_mul <;> rfl)
            | (apply opv_eql_bool ty_bool <;> rfl)
            | (apply opv_neq_bool ty_bool <;> rfl)); rfl; rfl)
        | apply px_nil
        | (apply px_skip; rfl; rfl)
        | apply qseq_normal
        | apply qseq_ret
        | apply qseq_exit
        | apply pwp_block
        | apply qblock_normal
        | apply qblock_ret
        | (apply qblock_exit_same; rfl)
        | (apply qblock_exit_other; rfl)
        | apply pwp_skip
        | apply pwp_exit
        | apply pwp_ret
        | apply qround_ret
        | apply qround_exit
        | apply qonce_ret
        | apply qonce_exit
        | (apply pwp_cond_t; rfl)
        | (apply pwp_cond_f; rfl)
        | (apply pwp_region_mix; kernel_rfl; decide +kernel; exact Cl.stable _ _ _)
        | (apply pwp_region_draw; kernel_rfl; kernel_rfl; exact Cl.stable _ _ _)
        | (apply px_guard_ndec; rfl; rfl; rfl; all_goals (intro hc; try (first | contradiction | (exfalso; omega) | (exfalso; simp at hc; done))))
        | (apply px_guard_dec; rfl; rfl; rfl; all_goals (intro hc; try (first | contradiction | (exfalso; omega) | (exfalso; simp at hc; done))))
        | (apply px_guard_not; rfl; rfl; rfl; all_goals (intro hc; try (first | contradiction | (exfalso; omega) | (exfalso; simp at hc; done))))
        | (apply px_guard; rfl; rfl; rfl; all_goals (intro hc; (first | contradiction | (fail_if_success (cases hc); try (first | (exfalso; omega) | (exfalso; simp at hc; done))))))
        | (apply pwp_cond_ndec; rfl; all_goals (intro hc; try (first | contradiction | (exfalso; omega) | (exfalso; simp at hc; done))))
        | (apply pwp_cond_dec; rfl; all_goals (intro hc; try (first | contradiction | (exfalso; omega) | (exfalso; simp at hc; done))))
        | (apply pwp_cond_not; rfl; all_goals (intro hc; try (first | contradiction | (exfalso; omega) | (exfalso; simp at hc; done))))
        | (apply pwp_cond; rfl; all_goals (intro hc; try (first | contradiction | (exfalso; omega) | (exfalso; simp at hc; done))))
        | (apply px_box; rfl; rfl; rfl; rfl; intro bk)
        | (apply px_lit1 ez_int; rfl; (intro w hw; (first | rfl | assumption | exact stor_row 0 hw rfl | exact stor_row 1 hw rfl | exact stor_row 2 hw rfl | exact stor_row 3 hw rfl | exact stor_row 4 hw rfl | exact stor_row 5 hw rfl | exact stor_row 6 hw rfl | exact stor_row 7 hw rfl | exact stor_row 8 hw rfl | exact stor_arr (by assumption) | exact stor_mem hw (by repeat (first | assumption | apply List.mem_cons_of_mem | apply List.mem_append_right)))); rfl; rfl; rfl; intro sv)
        | (apply px_append 0 ez_int; rfl; rfl; rfl; (first | exact rd_old (by assumption) | exact rd_row 0 rfl | exact rd_row 1 rfl | exact rd_row 2 rfl | exact rd_row 3 rfl); (first | exact fun _ _ => stor_ints | (intro _ _ u hu; simp at hu; subst hu; rfl)); (simp [ints]; omega); decide; rfl; rfl; intro sv)
        | (apply px_append 1 ez_int; rfl; rfl; rfl; (first | exact rd_old (by assumption) | exact rd_row 0 rfl | exact rd_row 1 rfl | exact rd_row 2 rfl | exact rd_row 3 rfl); (first | exact fun _ _ => stor_ints | (intro _ _ u hu; simp at hu; subst hu; rfl)); (simp [ints]; omega); decide; rfl; rfl; intro sv)
        | (apply px_append 2 ez_int; rfl; rfl; rfl; (first | exact rd_old (by assumption) | exact rd_row 0 rfl | exact rd_row 1 rfl | exact rd_row 2 rfl | exact rd_row 3 rfl); (first | exact fun _ _ => stor_ints | (intro _ _ u hu; simp at hu; subst hu; rfl)); (simp [ints]; omega); decide; rfl; rfl; intro sv)
        | (apply px_append 3 ez_int; rfl; rfl; rfl; (first | exact rd_old (by assumption) | exact rd_row 0 rfl | exact rd_row 1 rfl | exact rd_row 2 rfl | exact rd_row 3 rfl); (first | exact fun _ _ => stor_ints | (intro _ _ u hu; simp at hu; subst hu; rfl)); (simp [ints]; omega); decide; rfl; rfl; intro sv)
        | (apply px_append 4 ez_int; rfl; rfl; rfl; (first | exact rd_old (by assumption) | exact rd_row 0 rfl | exact rd_row 1 rfl | exact rd_row 2 rfl | exact rd_row 3 rfl); (first | exact fun _ _ => stor_ints | (intro _ _ u hu; simp at hu; subst hu; rfl)); (simp [ints]; omega); decide; rfl; rfl; intro sv)
        | (apply px_append 5 ez_int; rfl; rfl; rfl; (first | exact rd_old (by assumption) | exact rd_row 0 rfl | exact rd_row 1 rfl | exact rd_row 2 rfl | exact rd_row 3 rfl); (first | exact fun _ _ => stor_ints | (intro _ _ u hu; simp at hu; subst hu; rfl)); (simp [ints]; omega); decide; rfl; rfl; intro sv)
        | (apply px_append 6 ez_int; rfl; rfl; rfl; (first | exact rd_old (by assumption) | exact rd_row 0 rfl | exact rd_row 1 rfl | exact rd_row 2 rfl | exact rd_row 3 rfl); (first | exact fun _ _ => stor_ints | (intro _ _ u hu; simp at hu; subst hu; rfl)); (simp [ints]; omega); decide; rfl; rfl; intro sv)
        | (apply px_append 7 ez_int; rfl; rfl; rfl; (first | exact rd_old (by assumption) | exact rd_row 0 rfl | exact rd_row 1 rfl | exact rd_row 2 rfl | exact rd_row 3 rfl); (first | exact fun _ _ => stor_ints | (intro _ _ u hu; simp at hu; subst hu; rfl)); (simp [ints]; omega); decide; rfl; rfl; intro sv)
        | (apply px_append 8 ez_int; rfl; rfl; rfl; (first | exact rd_old (by assumption) | exact rd_row 0 rfl | exact rd_row 1 rfl | exact rd_row 2 rfl | exact rd_row 3 rfl); (first | exact fun _ _ => stor_ints | (intro _ _ u hu; simp at hu; subst hu; rfl)); (simp [ints]; omega); decide; rfl; rfl; intro sv)
        | (apply px_gives; rfl; rfl; rfl; rfl; rfl; exact fun w hw => s_ListOf_c _ _; rintro sl _ rfl))
    refine qround_normal ?_ ⟨(f, left - compN (rowN rows) n set (2 ^ lowN left), o ++ [((compN (rowN rows) n set (2 ^ lowN left) : Nat) : Int)], _), ⟨?_, rfl, trivial⟩, ⟨by rw [← hcs]; rw [← hcs] at hnext; exact hnext, by dsimp only; omega, by dsimp only; simp; omega, by rw [hR]; simp⟩, by dsimp only; omega, fun w' h => ?_⟩
    · repeat (first | exact same_refl | refine same_upd rfl ?_ | refine same_junk rfl ?_)
    · show Value.int .i64 ((left : Int) - (compN (rowN rows) n set (2 ^ lowN left) : Nat)) = .int .i64 ((left - compN (rowN rows) n set (2 ^ lowN left) : Nat) : Int)
      congr 1; omega
    · dsimp only
      rw [← ints_snoc]
      exact Cl.sub (by assumption) (by repeat (first | exact List.Sublist.slnil | exact List.Sublist.refl _ | apply List.Sublist.cons_cons | exact List.sublist_append_left _ _ | exact List.sublist_append_right _ _ | apply List.Sublist.cons))
end Go.Proofs.YtoejpckfeflkaaaGreatDoor
