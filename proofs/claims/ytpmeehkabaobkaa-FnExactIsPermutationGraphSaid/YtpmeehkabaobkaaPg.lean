/- Permutation models out of two orientations: orders. -/
import Derived.Test.YtpmeehkabaobkaaOr
import Derived.Test.YtpmeehkabaobkaaPwPpm
namespace Go.Proofs.Ytpmeehkabaobkaa
open Go Go.RowKit Go.Pw
theorem opv_min_left {P : Program} {C : Cls} {ρ : Operand → Value} {d : Option Tmp} {ty : TypeId} {pos : String} {af : Array Edge} {g : Option (Nat × Bool)} {x y : Operand} {m n : Int} {ats : Array TypeId} (hx : ρ x = .int .i64 m) (hy : ρ y = .int .i64 n) (h : m ≤ n) : Opv P C ρ ⟨d, .call { callee := .builtin .min, args := #[x, y], argTypes := ats }, ty, pos, af, g⟩ (.int .i64 m) := by
  have := opv_min (P := P) (C := C) (d := d) (ty := ty) (pos := pos) (af := af) (g := g) (ats := ats) hx hy
  rwa [Int.min_eq_left h] at this
theorem en_i_orderOf : Entry Try.prog 82 := ⟨_, Try.func82, by kernel_rfl, rfl⟩
set_option maxHeartbeats 1600000 in
theorem i_orderOf_c (sv : Value) (n : Nat) (F : Nat → Nat → Bool) (w : World) (hr : Arr w sv (ints (gRows n F))) (hn : n ≤ 7) (hi : ∀ i, F i i = false) :
    Gives Try.prog 82 #[sv] w (fun v objs => objs = [.row 3 v (ints (ordU n F n))]) := by
  refine gives_enter (args := [_]) en_i_orderOf Try.func82 rfl Try.ntmps82 rfl ?_
  have hl := gRows_length n F
  repeat' (first | apply pwp_seq | apply pwp_region | (apply px_run; (first | (apply opv_move; first | exact hid_int rfl | rfl) | (apply opv_assign; first | rfl) | (apply opv_len_ints el_int; rfl; (first | exact rd_old (by assumption)))); rfl; rfl) | apply px_nil | apply qseq_normal | apply pwp_block | (apply px_make ez_int; rfl; rfl; rfl; rfl; rfl; omega; (simp only [maxLen]; omega); intro sv))
  refine pwp_loop (τ := Nat) [(4,5), (7,7), (13,36)] (fun v => [(13, .int .i64 (v : Int))]) (fun v => Cl [] w [.row 3 sv (ints (ordU n F v))]) (fun v => v ≤ n) (fun v => n - v) 0
    ⟨rfl, trivial⟩ (Nat.zero_le _) (fun _ h => by rw [hl] at h; simpa [ordU, ints] using h) (fun J v hv => ?_)
  by_cases hlt : v < n
  · repeat' (first | apply pwp_seq | apply pwp_region | (apply px_run; (first | (apply opv_move; first | exact hid_int rfl | rfl) | (apply opv_assign; first | exact hid_int rfl) | (apply opv_lss <;> rfl) | (apply opv_len_ints el_int; rfl; (first | exact rd_old (by assumption)))); rfl; rfl) | apply px_nil | apply qseq_normal | apply pwp_block | apply pwp_skip | (apply pwp_cond_dec; rfl; all_goals (intro hc; try (first | (exfalso; omega)))))
    refine pwp_loop (τ := Nat) [(5,5), (7,7), (18,27)] (fun k => [(18, .int .i64 (k : Int)), (5, .int .i64 (cU F v k : Nat))]) (fun k => Cl [] w [.row 3 sv (ints (ordU n F v))]) (fun k => k ≤ n) (fun k => n - k) 0
      ⟨rfl, rfl, trivial⟩ (Nat.zero_le _) (fun _ h => h) (fun J2 k hk => ?_)
    have hcs := cU_succ F v k
    have hle := cU_le F v k
    by_cases hkn : k < n
    · have hhas : ∀ w', Pure Try.prog 75 #[.int .i64 ((gRows n F).getD k 0), .int .i64 (v : Int)] w' (.bool (F k v)) := fun w' => by
        have := i_has_c ((gRows n F).getD k 0) (v : Int) w' (by omega)
        rw [gRows_has hn F hkn hlt] at this; exact this
      cases hF : F k v with
      | true =>
        rw [hF] at hhas
        repeat' (first | apply pwp_seq | apply pwp_region | (apply px_run; (first | (apply opv_move; first | exact hid_int rfl) | (apply opv_assign; first | exact hid_int rfl) | (apply opv_lss <;> rfl) | (apply opv_add_in; rfl; rfl; omega) | (apply opv_load_ints sc_int; rfl; (first | exact rd_old (by assumption)); (first | omega)) | (apply opv_index_nat (vs := ints _) el_int; rfl; rfl; (first | exact rd_old (by assumption)); (first | (simp only [ints_length]; omega))) | (apply opv_call; rfl; rfl; exact Cl.stable _ _ _; exact fun w hw => hhas _)); rfl; rfl) | apply px_nil | apply qseq_normal | apply pwp_block | apply qblock_normal | apply pwp_skip | (apply pwp_cond_t; rfl) | (apply pwp_cond_dec; rfl; all_goals (intro hc; try (first | (exfalso; omega)))))
        refine qround_normal ?_ ⟨k + 1, ⟨rfl, by rw [hcs, if_pos hF]; rfl, trivial⟩, by omega, by omega, fun _ h => h⟩
        repeat (first | exact same_refl | refine same_upd rfl ?_ | refine same_junk rfl ?_)
      | false =>
        rw [hF] at hhas
        repeat' (first | apply pwp_seq | apply pwp_region | (apply px_run; (first | (apply opv_move; first | exact hid_int rfl) | (apply opv_assign; first | exact hid_int rfl) | (apply opv_lss <;> rfl) | (apply opv_add_in; rfl; rfl; omega) | (apply opv_load_ints sc_int; rfl; (first | exact rd_old (by assumption)); (first | omega)) | (apply opv_index_nat (vs := ints _) el_int; rfl; rfl; (first | exact rd_old (by assumption)); (first | (simp only [ints_length]; omega))) | (apply opv_call; rfl; rfl; exact Cl.stable _ _ _; exact fun w hw => hhas _)); rfl; rfl) | apply px_nil | apply qseq_normal | apply pwp_block | apply qblock_normal | apply pwp_skip | (apply pwp_cond_f; rfl) | (apply pwp_cond_dec; rfl; all_goals (intro hc; try (first | (exfalso; omega)))))
        refine qround_normal ?_ ⟨k + 1, ⟨rfl, by rw [hcs, if_neg (by rw [hF]; exact Bool.false_ne_true)]; rfl, trivial⟩, by omega, by omega, fun _ h => h⟩
        repeat (first | exact same_refl | refine same_upd rfl ?_ | refine same_junk rfl ?_)
    · obtain rfl : k = n := by omega
      have hct := cU_lt hlt (hi v)
      have hol := ordU_len k F v
      have hst : ordU k F (v + 1) = (ordU k F v).set (cU F v k) v := rfl
      repeat' (first | apply pwp_seq | apply pwp_region | (apply px_run; (first | (apply opv_min_left; rfl; rfl; omega) | (apply opv_move; first | exact hid_int rfl | rfl) | (apply opv_lss <;> rfl) | (apply opv_add_in; rfl; rfl; omega) | (apply opv_sub_in; rfl; rfl; omega) | (apply opv_index_nat (vs := ints _) el_int; rfl; rfl; (first | exact rd_row 0 rfl); (first | (simp only [ints_length]; omega))) | (apply opv_len_ints el_int; rfl; (first | exact rd_row 0 rfl))); rfl; rfl) | apply px_nil | apply qseq_normal | apply qseq_exit | apply qblock_normal | (apply qblock_exit_same; rfl) | apply pwp_exit | apply qround_exit | (apply pwp_cond_dec; rfl; all_goals (intro hc; try (first | (exfalso; omega)))) | (apply px_store_int 0 co_int; rfl; rfl; rfl; (first | omega); rfl))
      refine qround_normal ?_ ⟨v + 1, ⟨rfl, trivial⟩, by omega, by omega, fun _ h => ?_⟩
      · repeat (first | exact same_refl | refine same_upd rfl ?_ | refine same_junk rfl ?_)
      · rw [hst]; exact h
  · obtain rfl : v = n := by omega
    repeat' (first | apply pwp_seq | apply pwp_region | (apply px_run; (first | (apply opv_move; first | rfl) | (apply opv_assign; first | rfl) | (apply opv_lss <;> rfl)); rfl; rfl) | apply px_nil | apply qseq_normal | apply qseq_exit | (apply qblock_exit_same; rfl) | apply pwp_exit | apply pwp_ret | apply qround_exit | (apply pwp_cond_dec; rfl; all_goals (intro hc; try (first | (exfalso; omega)))))
    refine qbody_ret1 rfl rfl ⟨_, rfl, fun w' h => h⟩
theorem en_s_l14Sort : Entry Try.prog 78 := ⟨_, Try.func78, by kernel_rfl, rfl⟩
set_option maxRecDepth 100000 in
set_option maxHeartbeats 3200000 in
theorem s_l14Sort_c (n : Nat) (gv ov hv : Value) (O H : Nat → Nat → Bool) (t : Bool) (w : World) (ho : Arr w ov (ints (gRows n O))) (hh : Arr w hv (ints (gRows n H))) (hn : n ≤ 7) (hO : ∀ i, O i i = false) (hH : ∀ i, H i i = false) :
    Gives Try.prog 78 #[.agg #[.int .i64 n, gv], .agg #[ov], .agg #[hv], .bool t] w (fun v objs => objs = [.row 3 v (ints (ordU n (fun u v => H u v || (if t = true then O v u else O u v)) n))]) := by
  refine gives_enter (args := [_, _, _, _]) en_s_l14Sort Try.func78 rfl Try.ntmps78 rfl ?_
  have hl := gRows_length n O
  have hl2 := gRows_length n H
  generalize hF : (fun u v => H u v || (if t = true then O v u else O u v)) = F
  have hFi : ∀ i, F i i = false := fun i => by rw [← hF]; dsimp only; rw [hH, hO]; simp
  have hbit : ∀ (P : Nat → Nat → Bool) (k v : Nat), k < n → v < n → (iand (ishr ((gRows n P).getD k 0) (v : Int)) 1 = 1 ↔ P k v = true) := fun P k v hk hv => by
    rw [← hasB_iff, gRows_has hn P hk hv]
  repeat' (first | apply pwp_seq | apply pwp_region | (apply px_run; (first | (apply opv_assign; first | exact hid_int rfl | rfl) | (apply opv_field fld_G0; rfl) | (apply opv_load_blk 2; (first | with_reducible exact sc_int); rfl; rfl; rfl)); rfl; rfl) | apply px_nil | apply qseq_normal | apply pwp_block | (apply px_box; rfl; rfl; rfl; rfl; intro bk) | (apply px_make ez_int; rfl; rfl; rfl; rfl; rfl; omega; (simp only [maxLen]; omega); intro sv))
  rename_i b1 b2
  refine pwp_loop (τ := Nat) [(10,13), (17,65)] (fun v => [(10, .int .i64 (v : Int))]) (fun v => Cl [] w [.row 3 sv (ints (ordU n F v)), .blk bk [hv], .blk b2 [ov], .blk b1 [.int .i64 n, gv]]) (fun v => v ≤ n) (fun v => n - v) 0
    ⟨rfl, trivial⟩ (Nat.zero_le _) (fun _ h => by simpa [ordU, ints] using h) (fun J v hvn => ?_)
  by_cases hlt : v < n
  · repeat' (first | apply pwp_seq | apply pwp_region | (apply px_run; (first | (apply opv_move; first | exact hid_int rfl) | (apply opv_assign; first | exact hid_int rfl) | (apply opv_lss <;> rfl) | (apply opv_field fld_G0; rfl) | (apply opv_load_blk 3; (first | with_reducible exact sc_int); rfl; rfl; rfl)); rfl; rfl) | apply px_nil | apply qseq_normal | apply pwp_block | apply pwp_skip | (apply pwp_cond_dec; rfl; all_goals (intro hc; try (first | (exfalso; omega)))))
    refine pwp_loop (τ := Nat) [(11,13), (23,61)] (fun k => [(12, .int .i64 (k : Int)), (11, .int .i64 (cU F v k : Nat))]) (fun k => Cl [] w [.row 3 sv (ints (ordU n F v)), .blk bk [hv], .blk b2 [ov], .blk b1 [.int .i64 n, gv]]) (fun k => k ≤ n) (fun k => n - k) 0
      ⟨rfl, rfl, trivial⟩ (Nat.zero_le _) (fun _ h => h) (fun J2 k hk => ?_)
    have hcs := cU_succ F v k
    have hle := cU_le F v k
    by_cases hkn : k < n
    · have b1' := hbit O k v hkn hlt
      have b2' := hbit O v k hlt hkn
      have b3' := hbit H k v hkn hlt
      cases t with
      | true =>
        have hFk : F k v = true ↔ (iand (ishr ((gRows n H).getD k 0) (v : Int)) 1 = 1 ∨ iand (ishr ((gRows n O).getD v 0) (k : Int)) 1 = 1) := by rw [b3', b2', ← hF]; simp
        repeat' (first | apply pwp_seq | apply pwp_region | (apply px_run; (first | (apply opv_move; first | exact hid_int rfl | exact hid_bool rfl) | (apply opv_assign; first | exact hid_int rfl | exact hid_bool rfl) | (apply opv_lss <;> rfl) | (apply opv_eql <;> rfl) | (apply opv_and <;> rfl) | (apply opv_pick_t <;> rfl) | (apply opv_pick_f <;> rfl) | (apply opv_add_in; rfl; rfl; omega) | (apply opv_shr; rfl; rfl; omega) | (apply opv_field fld_G0; rfl) | (apply opv_field fld_O0; rfl) | (apply opv_load_blk 1; (first | with_reducible exact sc_int | with_reducible exact sc_ints); rfl; rfl; rfl) | (apply opv_load_blk 2; (first | with_reducible exact sc_int | with_reducible exact sc_ints); rfl; rfl; rfl) | (apply opv_load_blk 3; (first | with_reducible exact sc_int | with_reducible exact sc_ints); rfl; rfl; rfl) | (apply opv_load_ints sc_int; rfl; (first | exact rd_old (by assumption)); (first | omega)) | (apply opv_index_nat (vs := ints _) el_int; rfl; rfl; (first | exact rd_old (by assumption)); (first | (simp only [ints_length]; omega)))); rfl; rfl) | apply px_nil | (apply px_skip; rfl; rfl) | apply qseq_normal | apply pwp_block | apply qblock_normal | apply pwp_skip | (apply pwp_cond_t; rfl) | (apply px_guard_dec; rfl; rfl; rfl; all_goals (intro hc; try (first | fail))) | (apply pwp_cond_dec; rfl; all_goals (intro hc; try (first | (exfalso; omega)))))
        all_goals first
          | (refine qround_normal ?_ ⟨k + 1, ⟨rfl, by rw [hcs, if_pos (hFk.2 (by omega))]; rfl, trivial⟩, by omega, by omega, fun _ h => h⟩
             repeat (first | exact same_refl | refine same_upd rfl ?_ | refine same_junk rfl ?_))
          | (refine qround_normal ?_ ⟨k + 1, ⟨rfl, by rw [hcs, if_neg (fun h => by have := hFk.1 h; omega)]; rfl, trivial⟩, by omega, by omega, fun _ h => h⟩
             repeat (first | exact same_refl | refine same_upd rfl ?_ | refine same_junk rfl ?_))
      | false =>
        have hFk : F k v = true ↔ (iand (ishr ((gRows n H).getD k 0) (v : Int)) 1 = 1 ∨ iand (ishr ((gRows n O).getD k 0) (v : Int)) 1 = 1) := by rw [b3', b1', ← hF]; simp
        repeat' (first | apply pwp_seq | apply pwp_region | (apply px_run; (first | (apply opv_move; first | exact hid_int rfl | exact hid_bool rfl) | (apply opv_assign; first | exact hid_int rfl | exact hid_bool rfl) | (apply opv_lss <;> rfl) | (apply opv_eql <;> rfl) | (apply opv_and <;> rfl) | (apply opv_pick_t <;> rfl) | (apply opv_pick_f <;> rfl) | (apply opv_add_in; rfl; rfl; omega) | (apply opv_shr; rfl; rfl; omega) | (apply opv_field fld_G0; rfl) | (apply opv_field fld_O0; rfl) | (apply opv_load_blk 1; (first | with_reducible exact sc_int | with_reducible exact sc_ints); rfl; rfl; rfl) | (apply opv_load_blk 2; (first | with_reducible exact sc_int | with_reducible exact sc_ints); rfl; rfl; rfl) | (apply opv_load_blk 3; (first | with_reducible exact sc_int | with_reducible exact sc_ints); rfl; rfl; rfl) | (apply opv_load_ints sc_int; rfl; (first | exact rd_old (by assumption)); (first | omega)) | (apply opv_index_nat (vs := ints _) el_int; rfl; rfl; (first | exact rd_old (by assumption)); (first | (simp only [ints_length]; omega)))); rfl; rfl) | apply px_nil | (apply px_skip; rfl; rfl) | apply qseq_normal | apply pwp_block | apply qblock_normal | apply pwp_skip | (apply pwp_cond_t; rfl) | (apply pwp_cond_f; rfl) | (apply px_guard_dec; rfl; rfl; rfl; all_goals (intro hc; try (first | fail))) | (apply pwp_cond_dec; rfl; all_goals (intro hc; try (first | (exfalso; omega)))))
        all_goals first
          | (refine qround_normal ?_ ⟨k + 1, ⟨rfl, by rw [hcs, if_pos (hFk.2 (by omega))]; rfl, trivial⟩, by omega, by omega, fun _ h => h⟩
             repeat (first | exact same_refl | refine same_upd rfl ?_ | refine same_junk rfl ?_))
          | (refine qround_normal ?_ ⟨k + 1, ⟨rfl, by rw [hcs, if_neg (fun h => by have := hFk.1 h; omega)]; rfl, trivial⟩, by omega, by omega, fun _ h => h⟩
             repeat (first | exact same_refl | refine same_upd rfl ?_ | refine same_junk rfl ?_))
    · obtain rfl : k = n := by omega
      have hct := cU_lt hlt (hFi v)
      have hol := ordU_len k F v
      have hst : ordU k F (v + 1) = (ordU k F v).set (cU F v k) v := rfl
      repeat' (first | apply pwp_seq | apply pwp_region | (apply px_run; (first | (apply opv_move; first | exact hid_int rfl | rfl) | (apply opv_assign; first | exact hid_int rfl) | (apply opv_lss <;> rfl) | (apply opv_add_in; rfl; rfl; omega) | (apply opv_field fld_G0; rfl) | (apply opv_load_blk 3; (first | with_reducible exact sc_int); rfl; rfl; rfl) | (apply opv_index_nat (vs := ints _) el_int; rfl; rfl; (first | exact rd_row 0 rfl); (first | (simp only [ints_length]; omega)))); rfl; rfl) | apply px_nil | apply qseq_normal | apply qseq_exit | apply qblock_normal | (apply qblock_exit_same; rfl) | apply pwp_exit | apply qround_exit | (apply pwp_cond_dec; rfl; all_goals (intro hc; try (first | (exfalso; omega)))) | (apply px_store_int 0 co_int; rfl; rfl; rfl; (first | omega); rfl))
      refine qround_normal ?_ ⟨v + 1, ⟨rfl, trivial⟩, by omega, by omega, fun _ h => ?_⟩
      · repeat (first | exact same_refl | refine same_upd rfl ?_ | refine same_junk rfl ?_)
      · rw [hst]; exact h
  · obtain rfl : v = n := by omega
    repeat' (first | apply pwp_seq | apply pwp_region | (apply px_run; (first | (apply opv_move; first | exact hid_int rfl | rfl) | (apply opv_assign; first | rfl) | (apply opv_lss <;> rfl) | (apply opv_field fld_G0; rfl) | (apply opv_load_blk 3; (first | with_reducible exact sc_int); rfl; rfl; rfl)); rfl; rfl) | apply px_nil | apply qseq_normal | apply qseq_exit | (apply qblock_exit_same; rfl) | apply pwp_exit | apply pwp_ret | apply qround_exit | (apply pwp_cond_dec; rfl; all_goals (intro hc; try (first | (exfalso; omega)))))
    refine qbody_ret1 rfl rfl ⟨_, rfl, fun w' h => ?_⟩
    exact Cl.sub (by assumption) (by repeat (first | exact List.Sublist.slnil | exact List.Sublist.refl _ | apply List.Sublist.cons_cons | exact List.sublist_append_left _ _ | exact List.sublist_append_right _ _ | apply List.Sublist.cons))
end Go.Proofs.Ytpmeehkabaobkaa
