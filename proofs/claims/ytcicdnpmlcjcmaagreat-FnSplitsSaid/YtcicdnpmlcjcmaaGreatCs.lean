import Derived.Test.YtcicdnpmlcjcmaaGreatCq
import Derived.Test.YtcicdnpmlcjcmaaGreatGs
import Derived.Test.YtcicdnpmlcjcmaaGreatPwMod
import Derived.Test.YtcicdnpmlcjcmaaGreatPwPtw
import Derived.Test.YtcicdnpmlcjcmaaGreatPwBool
import Derived.Test.YtcicdnpmlcjcmaaGreatPwPcs
import Derived.Test.YtcicdnpmlcjcmaaGreatPwDrop
/- Strong modules; first places. -/
namespace Go.Proofs.YtcicdnpmlcjcmaaGreat
open Go Go.RowKit Go.Pw

theorem en_x_slices_IndexFunc_int_int : Entry Tryz.prog 91 := ⟨_, Tryz.func91, by kernel_rfl, rfl⟩
theorem x_IndexFunc_c (lv : Value) (l : List Int) (f : FuncId) (cs : List Value) (p : Int → Bool) (w : World) (hv : Arr w lv (ints l))
    (hp : ∀ (i : Nat) w', i < l.length → Below w.heap.size w w' → Pure Tryz.prog f ([Value.int .i64 (l.getD i 0)] ++ cs).toArray w' (.bool (p (l.getD i 0)))) :
    Pure Tryz.prog 91 #[lv, .func (.func f) #[] cs.toArray] w (.int .i64 (idxF p l)) := by
  refine pure_enter (args := [_, _]) en_x_slices_IndexFunc_int_int Tryz.func91 rfl Tryz.ntmps91 rfl ?_
  have hl := hv.len
  repeat' (first | apply pwp_seq | apply pwp_region | (apply px_run; (first | (apply opv_move; first | exact hid_int rfl | rfl) | (apply opv_assign; first | exact hid_int rfl) | (apply opv_len_ints el_int; rfl; (first | exact rd_old (by assumption)))); rfl; rfl) | apply px_nil | apply qseq_normal | apply pwp_block)
  refine pwp_loop (τ := Nat) [(4,5), (8,18)] (fun k => [(8, .int .i64 (k : Int))]) (fun k => Cl [] w []) (fun k => k ≤ l.length ∧ ∀ i, i < k → p (l.getD i 0) = false) (fun k => l.length - k) 0
    ⟨rfl, trivial⟩ ⟨Nat.zero_le _, fun i hi => by omega⟩ (fun _ h => h) (fun J k hk => ?_)
  obtain ⟨hk, he⟩ := hk
  by_cases hlt : k < l.length
  · repeat' (first | apply pwp_seq | apply pwp_region | (apply px_run; (first | (apply opv_move; first | exact hid_int rfl | rfl) | (apply opv_assign; first | exact hid_int rfl) | (apply opv_lss <;> rfl) | (apply opv_add_in; rfl; rfl; omega) | (apply opv_load_ints sc_int; rfl; (first | exact rd_old (by assumption)); (first | omega)) | (apply opv_index_nat (vs := ints _) el_int; rfl; rfl; (first | exact rd_old (by assumption)); (first | (simp only [ints_length]; omega))) | (apply opv_callx; rfl; rfl; exact Cl.stable _ _ _; exact fun w hw => hp k w hlt hw.below)); rfl; rfl) | apply px_nil | apply qseq_normal | apply qseq_ret | apply pwp_block | apply qblock_normal | apply qblock_ret | apply pwp_skip | apply pwp_ret | apply qround_ret | (apply pwp_cond_dec; rfl; all_goals (intro hc; try (first | (exfalso; omega)))) | (apply pwp_cond; rfl; all_goals (intro hc; try (first | fail))))
    · refine qbody_ret1 (v := .int _ _) rfl rfl ⟨by rw [idxF_some p l k hlt hc he], fun _ h => h.below⟩
    · refine qround_normal ?_ ⟨k + 1, ⟨rfl, trivial⟩, ⟨by omega, fun i hi => ?_⟩, by omega, fun _ h => h⟩
      · repeat (first | exact same_refl | refine same_upd rfl ?_ | refine same_junk rfl ?_)
      · by_cases hik : i < k
        · exact he i hik
        · obtain rfl : i = k := by omega
          exact hc
  · repeat' (first | apply pwp_seq | apply pwp_region | (apply px_run; (first | (apply opv_assign; first | exact hid_int rfl) | (apply opv_lss <;> rfl)); rfl; rfl) | apply px_nil | apply qseq_normal | apply qseq_exit | (apply qblock_exit_same; rfl) | apply pwp_exit | apply pwp_ret | apply qround_exit | (apply pwp_cond_dec; rfl; all_goals (intro hc; try (first | (exfalso; omega)))))
    refine qbody_ret1 (v := .int _ _) rfl rfl ⟨by rw [idxF_none p l fun i hi => he i (by omega)], fun _ h => h.below⟩
end Go.Proofs.YtcicdnpmlcjcmaaGreat
/- Members of a list deleted; splits counted. -/
namespace Go.Proofs.YtcicdnpmlcjcmaaGreat
open Go Go.RowKit Go.Pw
theorem en_x_slices_DeleteFunc_int_int : Entry Tryz.prog 60 := ⟨_, Tryz.func60, by kernel_rfl, rfl⟩
set_option maxHeartbeats 1000000 in
theorem x_DeleteFunc_c (sv : Value) (L : List Int) (f : FuncId) (cs : List Value) (p : Int → Bool) (w : World) (X : List Nat) (hX : X = blocksOf [.row 3 sv (ints L)]) (ho : Own w [.row 3 sv (ints L)])
    (hp : ∀ (i : Nat) (M : List Int) w', i < L.length → Cl X w [.row 3 sv (ints M)] w' → Pure Tryz.prog f ([Value.int .i64 (L.getD i 0)] ++ cs).toArray w' (.bool (p (L.getD i 0)))) :
    Turns Tryz.prog 60 #[sv, .func (.func f) #[] cs.toArray] w [.row 3 sv (ints L)] [.row 3 sv (ints (L.filter (fun x => !p x) ++ List.replicate (L.length - (L.filter (fun x => !p x)).length) 0))] (takeV sv (L.filter (fun x => !p x)).length) := by
  refine turns_enterX (args := [_, _]) hX ho en_x_slices_DeleteFunc_int_int Tryz.func60 rfl Tryz.ntmps60 rfl ?_
  have hlen := (arr_of_row (ho.holds _ (List.mem_singleton_self _))).len
  have htk := own_take ho
  rw [ints_length] at htk
  have hir := idxF_range p L
  by_cases hi : idxF p L < 0
  · have hi1 : idxF p L = -1 := by omega
    repeat' (first | apply pwp_seq | apply pwp_region | (apply px_run; (first | (apply opv_move; first | exact hid_int rfl | rfl) | (apply opv_assign; first | exact hid_int rfl | rfl) | (apply opv_eql <;> rfl) | (apply opv_call; rfl; rfl; exact Cl.stable _ _ _; exact fun w hw => x_IndexFunc_c _ L f cs p _ (hw.rowArr (k := 0) rfl) (fun i w' h1 h2 => hp i L w' h1 (Cl.stable _ _ _ _ _ hw h2)))); rfl; rfl) | apply px_nil | apply qseq_normal | apply qseq_ret | apply pwp_ret | (apply pwp_cond_dec; rfl; all_goals (intro hc; try (first | contradiction))))
    refine qbody_ret1 (v := sv) rfl rfl ⟨by rw [idx_none_keep hi, htk], fun w' h => ?_⟩
    rw [idx_none_keep hi, Nat.sub_self, List.replicate_zero, List.append_nil]
    exact h
  obtain ⟨k, hk⟩ : ∃ k : Nat, idxF p L = k := ⟨(idxF p L).toNat, by omega⟩
  have hne : ¬ idxF p L = -1 := by omega
  repeat' (first | apply pwp_seq | apply pwp_region | (apply px_run; (first | (apply opv_move; first | exact hid_int rfl | rfl) | (apply opv_assign; first | exact hid_int rfl | rfl) | (apply opv_eql <;> rfl) | (apply opv_add_in; rfl; rfl; omega) | (apply opv_call; rfl; rfl; exact Cl.stable _ _ _; exact fun w hw => x_IndexFunc_c _ L f cs p _ (hw.rowArr (k := 0) rfl) (fun i w' h1 h2 => hp i L w' h1 (Cl.stable _ _ _ _ _ hw h2)))); rfl; rfl) | apply px_nil | apply qseq_normal | apply pwp_block | apply pwp_skip | (apply pwp_cond_dec; rfl; all_goals (intro hc; try (first | contradiction))))
  refine pwp_loop (τ := Nat × Nat × List Int) [(5,7), (16,35)] (fun x => [(5, .int .i64 (x.1 : Int)), (6, .int .i64 (x.2.1 : Int))]) (fun x => Cl X w [.row 3 sv (ints x.2.2)]) (fun x => Kept p L x.2.2 x.1 x.2.1) (fun x => L.length - x.2.1) (k, k + 1, L)
    ⟨by show _ = Value.int .i64 (k : Int); rw [← hk]; rfl, by show _ = Value.int .i64 ((k + 1 : Nat) : Int); rw [Int.natCast_add, ← hk]; rfl, trivial⟩ (Kept.start hk) (fun _ h => h) (fun J x hx => ?_)
  obtain ⟨i, j, M⟩ := x
  dsimp only at hx ⊢
  have h1 := hx.ij
  have h2 := hx.jl
  have h3 := hx.len
  by_cases hlt : j < L.length
  · have hget := hx.get hlt
    have hpj : ∀ w', Cl X w [.row 3 sv (ints M)] w' → Pure Tryz.prog f ([Value.int .i64 (M.getD j 0)] ++ cs).toArray w' (.bool (p (M.getD j 0))) := fun w' h => by rw [hget]; exact hp j M w' hlt h
    repeat' (first | apply pwp_seq | apply pwp_region | (apply px_run; (first | (apply opv_move; first | exact hid_int rfl | rfl) | (apply opv_assign; first | exact hid_int rfl) | (apply opv_lss <;> rfl) | (apply opv_not <;> rfl) | (apply opv_add_in; rfl; rfl; omega) | (apply opv_load_ints sc_int; rfl; (first | exact rd_row 0 rfl); (first | omega)) | (apply opv_index_nat (vs := ints _) el_int; rfl; rfl; (first | exact rd_row 0 rfl); (first | (simp only [ints_length]; omega))) | (apply opv_len_ints el_int; rfl; (first | exact rd_row 0 rfl)) | (apply opv_callx; rfl; rfl; exact Cl.stable _ _ _; exact fun w hw => hpj _ hw)); rfl; rfl) | apply px_nil | apply qseq_normal | apply pwp_block | apply qblock_normal | apply pwp_skip | (apply pwp_cond_dec; rfl; all_goals (intro hc; try (first | (exfalso; omega)))) | (apply pwp_cond_not; rfl; all_goals (intro hc; try (first | fail))) | (apply px_store_int 0 co_int; rfl; rfl; rfl; (first | omega); rfl))
    · rw [hget] at hc
      refine qround_normal ?_ ⟨(i + 1, j + 1, M.set i (L.getD j 0)), ⟨rfl, rfl, trivial⟩, hx.yes hlt hc, by dsimp only; omega, fun w' h => ?_⟩
      · repeat (first | exact same_refl | refine same_upd rfl ?_ | refine same_junk rfl ?_)
      · dsimp only; rw [← hget]; exact h
    · rw [hget] at hc
      refine qround_normal ?_ ⟨(i, j + 1, M), ⟨rfl, rfl, trivial⟩, hx.no hlt hc, by dsimp only; omega, fun w' h => h⟩
      repeat (first | exact same_refl | refine same_upd rfl ?_ | refine same_junk rfl ?_)
  · obtain rfl : j = L.length := by omega
    obtain ⟨e1, e2⟩ := hx.done
    repeat' (first | apply pwp_seq | apply pwp_region | (apply px_run; (first | (apply opv_move; first | exact hid_int rfl | rfl) | (apply opv_assign; first | rfl) | (apply opv_lss <;> rfl) | (apply opv_len_ints el_int; rfl; (first | exact rd_row 0 rfl)) | (apply opv_drop el_int; rfl; rfl; (first | exact rd_row 0 rfl); (first | (simp only [ints_length]; omega))) | (apply opv_take el_int; rfl; rfl; (first | exact rd_row 0 rfl); (first | (simp [ints]; omega)))); rfl; rfl) | apply px_nil | apply qseq_normal | apply qseq_exit | (apply qblock_exit_same; rfl) | apply pwp_exit | apply pwp_ret | apply qround_exit | (apply pwp_cond_dec; rfl; all_goals (intro hc; try (first | (exfalso; omega)))) | (apply px_clear_ints 0 ez_int; rfl; rfl; (first | omega); rfl; rfl))
    refine qbody_ret1 (v := takeV sv i) rfl rfl ⟨by rw [← e2], fun w' h => ?_⟩
    rw [← e2, ← e1, ← h3]
    exact h
theorem en_i_CountSplits_1 : Entry Tryz.prog 61 := ⟨_, Tryz.func61, by kernel_rfl, rfl⟩
theorem i_CountSplits_1_c (size : Int) (gv : Value) (rows : List Int) (s : Int) (bg : Nat) (w : World) (hr : Arr w gv (ints rows)) (hb : Bk w bg [.int .i64 size, gv]) :
    Pure Tryz.prog 61 #[.int .i64 s, .pointer (some ⟨bg, 0, none⟩)] w (.bool (!decide (splitP size rows s))) := by
  refine pure_enter (args := [_, _]) en_i_CountSplits_1 Tryz.func61 rfl Tryz.ntmps61 rfl ?_
  repeat' (first | apply pwp_seq | apply pwp_region | (apply px_run; (first | (apply opv_move; first | exact hid_int rfl) | (apply opv_assign; first | exact hid_bool rfl) | (apply opv_not_dec <;> rfl) | (apply opv_load_old_str st_G; rfl; assumption; rfl) | (apply opv_call; rfl; rfl; exact Cl.stable _ _ _; exact fun w hw => i_IsSplitPartition_c _ _ rows _ _ (by first | exact hw.arr (by assumption)))); rfl; rfl) | apply px_nil | apply qseq_normal | apply pwp_ret)
  refine qbody_ret1 (v := .bool _) rfl rfl ⟨by simp, fun _ h => h.below⟩
theorem en_i_CountSplits : Entry Tryz.prog 27 := ⟨_, Tryz.func27, by kernel_rfl, rfl⟩
set_option maxHeartbeats 1000000 in
theorem i_CountSplits_c (size : Int) (gv : Value) (rows : List Int) (w : World) (hr : Arr w gv (ints rows)) :
    Pure Tryz.prog 27 #[.agg #[.int .i64 size, gv]] w (.int .i64 (csX size rows)) := by
  refine pure_enter (args := [_]) en_i_CountSplits Tryz.func27 rfl Tryz.ntmps27 rfl ?_
  by_cases hg : IsG size rows
  case neg =>
    repeat' (first | apply pwp_seq | apply pwp_region | (apply px_run; (first | (apply opv_assign; first | exact hid_int rfl) | (apply opv_not_dec <;> rfl) | (apply opv_load_str 0 st_G; rfl; rfl; rfl) | (apply opv_call; rfl; rfl; exact Cl.stable _ _ _; exact fun w hw => i_IsGraph_c _ _ rows _ (by first | exact hw.arr (by assumption)))); rfl; rfl) | apply px_nil | apply qseq_normal | apply qseq_ret | apply pwp_ret | (apply pwp_cond_ndec; rfl; all_goals (intro hc; try (first | contradiction))) | (apply px_box; rfl; rfl; rfl; rfl; intro bk))
    refine qbody_ret1 (v := .int _ _) rfl rfl ⟨by unfold csX; rw [if_neg hg], fun _ h => h.below⟩
  have hsz : 0 ≤ size ∧ size ≤ 7 := ⟨by have := hg.1; omega, hg.1.2⟩
  obtain ⟨N, hN, hN', hN1, hN7⟩ := shl_nat hg
  have hx : csX size rows = (csU (fun s => decide (splitP size rows s)) N : Nat) := by unfold csX; rw [if_pos hg, hN']
  repeat' (first | apply pwp_seq | apply pwp_region | (apply px_run; (first | (apply opv_move; first | exact hid_int rfl) | (apply opv_assign; first | exact hid_int rfl | rfl) | (apply opv_not_dec <;> rfl) | (apply opv_add_in; rfl; rfl; omega) | (apply opv_load_str 0 st_G; rfl; rfl; rfl) | (apply opv_load_str 1 st_G; rfl; rfl; rfl) | (apply opv_call; rfl; rfl; exact Cl.stable _ _ _; exact fun w hw => i_IsGraph_c _ _ rows _ (by first | exact hw.arr (by assumption))) | (apply opv_call; rfl; rfl; exact Cl.stable _ _ _; exact fun w hw => i_all_c _ _ _ hsz)); rfl; rfl) | apply px_nil | apply qseq_normal | apply pwp_block | apply pwp_skip | (apply pwp_cond_ndec; rfl; all_goals (intro hc; try (first | contradiction))) | (apply px_box; rfl; rfl; rfl; rfl; intro bk) | (apply px_lit0i ez_int; rfl; rfl; rfl; intro sv))
  refine pwp_loop (τ := Nat × Value) [(3,4), (12,19)] (fun x => [(12, .int .i64 (x.1 : Int)), (3, x.2)]) (fun x => Cl [] w [.row 3 x.2 (ints ((List.range x.1).map Int.ofNat)), .blk bk [.int .i64 size, gv]]) (fun x => x.1 ≤ N) (fun x => N - x.1) (0, sv)
    ⟨rfl, rfl, trivial⟩ (Nat.zero_le _) (fun _ h => h) (fun J x hk => ?_)
  obtain ⟨k, so⟩ := x
  dsimp only at hk ⊢
  by_cases hlt : k < N
  · have hkl : ((List.range k).map Int.ofNat).length = k := by simp
    repeat' (first | apply pwp_seq | apply pwp_region | (apply px_run; (first | (apply opv_move; first | exact hid_int rfl | rfl) | (apply opv_assign; first | exact hid_int rfl | rfl) | (apply opv_lss <;> rfl) | (apply opv_add_in; rfl; rfl; omega)); rfl; rfl) | apply px_nil | apply qseq_normal | apply pwp_block | apply qblock_normal | apply pwp_skip | (apply pwp_cond_dec; rfl; all_goals (intro hc; try (first | (exfalso; omega)))) | (apply px_lit1 ez_int; rfl; (intro w hw; (first | rfl)); rfl; rfl; rfl; intro sv) | (apply px_append_int1 1 ez_int; rfl; rfl; rfl; (first | exact rd_row 0 rfl); (first | omega); decide; rfl; rfl; intro sv))
    refine qround_normal ?_ ⟨(k + 1, sv), ⟨rfl, rfl, trivial⟩, by dsimp only; omega, by dsimp only; omega, fun w' h => ?_⟩
    · repeat (first | exact same_refl | refine same_upd rfl ?_ | refine same_junk rfl ?_)
    · dsimp only
      rw [List.range_succ, List.map_append]
      exact Cl.sub (by assumption) (by repeat (first | exact List.Sublist.slnil | exact List.Sublist.refl _ | apply List.Sublist.cons_cons | exact List.sublist_append_left _ _ | exact List.sublist_append_right _ _ | apply List.Sublist.cons))
  · obtain rfl : k = N := by omega
    have hkl : ((List.range k).map Int.ofNat).length = k := by simp
    have hcl := csU_le (fun s => decide (splitP size rows s)) k
    obtain ⟨p, hp⟩ : ∃ p : Int → Bool, p = fun s => !decide (splitP size rows s) := ⟨_, rfl⟩
    have hlen : (((List.range k).map Int.ofNat).filter fun x => !p x).length = csU (fun s => decide (splitP size rows s)) k := by simp [csU, hp]
    have hpc : ∀ (x : Int) (b : Nat) w', Arr w' gv (ints rows) → Bk w' b [.int .i64 size, gv] → Pure Tryz.prog 61 #[.int .i64 x, .pointer (some ⟨b, 0, none⟩)] w' (.bool (p x)) := fun x b w' h1 h2 => by rw [hp]; exact i_CountSplits_1_c _ _ rows _ _ _ h1 h2
    have hKL : (((List.range k).map Int.ofNat).filter fun x => !p x).length ≤ ((((List.range k).map Int.ofNat).filter fun x => !p x) ++ List.replicate (((List.range k).map Int.ofNat).length - (((List.range k).map Int.ofNat).filter fun x => !p x).length) 0).length := by simp
    repeat' (first | apply pwp_seq | apply pwp_region | (apply px_run; (first | (apply opv_move; first | rfl) | (apply opv_assign; first | exact hid_int rfl) | (apply opv_lss <;> rfl) | (apply opv_len_ints el_int; rfl; (first | exact rd_take (rd_row 0 rfl) (by omega))) | (apply opv_make_func; rfl)); rfl; rfl) | apply px_nil | apply qseq_normal | apply qseq_exit | (apply qblock_exit_same; rfl) | apply pwp_exit | apply pwp_ret | apply qround_exit | (apply pwp_cond_dec; rfl; all_goals (intro hc; try (first | (exfalso; omega)))) | (apply px_turnsC [0]; rfl; rfl; rfl; rfl; rfl; exact fun w ho hw => x_DeleteFunc_c so ((List.range k).map Int.ofNat) _ _ p _ _ rfl ho (fun i M w' hi hX => hpc _ _ _ ((hw.turnMany hX).arr hr) ((hw.turnMany hX).bk (k := 1) rfl))))
    refine qbody_ret1 (v := .int _ _) rfl rfl ⟨?_, fun _ h => h.below⟩
    rw [hx, hlen]
    congr 2
    rw [List.length_take, ← hlen]
    exact Nat.min_eq_left (by rw [hlen] at hKL ⊢; exact hKL)
theorem en_s_CountSplits : Entry Tryz.prog 28 := ⟨_, Tryz.func28, by kernel_rfl, rfl⟩
set_option maxHeartbeats 1000000 in
theorem s_CountSplits_c (size : Int) (gv : Value) (rows : List Int) (w : World) (hr : Arr w gv (ints rows)) :
    Pure Tryz.prog 28 #[.agg #[.int .i64 size, gv]] w (.int .i64 (csX size rows)) := by
  refine pure_enter (args := [_]) en_s_CountSplits Tryz.func28 rfl Tryz.ntmps28 rfl ?_
  repeat' (first | apply pwp_seq | apply pwp_region | (apply px_run; (first | (apply opv_assign; first | exact hid_int rfl)); rfl; rfl) | apply px_nil | apply qseq_normal | apply pwp_block | (apply px_box; rfl; rfl; rfl; rfl; intro bk))
  by_cases hg : IsG size rows
  case neg =>
    refine pwp_loop_once ?_
    repeat' (first | apply pwp_seq | apply pwp_region | (apply px_run; (first | (apply opv_move; first | exact hid_int rfl | exact hid_bool rfl) | (apply opv_assign; first | exact hid_int rfl) | (apply opv_pick_f <;> rfl) | (apply opv_field fld_G0; rfl) | (apply opv_load_str 0 st_G; rfl; rfl; rfl) | (apply opv_call; rfl; rfl; exact Cl.stable _ _ _; exact fun w hw => s_IsGraph_c _ _ rows _ (by first | exact hw.arr (by assumption)))); rfl; rfl) | apply px_nil | (apply px_skip; rfl; rfl) | apply qseq_normal | apply qseq_exit | (apply qblock_exit_same; rfl) | apply pwp_exit | apply pwp_ret | apply qonce_exit | (apply pwp_cond_f; rfl) | (apply px_guard_dec; rfl; rfl; rfl; all_goals (intro hc; try (first | contradiction))))
    refine qbody_ret1 (v := .int _ _) rfl rfl ⟨by unfold csX; rw [if_neg hg], fun _ h => h.below⟩
  have hsz : 0 ≤ size ∧ size ≤ 7 := ⟨by have := hg.1; omega, hg.1.2⟩
  obtain ⟨hp, h2, h3⟩ := shl1 hsz
  obtain ⟨N, hN, hN', hN1, hN7⟩ := shl_nat hg
  have hx : csX size rows = (csU (fun s => decide (splitP size rows s)) N : Nat) := by unfold csX; rw [if_pos hg, hN']
  refine pwp_loop (τ := Nat) [(3,20)] (fun k => [(4, .int .i64 (k : Int)), (3, .int .i64 (csU (fun s => decide (splitP size rows s)) k : Nat))]) (fun _ => Cl [] w [.blk bk [.int .i64 size, gv]]) (fun k => k ≤ N) (fun k => N - k) 0
    ⟨rfl, rfl, trivial⟩ (Nat.zero_le _) (fun _ h => h) (fun J k hk => ?_)
  by_cases hlt : k < N
  · have hcl := csU_le (fun s => decide (splitP size rows s)) k
    have hcs := csU_succ (fun s => decide (splitP size rows s)) k
    repeat' (first | apply pwp_seq | apply pwp_region | (apply px_run; (first | (apply opv_move; first | exact hid_int rfl | exact hid_bool rfl) | (apply opv_assign; first | exact hid_int rfl) | (apply opv_lss <;> rfl) | (apply opv_pick_t <;> rfl) | (apply opv_add_in; rfl; rfl; omega) | (apply opv_shl; rfl; rfl; omega) | (apply opv_field fld_G0; rfl) | (apply opv_load_blk 0; (first | with_reducible exact sc_int); rfl; rfl; rfl) | (apply opv_load_str 0 st_G; rfl; rfl; rfl) | (apply opv_call; rfl; rfl; exact Cl.stable _ _ _; exact fun w hw => s_IsGraph_c _ _ rows _ (by first | exact hw.arr (by assumption))) | (apply opv_call; rfl; rfl; exact Cl.stable _ _ _; exact fun w hw => s_IsSplitPartition_c _ _ rows _ _ (by first | exact hw.arr (by assumption)))); rfl; rfl) | apply px_nil | apply qseq_normal | apply pwp_block | apply qblock_normal | apply pwp_skip | (apply px_guard_dec; rfl; rfl; rfl; all_goals (intro hc; try (first | contradiction))) | (apply pwp_cond_dec; rfl; all_goals (intro hc; try (first | (exfalso; omega)))))
    · refine qround_normal ?_ ⟨k + 1, ⟨rfl, ?_, trivial⟩, by omega, by omega, fun _ h => h⟩
      · repeat (first | exact same_refl | refine same_upd rfl ?_ | refine same_junk rfl ?_)
      · rw [hcs, if_pos (decide_eq_true hc)]; rfl
    · refine qround_normal ?_ ⟨k + 1, ⟨rfl, ?_, trivial⟩, by omega, by omega, fun _ h => h⟩
      · repeat (first | exact same_refl | refine same_upd rfl ?_ | refine same_junk rfl ?_)
      · rw [hcs, if_neg (by simp; exact hc)]; rfl
  · obtain rfl : k = N := by omega
    repeat' (first | apply pwp_seq | apply pwp_region | (apply px_run; (first | (apply opv_move; first | exact hid_int rfl | exact hid_bool rfl) | (apply opv_assign; first | exact hid_int rfl) | (apply opv_lss <;> rfl) | (apply opv_pick_t <;> rfl) | (apply opv_shl; rfl; rfl; omega) | (apply opv_field fld_G0; rfl) | (apply opv_load_blk 0; (first | with_reducible exact sc_int); rfl; rfl; rfl) | (apply opv_load_str 0 st_G; rfl; rfl; rfl) | (apply opv_call; rfl; rfl; exact Cl.stable _ _ _; exact fun w hw => s_IsGraph_c _ _ rows _ (by first | exact hw.arr (by assumption)))); rfl; rfl) | apply px_nil | apply qseq_normal | apply qseq_exit | (apply qblock_exit_same; rfl) | apply pwp_exit | apply pwp_ret | apply qround_exit | (apply px_guard_dec; rfl; rfl; rfl; all_goals (intro hc; try (first | contradiction))) | (apply pwp_cond_dec; rfl; all_goals (intro hc; try (first | (exfalso; omega)))))
    refine qbody_ret1 (v := .int _ _) rfl rfl ⟨by rw [hx], fun _ h => h.below⟩
end Go.Proofs.YtcicdnpmlcjcmaaGreat
