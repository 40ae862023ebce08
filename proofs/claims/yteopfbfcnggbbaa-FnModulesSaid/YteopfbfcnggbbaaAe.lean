/- AddEdge, whether the edge is there or not. -/
import Derived.Test.YteopfbfcnggbbaaQt
import Derived.Test.YteopfbfcnggbbaaPwPrs
import Derived.Test.YteopfbfcnggbbaaPwRdr
namespace Go.Proofs.Yteopfbfcnggbbaa
open Go Go.RowKit Go.Pw
set_option maxHeartbeats 1000000 in
theorem s_AddEdge2_c (n : Nat) (gv : Value) (P : Nat → Nat → Bool) (v u : Nat) (w : World) (hr : Arr w gv (ints (gRows n P))) (h1 : 1 ≤ n) (hn : n ≤ 7) (hs : SymP P) (hi : IrrP P)
    (hv : v < n) (hu : u < n) (hvu : v ≠ u) :
    Gives Try.prog 50 #[.agg #[.int .i64 n, gv], .int .i64 v, .int .i64 u] w (fun x objs => ∃ sv' bb, x = .tuple #[.agg #[.int .i64 n, sv'], .bool bb] ∧ objs = [.row 3 sv' (ints (gRows n (pairAdd P v u)))]) := by
  by_cases hP : P v u = false
  · have := s_AddEdge_c n gv P v u w hr h1 hn hs hi hv hu hvu hP
    exact ⟨this.entry, this.out.mono fun e w' ⟨x, objs, he, ⟨sv', hx, ho⟩, hc⟩ => ⟨x, objs, he, ⟨sv', true, hx, ho⟩, hc⟩⟩
  have hP' : P v u = true := by simpa using hP
  have hg := gRows_isG h1 hn hs hi
  have hlen : (gRows n P).length = n := gRows_length n P
  have hhas := gRows_has hn P hv hu
  have hvu' : (v : Int) ≠ u := by omega
  have he : gRows n (pairAdd P v u) = gRows n P := gRows_congr fun i j _ _ => by
    unfold pairAdd
    by_cases h3 : i = v ∧ j = u
    · obtain ⟨rfl, rfl⟩ := h3; rw [hP']; rfl
    · by_cases h4 : i = u ∧ j = v
      · obtain ⟨rfl, rfl⟩ := h4; rw [hs, hP']; rfl
      · simp [h3, h4]
  rw [he]
  have kE : ∀ sv w', Arr w' sv (ints (gRows n P)) → Pure Try.prog 49 #[.agg #[.int .i64 n, sv], .int .i64 v, .int .i64 u] w' (.bool true) := fun sv w' h => by
    have := s_l2Edge_c n sv (gRows n P) v u w' h (by omega) (by omega)
    rw [show hasB ((gRows n P).getD (Int.toNat (v : Int)) 0) (u : Int) = P v u from hhas, hP'] at this; exact this
  refine gives_enter (args := [_, _, _]) en_s_AddEdge Try.func50 rfl Try.ntmps50 rfl ?_
  repeat' (first | apply pwp_seq | apply pwp_region | (apply px_run; (first | (apply opv_move; first | exact hid_int rfl | exact hid_bool rfl) | (apply opv_assign; first | exact hid_bool rfl) | (apply opv_pick_f <;> rfl) | (apply opv_not <;> rfl) | (apply opv_load_str 0 st_G; rfl; rfl; rfl) | (apply opv_load_str 1 st_G; rfl; rfl; rfl) | (apply opv_load_str 3 st_G; rfl; rfl; rfl) | (apply opv_call; rfl; rfl; exact Cl.stable _ _ _; exact fun w hw => s_l2Pair_c _ _ _ _ _ _ (by first | exact hw.arr (by assumption)) hg (by omega) (by omega) hvu') | (apply opv_call; rfl; rfl; exact Cl.stable _ _ _; exact fun w hw => kE _ _ (by first | exact hw.arr (by assumption)))); rfl; rfl) | apply px_nil | apply qseq_normal | apply qseq_ret | apply pwp_ret | (apply pwp_cond_t; rfl) | (apply px_box; rfl; rfl; rfl; rfl; intro bk) | (apply px_alloc st_G; rfl; rfl; rfl; intro bk) | (apply px_store_str 0 st_G; rfl; rfl; rfl; rfl; rfl; (intro w hw; (first | refine all2 rfl ?_ ?_) <;> (first | rfl | exact stor_row 1 hw rfl)); rfl) | (apply px_store_str 2 st_G; rfl; rfl; rfl; rfl; rfl; (intro w hw; (first | refine all2 rfl ?_ ?_) <;> (first | rfl | exact stor_row 1 hw rfl)); rfl) | (apply px_gives; rfl; rfl; rfl; rfl; rfl; exact fun w hw => s_l2Copy_c _ _ (gRows n P) _ (by first | exact hw.arr (by assumption)) (by omega); rintro _ _ ⟨sc, rfl, rfl⟩))
  refine qbody_cell_tmp 2 rfl st_G rfl rfl rfl rfl ⟨_, ⟨sc, false, rfl, rfl⟩, fun w' h => ?_⟩
  exact Cl.sub (by assumption) (by repeat (first | exact List.Sublist.slnil | exact List.Sublist.refl _ | apply List.Sublist.cons_cons | exact List.sublist_append_left _ _ | exact List.sublist_append_right _ _ | apply List.Sublist.cons))
theorem s_AddEdge3_c (n : Nat) (gv : Value) (P : Nat → Nat → Bool) (v u : Nat) (w : World) (hr : Arr w gv (ints (gRows n P))) (h1 : 1 ≤ n) (hn : n ≤ 7) (hs : SymP P) (hi : IrrP P)
    (hv : v < n) (hu : u < n) (hvu : v ≠ u) :
    Gives Try.prog 50 #[.agg #[.int .i64 n, gv], .int .i64 v, .int .i64 u] w (fun x objs => ∃ sv' bb, storable sv' = true ∧ x = .tuple #[.agg #[.int .i64 n, sv'], .bool bb] ∧ objs = [.row 3 sv' (ints (gRows n (pairAdd P v u)))]) := by
  have := s_AddEdge2_c n gv P v u w hr h1 hn hs hi hv hu hvu
  refine ⟨this.entry, this.out.mono fun e w' ⟨x, objs, he, ⟨sv', bb, hx, ho⟩, hc⟩ => ⟨x, objs, he, ⟨sv', bb, ?_, hx, ho⟩, hc⟩⟩
  subst ho
  exact stor_arr (arr_of_row (hc.holds _ (List.mem_singleton_self _)))
theorem s_l2PairNo_c (size : Int) (sv : Value) (rows : List Int) (v : Int) (w : World) (hr : Arr w sv (ints rows)) :
    Pure Try.prog 65 #[.agg #[.int .i64 size, sv], .int .i64 v, .int .i64 v] w (.bool false) := by
  refine pure_enter (args := [_, _, _]) en_s_l2Pair Try.func65 rfl Try.ntmps65 rfl ?_
  repeat' (first | apply pwp_seq | apply pwp_region | (apply px_run; (first | (apply opv_move; first | exact hid_int rfl | exact hid_bool rfl) | (apply opv_assign; first | exact hid_bool rfl) | (apply opv_lss <;> rfl) | (apply opv_geq <;> rfl) | (apply opv_neq <;> rfl) | (apply opv_pick_t <;> rfl) | (apply opv_pick_f <;> rfl) | (apply opv_field fld_G0; rfl) | (apply opv_load_blk 0; (first | with_reducible exact sc_int); rfl; rfl; rfl) | (apply opv_load_str 0 st_G; rfl; rfl; rfl) | (apply opv_call; rfl; rfl; exact Cl.stable _ _ _; exact fun w hw => s_IsGraph_c _ _ rows _ (by first | exact hw.arr (by assumption)))); rfl; rfl) | apply px_nil | (apply px_skip; rfl; rfl) | apply qseq_normal | apply pwp_ret | (apply px_guard_dec; rfl; rfl; rfl; all_goals (intro hc; try (first | contradiction))) | (apply px_box; rfl; rfl; rfl; rfl; intro bk))
  all_goals refine qbody_ret1 (v := .bool _) rfl rfl ⟨by first | rfl | (congr 1; simp_all), fun _ h => h.below⟩
theorem s_AddEdge4_c (n : Nat) (gv : Value) (P : Nat → Nat → Bool) (v u : Int) (w : World) (hr : Arr w gv (ints (gRows n P))) (h1 : 1 ≤ n) (hn : n ≤ 7) (hs : SymP P) (hi : IrrP P)
    (hv : 0 ≤ v ∧ v < n) (hu : 0 ≤ u ∧ u < n) :
    Gives Try.prog 50 #[.agg #[.int .i64 n, gv], .int .i64 v, .int .i64 u] w (fun x objs => ∃ sv' bb P', (SymP P' ∧ IrrP P') ∧ storable sv' = true ∧ x = .tuple #[.agg #[.int .i64 n, sv'], .bool bb] ∧ objs = [.row 3 sv' (ints (gRows n P'))]) := by
  obtain ⟨a, rfl⟩ : ∃ a : Nat, v = (a : Int) := ⟨v.toNat, by omega⟩
  obtain ⟨b, rfl⟩ : ∃ b : Nat, u = (b : Int) := ⟨u.toNat, by omega⟩
  by_cases hab : a = b
  case neg =>
    have := s_AddEdge3_c n gv P a b w hr h1 hn hs hi (by omega) (by omega) hab
    refine ⟨this.entry, this.out.mono fun e w' ⟨x, objs, he, ⟨sv', bb, h3, hx, ho⟩, hc⟩ => ⟨x, objs, he, ⟨sv', bb, pairAdd P a b, ⟨fun x y => ?_, fun x => ?_⟩, h3, hx, ho⟩, hc⟩⟩
    · unfold pairAdd
      rw [hs x y]
      congr 1
      rw [Bool.or_comm]
      congr 1
      · exact decide_eq_decide.2 ⟨fun h => ⟨h.2, h.1⟩, fun h => ⟨h.2, h.1⟩⟩
      · exact decide_eq_decide.2 ⟨fun h => ⟨h.2, h.1⟩, fun h => ⟨h.2, h.1⟩⟩
    · unfold pairAdd
      rw [hi x, decide_eq_false (fun h => hab (by omega)), decide_eq_false (fun h => hab (by omega))]; rfl
  subst hab
  have hlen : (gRows n P).length = n := gRows_length n P
  have key : Gives Try.prog 50 #[.agg #[.int .i64 n, gv], .int .i64 a, .int .i64 a] w (fun x objs => ∃ sv', x = .tuple #[.agg #[.int .i64 n, sv'], .bool false] ∧ objs = [.row 3 sv' (ints (gRows n P))]) := by
    refine gives_enter (args := [_, _, _]) en_s_AddEdge Try.func50 rfl Try.ntmps50 rfl ?_
    repeat' (first | apply pwp_seq | apply pwp_region | (apply px_run; (first | (apply opv_move; first | exact hid_int rfl | exact hid_bool rfl) | (apply opv_assign; first | exact hid_bool rfl) | (apply opv_pick_t <;> rfl) | (apply opv_not <;> rfl) | (apply opv_load_str 0 st_G; rfl; rfl; rfl) | (apply opv_load_str 1 st_G; rfl; rfl; rfl) | (apply opv_load_str 3 st_G; rfl; rfl; rfl) | (apply opv_call; rfl; rfl; exact Cl.stable _ _ _; exact fun w hw => s_l2PairNo_c _ _ (gRows n P) _ _ (by first | exact hw.arr (by assumption)))); rfl; rfl) | apply px_nil | (apply px_skip; rfl; rfl) | apply qseq_normal | apply qseq_ret | apply pwp_ret | (apply pwp_cond_t; rfl) | (apply px_box; rfl; rfl; rfl; rfl; intro bk) | (apply px_alloc st_G; rfl; rfl; rfl; intro bk) | (apply px_store_str 0 st_G; rfl; rfl; rfl; rfl; rfl; (intro w hw; (first | refine all2 rfl ?_ ?_) <;> (first | rfl | exact stor_row 1 hw rfl)); rfl) | (apply px_store_str 2 st_G; rfl; rfl; rfl; rfl; rfl; (intro w hw; (first | refine all2 rfl ?_ ?_) <;> (first | rfl | exact stor_row 1 hw rfl)); rfl) | (apply px_gives; rfl; rfl; rfl; rfl; rfl; exact fun w hw => s_l2Copy_c _ _ (gRows n P) _ (by first | exact hw.arr (by assumption)) (by omega); rintro _ _ ⟨sc, rfl, rfl⟩))
    refine qbody_cell_tmp 2 rfl st_G rfl rfl rfl rfl ⟨_, ⟨sc, rfl, rfl⟩, fun w' h => ?_⟩
    exact Cl.sub (by assumption) (by repeat (first | exact List.Sublist.slnil | exact List.Sublist.refl _ | apply List.Sublist.cons_cons | exact List.sublist_append_left _ _ | exact List.sublist_append_right _ _ | apply List.Sublist.cons))
  refine ⟨key.entry, key.out.mono fun e w' ⟨x, objs, he, ⟨sv', hx, ho⟩, hc⟩ => ⟨x, objs, he, ⟨sv', false, P, ⟨hs, hi⟩, ?_, hx, ho⟩, hc⟩⟩
  subst ho
  exact stor_arr (arr_of_row (hc.holds _ (List.mem_singleton_self _)))
end Go.Proofs.Yteopfbfcnggbbaa
