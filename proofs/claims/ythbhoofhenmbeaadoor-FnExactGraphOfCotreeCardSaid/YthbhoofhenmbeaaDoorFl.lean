/- Searches for a first list. -/
import Derived.Test.YthbhoofhenmbeaaDoorLj
import Derived.Test.YthbhoofhenmbeaaDoorSl
import Derived.Test.YthbhoofhenmbeaaDoorPwPfl
import Derived.Test.YthbhoofhenmbeaaDoorPwClos
namespace Go.Proofs.YthbhoofhenmbeaaDoor
open Go Go.RowKit Go.Pw
theorem en_i_always : Entry Tryd.prog 82 := ⟨_, Tryd.func82, by kernel_rfl, rfl⟩
theorem i_always_c (lv : Value) (w : World) : Pure Tryd.prog 82 #[lv] w (.bool true) := by
  refine pure_enter (args := [_]) en_i_always Tryd.func82 rfl Tryd.ntmps82 rfl ?_
  repeat' (first | apply pwp_seq | apply pwp_region | (apply px_run; (first | (apply opv_assign; first | exact hid_bool rfl)); rfl; rfl) | apply px_nil | apply qseq_normal | apply pwp_ret)
  refine qbody_ret1 (v := .bool _) rfl rfl ⟨rfl, fun _ h => h.below⟩
theorem en_i_firstList_1 : Entry Tryd.prog 87 := ⟨_, Tryd.func87, by kernel_rfl, rfl⟩
set_option maxHeartbeats 1600000 in
theorem i_search_c (size : Int) (N n : Nat) (gv : Value) (fh fm : FuncId) (ch cm : List Value) (may fin : List Int → Bool) (bn bh bg bm bs : Nat) (hN : size = N) (hN2 : N ≤ 1000) (hn : n ≤ 1000) (hn1 : 1 ≤ n) :
    ∀ (d : Nat) (l : List Int) (lv : Value) (w : World), l.length + d = n → Arr w lv (ints l) → Bk w bn [.int .i64 n] → Bk w bh [.func (.func fh) #[] ch.toArray] → Bk w bg [.int .i64 size, gv] → Bk w bm [.func (.func fm) #[] cm.toArray] →
      Bk w bs [.func (.func 87) #[] [.pointer (some ⟨bn, 0, none⟩), .pointer (some ⟨bh, 0, none⟩), .pointer (some ⟨bg, 0, none⟩), .pointer (some ⟨bm, 0, none⟩), .pointer (some ⟨bs, 0, none⟩)].toArray] →
      (∀ (x : List Int) xv w', Below w.heap.size w w' → Arr w' xv (ints x) → Pure Tryd.prog fm ([xv] ++ cm).toArray w' (.bool (may x))) →
      (∀ (x : List Int) xv w', Below w.heap.size w w' → Arr w' xv (ints x) → Pure Tryd.prog fh ([xv] ++ ch).toArray w' (.bool (fin x))) →
      Gives Tryd.prog 87 #[lv, .pointer (some ⟨bn, 0, none⟩), .pointer (some ⟨bh, 0, none⟩), .pointer (some ⟨bg, 0, none⟩), .pointer (some ⟨bm, 0, none⟩), .pointer (some ⟨bs, 0, none⟩)] w (FoundR 3 (firstG N (okI may) fin d l)) := by
  intro d
  induction d with
  | zero =>
    intro l lv w hl hv h1 h2 h3 h4 h5 hm hh
    refine gives_enter (args := [_, _, _, _, _, _]) en_i_firstList_1 Tryd.func87 rfl Tryd.ntmps87 rfl ?_
    have hln : (l.length : Int) = n := by omega
    unfold firstG
    repeat' (first | apply pwp_seq | apply pwp_region | (apply px_run; (first | (apply opv_move; first | rfl) | (apply opv_assign; first | rfl) | (apply opv_eql <;> rfl) | (apply opv_len_ints el_int; rfl; (first | exact rd_old (by assumption))) | (apply opv_callx; rfl; rfl; exact Cl.stable _ _ _; exact fun w hw => hh l _ _ hw.below (by first | exact hw.arr (by assumption))) | (apply opv_load_old; (first | with_reducible exact sc_int | with_reducible exact sc_fnB); rfl; assumption; rfl)); rfl; rfl) | apply px_nil | apply qseq_normal | apply qseq_ret | apply pwp_skip | apply pwp_ret | (apply pwp_cond_dec; rfl; all_goals (intro hc; try (first | contradiction))) | (apply pwp_cond; rfl; all_goals (intro hc; try (first | fail))) | (apply px_gives; rfl; rfl; rfl; rfl; rfl; exact fun w hw => x_Clone_c _ l _ (by first | exact hw.arr (by assumption)) (by omega); rintro _ _ rfl))
    · refine qbody_ret1 rfl rfl ⟨_, ?_, fun w' h => h⟩
      rw [if_pos (by assumption)]; rfl
    · refine qbody_ret1 (v := .slice none 0 0) rfl rfl ⟨[], ?_, fun w' h => h⟩
      rw [if_neg (by simp_all)]; exact ⟨rfl, rfl⟩
  | succ d ih =>
    intro l lv w hl hv h1 h2 h3 h4 h5 hm hh
    refine gives_enter (args := [_, _, _, _, _, _]) en_i_firstList_1 Tryd.func87 rfl Tryd.ntmps87 rfl ?_
    repeat' (first | apply pwp_seq | apply pwp_region | (apply px_run; (first | (apply opv_move; first | exact hid_int rfl | rfl) | (apply opv_assign; first | rfl) | (apply opv_eql <;> rfl) | (apply opv_field fld_G0; rfl) | (apply opv_len_ints el_int; rfl; (first | exact rd_old (by assumption))) | (apply opv_load_old; (first | with_reducible exact sc_int); rfl; assumption; rfl)); rfl; rfl) | apply px_nil | apply qseq_normal | apply pwp_block | apply pwp_skip | (apply pwp_cond_dec; rfl; all_goals (intro hc; try (first | (exfalso; omega)))))
    refine pwp_loop (τ := Nat) [(7,10), (22,49)] (fun k => [(22, .int .i64 (k : Int))]) (fun _ => Cl [] w []) (fun k => k ≤ N ∧ firstK N (okI may) fin d l k = none) (fun k => N - k) 0
      ⟨rfl, trivial⟩ ⟨Nat.zero_le _, rfl⟩ (fun _ h => h) (fun J k hk => ?_)
    obtain ⟨hk, hno⟩ := hk
    by_cases hlt : k < N
    · have ih1 : ∀ xv w', Below w.heap.size w w' → Arr w' xv (ints (l ++ [(k : Int)])) → Gives Tryd.prog 87 #[xv, .pointer (some ⟨bn, 0, none⟩), .pointer (some ⟨bh, 0, none⟩), .pointer (some ⟨bg, 0, none⟩), .pointer (some ⟨bm, 0, none⟩), .pointer (some ⟨bs, 0, none⟩)] w' (FoundR 3 (firstG N (okI may) fin d (l ++ [(k : Int)]))) :=
        fun xv w' hb hx => ih (l ++ [(k : Int)]) xv w' (by simp; omega) hx (h1.below hb) (h2.below hb) (h3.below hb) (h4.below hb) (h5.below hb) (fun x xv w2 hb2 => hm x xv w2 (below_comp hb hb2)) (fun x xv w2 hb2 => hh x xv w2 (below_comp hb hb2))
      cases hf : firstG N (okI may) fin d (l ++ [(k : Int)]) with
      | none =>
        rw [hf] at ih1
        repeat' (first | apply pwp_seq | apply pwp_region | (apply px_run; (first | (apply opv_move; first | exact hid_int rfl | exact hid_bool rfl | rfl) | (apply opv_assign; first | exact hid_int rfl | rfl) | (apply opv_lss <;> rfl) | (apply opv_pick_t <;> rfl) | (apply opv_pick_f <;> rfl) | (apply opv_not_dec <;> rfl) | (apply opv_add_in; rfl; rfl; omega) | (apply opv_len_ints el_int; rfl; (first | exact rd_old (by assumption))) | (apply opv_full el_int; rfl; rfl; rfl; (first | exact rd_old (by assumption)); (simp only [ints_length])) | (apply opv_neq_nil_f el_int; rfl; rfl; rfl) | (apply opv_callx; rfl; rfl; exact Cl.stable _ _ _; exact fun w hw => hm (l ++ [(k : Int)]) _ _ hw.below (by first | exact hw.rowArr (k := 0) rfl)) | (apply opv_load_old; (first | with_reducible exact sc_fnB | with_reducible exact sc_fnS); rfl; assumption; rfl) | (apply opv_call; rfl; rfl; exact Cl.stable _ _ _; exact fun w hw => x_Contains_c _ l _ _ (by first | exact hw.arr (by assumption)))); rfl; rfl) | apply px_nil | (apply px_skip; rfl; rfl) | apply qseq_normal | apply pwp_block | apply qblock_normal | apply pwp_skip | (apply pwp_cond_f; rfl) | (apply px_guard_ndec; rfl; rfl; rfl; all_goals (intro hc; try (first | fail))) | (apply pwp_cond_dec; rfl; all_goals (intro hc; try (first | (exfalso; omega)))) | (apply pwp_cond; rfl; all_goals (intro hc; try (first | fail))) | (apply px_lit1 ez_int; rfl; (intro w hw; (first | rfl)); rfl; rfl; rfl; intro sv) | (apply px_append_full1 ez_int; rfl; rfl; (first | exact rd_old (by assumption)); (first | exact rd_row 0 rfl); omega; decide; rfl; rfl; rfl; intro sv) | (apply px_givesx; rfl; rfl; rfl; rfl; rfl; exact fun w hw => ih1 _ _ hw.below (by first | exact hw.rowArr (k := 0) rfl); rintro _ _ ⟨rfl, rfl⟩))
        all_goals
          refine qround_normal ?_ ⟨k + 1, ⟨rfl, trivial⟩, ⟨by omega, firstK_miss hno fun _ => hf⟩, by omega, fun w' h => h.sub (List.nil_sublist _)⟩
          repeat (first | exact same_refl | refine same_upd rfl ?_ | refine same_junk rfl ?_)
      | some L =>
        rw [hf] at ih1
        have hLl := firstG_len _ _ _ hf
        have hL0 : 0 < L.length := by simp at hLl; omega
        repeat' (first | apply pwp_seq | apply pwp_region | (apply px_run; (first | (apply opv_move; first | exact hid_int rfl | exact hid_bool rfl | rfl) | (apply opv_assign; first | exact hid_int rfl | rfl) | (apply opv_lss <;> rfl) | (apply opv_pick_t <;> rfl) | (apply opv_pick_f <;> rfl) | (apply opv_not_dec <;> rfl) | (apply opv_add_in; rfl; rfl; omega) | (apply opv_len_ints el_int; rfl; (first | exact rd_old (by assumption))) | (apply opv_full el_int; rfl; rfl; rfl; (first | exact rd_old (by assumption)); (simp only [ints_length])) | (apply opv_neq_nil_t el_int; rfl; rfl; (first | exact rd_row 0 rfl); (simp only [ints_length]; omega)) | (apply opv_callx; rfl; rfl; exact Cl.stable _ _ _; exact fun w hw => hm (l ++ [(k : Int)]) _ _ hw.below (by first | exact hw.rowArr (k := 0) rfl)) | (apply opv_load_old; (first | with_reducible exact sc_fnB | with_reducible exact sc_fnS); rfl; assumption; rfl) | (apply opv_call; rfl; rfl; exact Cl.stable _ _ _; exact fun w hw => x_Contains_c _ l _ _ (by first | exact hw.arr (by assumption)))); rfl; rfl) | apply px_nil | (apply px_skip; rfl; rfl) | apply qseq_normal | apply qseq_ret | apply pwp_block | apply qblock_normal | apply qblock_ret | apply pwp_skip | apply pwp_ret | apply qround_ret | (apply pwp_cond_t; rfl) | (apply pwp_cond_f; rfl) | (apply px_guard_ndec; rfl; rfl; rfl; all_goals (intro hc; try (first | fail))) | (apply pwp_cond_dec; rfl; all_goals (intro hc; try (first | (exfalso; omega)))) | (apply pwp_cond; rfl; all_goals (intro hc; try (first | fail))) | (apply px_lit1 ez_int; rfl; (intro w hw; (first | rfl)); rfl; rfl; rfl; intro sv) | (apply px_append_full1 ez_int; rfl; rfl; (first | exact rd_old (by assumption)); (first | exact rd_row 0 rfl); omega; decide; rfl; rfl; rfl; intro sv) | (apply px_givesx; rfl; rfl; rfl; rfl; rfl; exact fun w hw => ih1 _ _ hw.below (by first | exact hw.rowArr (k := 0) rfl); rintro sr _ rfl))
        all_goals first
          | (refine qround_normal ?_ ⟨k + 1, ⟨rfl, trivial⟩, ⟨by omega, firstK_miss hno fun h => by simp_all [okI]⟩, by omega, fun w' h => h.sub (List.nil_sublist _)⟩
             repeat (first | exact same_refl | refine same_upd rfl ?_ | refine same_junk rfl ?_))
          | (refine qbody_ret1 (v := sr) rfl rfl ⟨[.row 3 sr (ints L)], ?_, fun w' h => ?_⟩
             · rw [firstK_hit hlt hno (by simp_all [okI]) hf]; rfl
             · exact Cl.sub (by assumption) (by repeat (first | exact List.Sublist.slnil | exact List.Sublist.refl _ | apply List.Sublist.cons_cons | exact List.sublist_append_left _ _ | exact List.sublist_append_right _ _ | apply List.Sublist.cons)))
    · obtain rfl : k = N := by omega
      repeat' (first | apply pwp_seq | apply pwp_region | (apply px_run; (first | (apply opv_assign; first | rfl) | (apply opv_lss <;> rfl)); rfl; rfl) | apply px_nil | apply qseq_normal | apply qseq_exit | (apply qblock_exit_same; rfl) | apply pwp_exit | apply pwp_ret | apply qround_exit | (apply pwp_cond_dec; rfl; all_goals (intro hc; try (first | (exfalso; omega)))))
      refine qbody_ret1 (v := .slice none 0 0) rfl rfl ⟨[], ?_, fun w' h => h⟩
      rw [firstG_all, hno]; exact ⟨rfl, rfl⟩
theorem en_i_firstList : Entry Tryd.prog 79 := ⟨_, Tryd.func79, by kernel_rfl, rfl⟩
set_option maxHeartbeats 1000000 in
theorem i_firstList_c (size : Int) (n : Nat) (gv : Value) (rows : List Int) (fm fh : FuncId) (cm ch : List Value) (may fin : List Int → Bool) (w : World) (hr : Arr w gv (ints rows)) (hn : n ≤ 1000) (hn1 : 1 ≤ n)
    (hm : ∀ (x : List Int) xv w', Below w.heap.size w w' → Arr w' xv (ints x) → Pure Tryd.prog fm ([xv] ++ cm).toArray w' (.bool (may x)))
    (hh : ∀ (x : List Int) xv w', Below w.heap.size w w' → Arr w' xv (ints x) → Pure Tryd.prog fh ([xv] ++ ch).toArray w' (.bool (fin x))) :
    Gives Tryd.prog 79 #[.agg #[.int .i64 size, gv], .int .i64 n, .func (.func fm) #[] cm.toArray, .func (.func fh) #[] ch.toArray] w
      (fun v objs => ∃ sv, v = .tuple #[sv, .bool (firstX size rows may fin n).isSome] ∧ objs = [.row 3 sv (ints ((firstX size rows may fin n).getD []))]) := by
  refine gives_enter (args := [_, _, _, _]) en_i_firstList Tryd.func79 rfl Tryd.ntmps79 rfl ?_
  by_cases hg : IsG size rows
  case neg =>
    have hx : firstX size rows may fin n = none := by unfold firstX; rw [if_neg hg]
    repeat' (first | apply pwp_seq | apply pwp_region | (apply px_run; (first | (apply opv_assign; first | exact hid_bool rfl | rfl) | (apply opv_not_dec <;> rfl) | (apply opv_load_str 4 st_G; rfl; rfl; rfl) | (apply opv_make_func; rfl) | (apply opv_call; rfl; rfl; exact Cl.stable _ _ _; exact fun w hw => i_IsGraph_c _ _ rows _ (by first | exact hw.arr (by assumption)))); rfl; rfl) | apply px_nil | apply qseq_normal | apply qseq_ret | apply pwp_ret | (apply pwp_cond_ndec; rfl; all_goals (intro hc; try (first | contradiction))) | (apply px_box; rfl; rfl; rfl; rfl; intro bk) | (apply px_box1; rfl; (intro w hw; (first | rfl)); rfl; rfl; rfl; intro bk) | (apply px_allocz zi_fnS; rfl; rfl; rfl; rfl; intro bk) | (apply px_store_blk 0; (with_reducible exact co_fnS); rfl; rfl; rfl; (intro w hw; (first | rfl)); rfl; rfl))
    refine qbody_ret2 rfl rfl rfl ⟨_, ⟨_, by rw [hx]; rfl, rfl⟩, fun w' h => ?_⟩
    rw [hx]
    exact (h.sub (List.nil_sublist _)).nilRow _
  obtain ⟨N, hN, _, _, hN7⟩ := isG_size hg
  have hx : firstX size rows may fin n = firstG N (okI may) fin n [] := by unfold firstX; rw [if_pos hg]; congr 1; omega
  have key := fun (bn bh bg bm bs : Nat) => i_search_c size N n gv fh fm ch cm may fin bn bh bg bm bs hN (by omega) hn hn1 n []
  rw [hx]
  cases hf : firstG N (okI may) fin n [] with
  | none =>
    simp only [hf] at key
    repeat' (first | apply pwp_seq | apply pwp_region | (apply px_run; (first | (apply opv_move; first | rfl) | (apply opv_assign; first | exact hid_bool rfl | rfl) | (apply opv_not_dec <;> rfl) | (apply opv_load_blk 0; (first | with_reducible exact sc_fnS); rfl; rfl; rfl) | (apply opv_load_str 4 st_G; rfl; rfl; rfl) | (apply opv_neq_nil_f el_int; rfl; rfl; rfl) | (apply opv_make_func; rfl) | (apply opv_call; rfl; rfl; exact Cl.stable _ _ _; exact fun w hw => i_IsGraph_c _ _ rows _ (by first | exact hw.arr (by assumption)))); rfl; rfl) | apply px_nil | apply qseq_normal | apply pwp_skip | apply pwp_ret | (apply pwp_cond_ndec; rfl; all_goals (intro hc; try (first | contradiction))) | (apply px_box; rfl; rfl; rfl; rfl; intro bk) | (apply px_box1; rfl; (intro w hw; (first | rfl)); rfl; rfl; rfl; intro bk) | (apply px_allocz zi_fnS; rfl; rfl; rfl; rfl; intro bk) | (apply px_store_blk 0; (with_reducible exact co_fnS); rfl; rfl; rfl; (intro w hw; (first | rfl)); rfl; rfl) | (apply px_givesx; rfl; rfl; rfl; rfl; rfl; exact fun w hw => key _ _ _ _ _ _ _ (by simp) (arr_nil _) (hw.bk (k := 3) rfl) (hw.bk (k := 1) rfl) (hw.bk (k := 4) rfl) (hw.bk (k := 2) rfl) (hw.bk (k := 0) rfl) (fun x xv w' hb => hm x xv w' (below_comp hw.below hb)) (fun x xv w' hb => hh x xv w' (below_comp hw.below hb)); rintro _ _ ⟨rfl, rfl⟩))
    refine qbody_ret2 rfl rfl rfl ⟨_, ⟨_, rfl, rfl⟩, fun w' h => ?_⟩
    exact (h.sub (List.nil_sublist _)).nilRow _
  | some L =>
    simp only [hf] at key
    have hLl := firstG_len _ _ _ hf
    have hL0 : 0 < L.length := by simp at hLl; omega
    repeat' (first | apply pwp_seq | apply pwp_region | (apply px_run; (first | (apply opv_move; first | rfl) | (apply opv_assign; first | exact hid_bool rfl | rfl) | (apply opv_not_dec <;> rfl) | (apply opv_load_blk 0; (first | with_reducible exact sc_fnS); rfl; rfl; rfl) | (apply opv_load_str 4 st_G; rfl; rfl; rfl) | (apply opv_neq_nil_t el_int; rfl; rfl; (first | exact rd_row 0 rfl); (simp only [ints_length]; omega)) | (apply opv_make_func; rfl) | (apply opv_call; rfl; rfl; exact Cl.stable _ _ _; exact fun w hw => i_IsGraph_c _ _ rows _ (by first | exact hw.arr (by assumption)))); rfl; rfl) | apply px_nil | apply qseq_normal | apply pwp_skip | apply pwp_ret | (apply pwp_cond_ndec; rfl; all_goals (intro hc; try (first | contradiction))) | (apply px_box; rfl; rfl; rfl; rfl; intro bk) | (apply px_box1; rfl; (intro w hw; (first | rfl)); rfl; rfl; rfl; intro bk) | (apply px_allocz zi_fnS; rfl; rfl; rfl; rfl; intro bk) | (apply px_store_blk 0; (with_reducible exact co_fnS); rfl; rfl; rfl; (intro w hw; (first | rfl)); rfl; rfl) | (apply px_givesx; rfl; rfl; rfl; rfl; rfl; exact fun w hw => key _ _ _ _ _ _ _ (by simp) (arr_nil _) (hw.bk (k := 3) rfl) (hw.bk (k := 1) rfl) (hw.bk (k := 4) rfl) (hw.bk (k := 2) rfl) (hw.bk (k := 0) rfl) (fun x xv w' hb => hm x xv w' (below_comp hw.below hb)) (fun x xv w' hb => hh x xv w' (below_comp hw.below hb)); rintro sr _ rfl))
    refine qbody_ret2 rfl rfl rfl ⟨_, ⟨_, rfl, rfl⟩, fun w' h => ?_⟩
    exact Cl.sub (by assumption) (by repeat (first | exact List.Sublist.slnil | exact List.Sublist.refl _ | apply List.Sublist.cons_cons | exact List.sublist_append_left _ _ | exact List.sublist_append_right _ _ | apply List.Sublist.cons))
theorem en_i_FindInducedPath_1 : Entry Tryd.prog 80 := ⟨_, Tryd.func80, by kernel_rfl, rfl⟩
theorem i_FindInducedPath_1_c (size : Int) (gv lv : Value) (rows l : List Int) (bg : Nat) (w : World) (hr : Arr w gv (ints rows)) (hv : Arr w lv (ints l)) (hb : Bk w bg [.int .i64 size, gv]) :
    Pure Tryd.prog 80 #[lv, .pointer (some ⟨bg, 0, none⟩)] w (.bool (decide (pathP size rows l))) := by
  refine pure_enter (args := [_, _]) en_i_FindInducedPath_1 Tryd.func80 rfl Tryd.ntmps80 rfl ?_
  repeat' (first | apply pwp_seq | apply pwp_region | (apply px_run; (first | (apply opv_move; first | rfl) | (apply opv_assign; first | exact hid_bool rfl) | (apply opv_load_old_str st_G; rfl; assumption; rfl) | (apply opv_call; rfl; rfl; exact Cl.stable _ _ _; exact fun w hw => i_IsInducedPath_c _ _ _ rows l _ (by first | exact hw.arr (by assumption)) (by first | exact hw.arr (by assumption)))); rfl; rfl) | apply px_nil | apply qseq_normal | apply pwp_ret)
  refine qbody_ret1 (v := .bool _) rfl rfl ⟨rfl, fun _ h => h.below⟩
theorem en_i_FindInducedPath : Entry Tryd.prog 69 := ⟨_, Tryd.func69, by kernel_rfl, rfl⟩
set_option maxHeartbeats 1000000 in
theorem i_FindInducedPath_c (size n : Int) (gv : Value) (rows : List Int) (w : World) (hr : Arr w gv (ints rows)) (hn7 : n ≤ 7) :
    Gives Tryd.prog 69 #[.agg #[.int .i64 size, gv], .int .i64 n] w (fun v objs => ∃ sv, v = .tuple #[sv, .bool (pathX size rows n).isSome] ∧ objs = [.row 3 sv (ints ((pathX size rows n).getD []))]) := by
  refine gives_enter (args := [_, _]) en_i_FindInducedPath Tryd.func69 rfl Tryd.ntmps69 rfl ?_
  by_cases h1 : 1 ≤ n ∧ n ≤ size
  case neg =>
    have hx : pathX size rows n = none := by unfold pathX; rw [if_neg fun h => h1 h.2]
    repeat' (first | apply pwp_seq | apply pwp_region | (apply px_run; (first | (apply opv_move; first | exact hid_int rfl) | (apply opv_assign; first | exact hid_bool rfl | rfl) | (apply opv_not_dec <;> rfl) | (apply opv_field fld_G0; rfl) | (apply opv_load_blk 0; (first | with_reducible exact sc_int); rfl; rfl; rfl) | (apply opv_call; rfl; rfl; exact Cl.stable _ _ _; exact fun w hw => i_within_c _ _ _ _)); rfl; rfl) | apply px_nil | apply qseq_normal | apply qseq_ret | apply pwp_ret | (apply pwp_cond_ndec; rfl; all_goals (intro hc; try (first | contradiction))) | (apply px_box; rfl; rfl; rfl; rfl; intro bk))
    refine qbody_ret2 rfl rfl rfl ⟨_, ⟨_, by rw [hx]; rfl, rfl⟩, fun w' h => ?_⟩
    rw [hx]
    exact (h.sub (List.nil_sublist _)).nilRow _
  have e := path_firstX (rows := rows) h1
  rw [← e]
  obtain ⟨m, rfl⟩ : ∃ m : Nat, n = m := ⟨n.toNat, by omega⟩
  rw [Int.toNat_natCast]
  repeat' (first | apply pwp_seq | apply pwp_region | (apply px_run; (first | (apply opv_move; first | exact hid_int rfl) | (apply opv_assign; first | exact hid_bool rfl | rfl) | (apply opv_not_dec <;> rfl) | (apply opv_field fld_G0; rfl) | (apply opv_load_blk 0; (first | with_reducible exact sc_int); rfl; rfl; rfl) | (apply opv_load_str 0 st_G; rfl; rfl; rfl) | (apply opv_extract; rfl; rfl) | (apply opv_make_func; rfl) | (apply opv_call; rfl; rfl; exact Cl.stable _ _ _; exact fun w hw => i_within_c _ _ _ _)); rfl; rfl) | apply px_nil | apply qseq_normal | apply pwp_skip | apply pwp_ret | (apply pwp_cond_ndec; rfl; all_goals (intro hc; try (first | contradiction))) | (apply px_box; rfl; rfl; rfl; rfl; intro bk) | (apply px_gives; rfl; rfl; rfl; rfl; rfl; exact fun w hw => i_firstList_c _ m _ rows _ _ _ [] (fun x => decide (pathP size rows x)) (fun _ => true) _ (by first | exact hw.arr (by assumption)) (by omega) (by omega) (fun x xv w' hb hx => i_FindInducedPath_1_c _ _ _ rows x _ _ (Arr.below (by first | exact hw.arr (by assumption)) hb) hx (Bk.below (hw.bk (k := 0) rfl) hb)) (fun x xv w' hb hx => i_always_c _ _); rintro _ _ ⟨sr, rfl, rfl⟩))
  refine qbody_ret2 rfl rfl rfl ⟨_, ⟨_, rfl, rfl⟩, fun w' h => ?_⟩
  exact Cl.sub (by assumption) (by repeat (first | exact List.Sublist.slnil | exact List.Sublist.refl _ | apply List.Sublist.cons_cons | exact List.sublist_append_left _ _ | exact List.sublist_append_right _ _ | apply List.Sublist.cons))
theorem en_i_FindPathOfFour : Entry Tryd.prog 56 := ⟨_, Tryd.func56, by kernel_rfl, rfl⟩
theorem i_FindPathOfFour_c (size : Int) (gv : Value) (rows : List Int) (w : World) (hr : Arr w gv (ints rows)) :
    Gives Tryd.prog 56 #[.agg #[.int .i64 size, gv]] w (fun v objs => ∃ sv, v = .tuple #[sv, .bool (pathX size rows 4).isSome] ∧ objs = [.row 3 sv (ints ((pathX size rows 4).getD []))]) := by
  refine gives_enter (args := [_]) en_i_FindPathOfFour Tryd.func56 rfl Tryd.ntmps56 rfl ?_
  repeat' (first | apply pwp_seq | apply pwp_region | (apply px_run; (first | (apply opv_assign; first | exact hid_bool rfl | rfl) | (apply opv_load_str 0 st_G; rfl; rfl; rfl) | (apply opv_extract; rfl; rfl)); rfl; rfl) | apply px_nil | apply qseq_normal | apply pwp_ret | (apply px_box; rfl; rfl; rfl; rfl; intro bk) | (apply px_gives; rfl; rfl; rfl; rfl; rfl; exact fun w hw => i_FindInducedPath_c _ 4 _ rows _ (by first | exact hw.arr (by assumption)) (by omega); rintro _ _ ⟨sr, rfl, rfl⟩))
  refine qbody_ret2 rfl rfl rfl ⟨_, ⟨_, rfl, rfl⟩, fun w' h => ?_⟩
  exact Cl.sub (by assumption) (by repeat (first | exact List.Sublist.slnil | exact List.Sublist.refl _ | apply List.Sublist.cons_cons | exact List.sublist_append_left _ _ | exact List.sublist_append_right _ _ | apply List.Sublist.cons))
theorem en_i_IsCograph : Entry Tryd.prog 31 := ⟨_, Tryd.func31, by kernel_rfl, rfl⟩
theorem i_IsCograph_c (size : Int) (gv : Value) (rows : List Int) (w : World) (hr : Arr w gv (ints rows)) :
    Pure Tryd.prog 31 #[.agg #[.int .i64 size, gv]] w (.bool (decide (IsG size rows ∧ pathX size rows 4 = none))) := by
  refine pure_enter (args := [_]) en_i_IsCograph Tryd.func31 rfl Tryd.ntmps31 rfl ?_
  repeat' (first | apply pwp_seq | apply pwp_region | (apply px_run; (first | (apply opv_move; first | exact hid_bool rfl | rfl) | (apply opv_assign; first | exact hid_bool rfl | rfl) | (apply opv_pick_t <;> rfl) | (apply opv_pick_f <;> rfl) | (apply opv_not <;> rfl) | (apply opv_load_str 0 st_G; rfl; rfl; rfl) | (apply opv_load_str 1 st_G; rfl; rfl; rfl) | (apply opv_extract; rfl; rfl) | (apply opv_call; rfl; rfl; exact Cl.stable _ _ _; exact fun w hw => i_IsGraph_c _ _ rows _ (by first | exact hw.arr (by assumption)))); rfl; rfl) | apply px_nil | (apply px_skip; rfl; rfl) | apply qseq_normal | apply pwp_ret | (apply px_guard_dec; rfl; rfl; rfl; all_goals (intro hc; try (first | fail))) | (apply px_box; rfl; rfl; rfl; rfl; intro bk) | (apply px_gives; rfl; rfl; rfl; rfl; rfl; exact fun w hw => i_FindPathOfFour_c _ _ rows _ (by first | exact hw.arr (by assumption)); rintro _ _ ⟨sr, rfl, rfl⟩))
  all_goals (refine qbody_ret1 (v := .bool _) rfl rfl ⟨by cases h : pathX size rows 4 <;> simp_all, fun _ h => h.below⟩)
theorem en_s_l4Search : Entry Tryd.prog 77 := ⟨_, Tryd.func77, by kernel_rfl, rfl⟩
theorem s_l4Search0_c (size : Int) (gv lv : Value) (rows l : List Int) (n : Nat) (closed : Bool) (w : World) (hr : Arr w gv (ints rows)) (hv : Arr w lv (ints l)) (hl : l.length = n) :
    Pure Tryd.prog 77 #[.agg #[.int .i64 size, gv], lv, .int .i64 n, .bool closed] w (.tuple #[lv, .bool (finS (fun x => decide (holeP size rows x)) closed l)]) := by
  refine pure_enter (args := [_, _, _, _]) en_s_l4Search Tryd.func77 rfl Tryd.ntmps77 rfl ?_
  have hln : (l.length : Int) = n := by omega
  unfold finS
  repeat' (first | apply pwp_seq | apply pwp_region | (apply px_run; (first | (apply opv_move; first | exact hid_int rfl | exact hid_bool rfl | rfl) | (apply opv_assign; first | exact hid_bool rfl | rfl) | (apply opv_eql <;> rfl) | (apply opv_len_ints el_int; rfl; (first | exact rd_old (by assumption))) | (apply opv_load_str 0 st_G; rfl; rfl; rfl) | (apply opv_call; rfl; rfl; exact Cl.stable _ _ _; exact fun w hw => s_IsHole_c _ _ _ rows l _ (by first | exact hw.arr (by assumption)) (by first | exact hw.arr (by assumption)))); rfl; rfl) | apply px_nil | apply qseq_normal | apply qseq_ret | apply pwp_skip | apply pwp_ret | (apply pwp_cond_dec; rfl; all_goals (intro hc; try (first | contradiction))) | (apply pwp_cond; rfl; all_goals (intro hc; try (first | fail))) | (apply px_box; rfl; rfl; rfl; rfl; intro bk))
  all_goals first
    | exact absurd hln (by assumption)
    | (refine qbody_ret2 (v := lv) (v' := .bool _) rfl rfl rfl ⟨by simp_all, fun _ h => h.below⟩)
set_option maxHeartbeats 1600000 in
theorem s_l4Search_c (size : Int) (N n : Nat) (gv : Value) (rows : List Int) (closed : Bool) (hN : size = N) (hN2 : N ≤ 1000) (hn : n ≤ 1000) :
    ∀ (d : Nat) (l : List Int) (lv : Value) (w : World), l.length + (d + 1) = n → Arr w gv (ints rows) → Arr w lv (ints l) →
      Gives Tryd.prog 77 #[.agg #[.int .i64 size, gv], lv, .int .i64 n, .bool closed] w (fun v objs => ∃ sv, v = .tuple #[sv, .bool (firstG N (okR (fun x => decide (pathP size rows x)) (fun x => decide (holeP size rows x)) n closed) (finS (fun x => decide (holeP size rows x)) closed) (d + 1) l).isSome] ∧
        objs = [.row 3 sv (ints ((firstG N (okR (fun x => decide (pathP size rows x)) (fun x => decide (holeP size rows x)) n closed) (finS (fun x => decide (holeP size rows x)) closed) (d + 1) l).getD []))]) := by
  intro d
  induction d with
  | zero =>
    intro l lv w hl hr hv
    refine gives_enter (args := [_, _, _, _]) en_s_l4Search Tryd.func77 rfl Tryd.ntmps77 rfl ?_
    generalize hok : okR (fun x => decide (pathP size rows x)) (fun x => decide (holeP size rows x)) n closed = ok
    generalize hfn : finS (fun x => decide (holeP size rows x)) closed = fin
    repeat' (first | apply pwp_seq | apply pwp_region | (apply px_run; (first | (apply opv_move; first | exact hid_int rfl | rfl) | (apply opv_assign; first | exact hid_int rfl | exact hid_bool rfl | rfl) | (apply opv_eql <;> rfl) | (apply opv_len_ints el_int; rfl; (first | exact rd_old (by assumption)))); rfl; rfl) | apply px_nil | apply qseq_normal | apply pwp_block | apply pwp_skip | (apply pwp_cond_dec; rfl; all_goals (intro hc; try (first | (exfalso; omega)))) | (apply px_box; rfl; rfl; rfl; rfl; intro bk))
    refine pwp_loop (τ := Nat) [(8,13), (24,62)] (fun k => [(10, .int .i64 (k : Int))]) (fun _ => Cl [] w [.blk bk [.int .i64 size, gv]]) (fun k => k ≤ N ∧ firstK N ok fin 0 l k = none) (fun k => N - k) 0
      ⟨rfl, trivial⟩ ⟨Nat.zero_le _, rfl⟩ (fun _ h => h) (fun J k hk => ?_)
    obtain ⟨hk, hno⟩ := hk
    by_cases hlt : k < N
    · have hlen : (l ++ [(k : Int)]).length = n := by simp; omega
      have hf : firstG N ok fin 0 (l ++ [(k : Int)]) = if fin (l ++ [(k : Int)]) = true then some (l ++ [(k : Int)]) else none := rfl
      have hko : ok l (k : Int) = (decide (pathP size rows (l ++ [(k : Int)])) || (closed && decide (holeP size rows (l ++ [(k : Int)])))) := by
        rw [← hok]; unfold okR; rw [decide_eq_true (show l.length + 1 = n by omega), Bool.and_true]
      have hfx : fin (l ++ [(k : Int)]) = if closed = true then decide (holeP size rows (l ++ [(k : Int)])) else true := by rw [← hfn]; rfl
      cases closed
      all_goals
        repeat' (first | apply pwp_seq | apply pwp_region | (apply px_run; (first | (apply opv_move; first | exact hid_int rfl | exact hid_bool rfl | rfl) | (apply opv_assign; first | exact hid_int rfl | exact hid_bool rfl | rfl) | (apply opv_lss <;> rfl) | (apply opv_eql <;> rfl) | (apply opv_pick_t <;> rfl) | (apply opv_pick_f <;> rfl) | (apply opv_add_in; rfl; rfl; omega) | (apply opv_field fld_G0; rfl) | (apply opv_load_blk 0; (first | with_reducible exact sc_int); rfl; rfl; rfl) | (apply opv_len_ints el_int; rfl; (first | exact rd_row 1 rfl)) | (apply opv_load_str 2 st_G; rfl; rfl; rfl) | (apply opv_extract; rfl; rfl) | (apply opv_call; rfl; rfl; exact Cl.stable _ _ _; exact fun w hw => s_IsInducedPath_c _ _ _ rows (l ++ [(k : Int)]) _ (by first | exact hw.arr (by assumption)) (by first | exact hw.rowArr (k := 1) rfl)) | (apply opv_call; rfl; rfl; exact Cl.stable _ _ _; exact fun w hw => s_IsHole_c _ _ _ rows (l ++ [(k : Int)]) _ (by first | exact hw.arr (by assumption)) (by first | exact hw.rowArr (k := 1) rfl)) | (apply opv_call; rfl; rfl; exact Cl.stable _ _ _; exact fun w hw => s_l4Search0_c _ _ _ rows (l ++ [(k : Int)]) n _ _ (by first | exact hw.arr (by assumption)) (by first | exact hw.rowArr (k := 1) rfl) hlen)); rfl; rfl) | apply px_nil | (apply px_skip; rfl; rfl) | apply qseq_normal | apply qseq_ret | apply pwp_block | apply qblock_normal | apply qblock_ret | apply pwp_skip | apply pwp_ret | apply qround_ret | (apply pwp_cond_t; rfl) | (apply pwp_cond_f; rfl) | (apply px_guard_dec; rfl; rfl; rfl; all_goals (intro hc; try (first | fail))) | (apply pwp_cond_dec; rfl; all_goals (intro hc; try (first | contradiction | (exfalso; omega)))) | (apply px_lit0i ez_int; rfl; rfl; rfl; intro sv) | (apply px_lit1 ez_int; rfl; (intro w hw; (first | rfl)); rfl; rfl; rfl; intro sv) | (apply px_append_ints 0 ez_int; rfl; rfl; rfl; (first | exact rd_old (by assumption)); (first | (focus (simp; omega))); decide; rfl; rfl; intro sv) | (apply px_append_int1 1 ez_int; rfl; rfl; rfl; (first | exact rd_row 0 rfl); (first | (focus (simp; omega))); decide; rfl; rfl; intro sv))
        all_goals first
          | (refine qround_normal ?_ ⟨k + 1, ⟨rfl, trivial⟩, ⟨by omega, firstK_miss hno fun h => by simp_all [finS]⟩, by omega, fun w' h => by exact Cl.sub (by assumption) (by repeat (first | exact List.Sublist.slnil | exact List.Sublist.refl _ | apply List.Sublist.cons_cons | exact List.sublist_append_left _ _ | exact List.sublist_append_right _ _ | apply List.Sublist.cons))⟩
             repeat (first | exact same_refl | refine same_upd rfl ?_ | refine same_junk rfl ?_))
          | (have hit := firstK_hit hlt hno (show ok l (k : Int) = true by simp_all [finS]) (hf.trans (if_pos (by simp_all [finS])))
             rw [hit]
             refine qbody_ret2 (v := sv) (v' := .bool true) rfl rfl rfl ⟨[.row 3 sv (ints (l ++ [(k : Int)]))], ⟨sv, rfl, rfl⟩, fun w' h => ?_⟩
             exact Cl.sub (by assumption) (by repeat (first | exact List.Sublist.slnil | exact List.Sublist.refl _ | apply List.Sublist.cons_cons | exact List.sublist_append_left _ _ | exact List.sublist_append_right _ _ | apply List.Sublist.cons)))
    · obtain rfl : k = N := by omega
      repeat' (first | apply pwp_seq | apply pwp_region | (apply px_run; (first | (apply opv_move; first | exact hid_int rfl) | (apply opv_assign; first | exact hid_bool rfl | rfl) | (apply opv_lss <;> rfl) | (apply opv_field fld_G0; rfl) | (apply opv_load_blk 0; (first | with_reducible exact sc_int); rfl; rfl; rfl)); rfl; rfl) | apply px_nil | apply qseq_normal | apply qseq_exit | (apply qblock_exit_same; rfl) | apply pwp_exit | apply pwp_ret | apply qround_exit | (apply pwp_cond_dec; rfl; all_goals (intro hc; try (first | (exfalso; omega)))) | (apply px_lit0 ez_int; rfl; rfl; rfl; intro sv))
      refine qbody_ret2 rfl rfl rfl ⟨_, ⟨_, by rw [firstG_all, hno]; rfl, rfl⟩, fun w' h => ?_⟩
      rw [firstG_all, hno]
      exact Cl.sub (by assumption) (by repeat (first | exact List.Sublist.slnil | exact List.Sublist.refl _ | apply List.Sublist.cons_cons | exact List.sublist_append_left _ _ | exact List.sublist_append_right _ _ | apply List.Sublist.cons))
  | succ d ih =>
    intro l lv w hl hr hv
    refine gives_enter (args := [_, _, _, _]) en_s_l4Search Tryd.func77 rfl Tryd.ntmps77 rfl ?_
    generalize hok : okR (fun x => decide (pathP size rows x)) (fun x => decide (holeP size rows x)) n closed = ok at ih ⊢
    generalize hfn : finS (fun x => decide (holeP size rows x)) closed = fin at ih ⊢
    repeat' (first | apply pwp_seq | apply pwp_region | (apply px_run; (first | (apply opv_move; first | exact hid_int rfl | rfl) | (apply opv_assign; first | exact hid_int rfl | exact hid_bool rfl | rfl) | (apply opv_eql <;> rfl) | (apply opv_len_ints el_int; rfl; (first | exact rd_old (by assumption)))); rfl; rfl) | apply px_nil | apply qseq_normal | apply pwp_block | apply pwp_skip | (apply pwp_cond_dec; rfl; all_goals (intro hc; try (first | (exfalso; omega)))) | (apply px_box; rfl; rfl; rfl; rfl; intro bk))
    refine pwp_loop (τ := Nat) [(8,13), (24,62)] (fun k => [(10, .int .i64 (k : Int))]) (fun _ => Cl [] w [.blk bk [.int .i64 size, gv]]) (fun k => k ≤ N ∧ firstK N ok fin (d + 1) l k = none) (fun k => N - k) 0
      ⟨rfl, trivial⟩ ⟨Nat.zero_le _, rfl⟩ (fun _ h => h) (fun J k hk => ?_)
    obtain ⟨hk, hno⟩ := hk
    by_cases hlt : k < N
    · have hlen : ¬ ((l ++ [(k : Int)]).length : Int) = n := by simp; omega
      have hko : ok l (k : Int) = decide (pathP size rows (l ++ [(k : Int)])) := by
        rw [← hok]; unfold okR; rw [decide_eq_false (show ¬ l.length + 1 = n by omega)]; simp
      have ih1 := fun xv w' => ih (l ++ [(k : Int)]) xv w' (by simp; omega)
      cases closed
      all_goals
        cases hf : firstG N ok fin (d + 1) (l ++ [(k : Int)]) with
        | none =>
          simp only [hf] at ih1
          repeat' (first | apply pwp_seq | apply pwp_region | (apply px_run; (first | (apply opv_move; first | exact hid_int rfl | exact hid_bool rfl | rfl) | (apply opv_assign; first | exact hid_int rfl | exact hid_bool rfl | rfl) | (apply opv_lss <;> rfl) | (apply opv_eql <;> rfl) | (apply opv_pick_t <;> rfl) | (apply opv_pick_f <;> rfl) | (apply opv_add_in; rfl; rfl; omega) | (apply opv_field fld_G0; rfl) | (apply opv_load_blk 0; (first | with_reducible exact sc_int); rfl; rfl; rfl) | (apply opv_len_ints el_int; rfl; (first | exact rd_row 1 rfl)) | (apply opv_load_str 2 st_G; rfl; rfl; rfl) | (apply opv_extract; rfl; rfl) | (apply opv_call; rfl; rfl; exact Cl.stable _ _ _; exact fun w hw => s_IsInducedPath_c _ _ _ rows (l ++ [(k : Int)]) _ (by first | exact hw.arr (by assumption)) (by first | exact hw.rowArr (k := 1) rfl))); rfl; rfl) | apply px_nil | (apply px_skip; rfl; rfl) | apply qseq_normal | apply pwp_block | apply qblock_normal | apply pwp_skip | (apply pwp_cond_t; rfl) | (apply pwp_cond_f; rfl) | (apply px_guard_dec; rfl; rfl; rfl; all_goals (intro hc; try (first | contradiction))) | (apply pwp_cond_dec; rfl; all_goals (intro hc; try (first | (exfalso; omega)))) | (apply px_lit0i ez_int; rfl; rfl; rfl; intro sv) | (apply px_lit1 ez_int; rfl; (intro w hw; (first | rfl)); rfl; rfl; rfl; intro sv) | (apply px_append_ints 0 ez_int; rfl; rfl; rfl; (first | exact rd_old (by assumption)); (first | (focus (simp; omega))); decide; rfl; rfl; intro sv) | (apply px_append_int1 1 ez_int; rfl; rfl; rfl; (first | exact rd_row 0 rfl); (first | (focus (simp; omega))); decide; rfl; rfl; intro sv) | (apply px_gives; rfl; rfl; rfl; rfl; rfl; exact fun w hw => ih1 _ _ (by first | exact hw.arr (by assumption)) (by first | exact hw.rowArr (k := 1) rfl); rintro _ _ ⟨sr, rfl, rfl⟩))
          all_goals
            refine qround_normal ?_ ⟨k + 1, ⟨rfl, trivial⟩, ⟨by omega, firstK_miss hno fun h => by simp_all [finS]⟩, by omega, fun w' h => by exact Cl.sub (by assumption) (by repeat (first | exact List.Sublist.slnil | exact List.Sublist.refl _ | apply List.Sublist.cons_cons | exact List.sublist_append_left _ _ | exact List.sublist_append_right _ _ | apply List.Sublist.cons))⟩
            repeat (first | exact same_refl | refine same_upd rfl ?_ | refine same_junk rfl ?_)
        | some L =>
          simp only [hf] at ih1
          repeat' (first | apply pwp_seq | apply pwp_region | (apply px_run; (first | (apply opv_move; first | exact hid_int rfl | exact hid_bool rfl | rfl) | (apply opv_assign; first | exact hid_int rfl | exact hid_bool rfl | rfl) | (apply opv_lss <;> rfl) | (apply opv_eql <;> rfl) | (apply opv_pick_t <;> rfl) | (apply opv_pick_f <;> rfl) | (apply opv_add_in; rfl; rfl; omega) | (apply opv_field fld_G0; rfl) | (apply opv_load_blk 0; (first | with_reducible exact sc_int); rfl; rfl; rfl) | (apply opv_len_ints el_int; rfl; (first | exact rd_row 1 rfl)) | (apply opv_load_str 2 st_G; rfl; rfl; rfl) | (apply opv_extract; rfl; rfl) | (apply opv_call; rfl; rfl; exact Cl.stable _ _ _; exact fun w hw => s_IsInducedPath_c _ _ _ rows (l ++ [(k : Int)]) _ (by first | exact hw.arr (by assumption)) (by first | exact hw.rowArr (k := 1) rfl))); rfl; rfl) | apply px_nil | (apply px_skip; rfl; rfl) | apply qseq_normal | apply qseq_ret | apply pwp_block | apply qblock_normal | apply qblock_ret | apply pwp_skip | apply pwp_ret | apply qround_ret | (apply pwp_cond_t; rfl) | (apply pwp_cond_f; rfl) | (apply px_guard_dec; rfl; rfl; rfl; all_goals (intro hc; try (first | contradiction))) | (apply pwp_cond_dec; rfl; all_goals (intro hc; try (first | (exfalso; omega)))) | (apply px_lit0i ez_int; rfl; rfl; rfl; intro sv) | (apply px_lit1 ez_int; rfl; (intro w hw; (first | rfl)); rfl; rfl; rfl; intro sv) | (apply px_append_ints 0 ez_int; rfl; rfl; rfl; (first | exact rd_old (by assumption)); (first | (focus (simp; omega))); decide; rfl; rfl; intro sv) | (apply px_append_int1 1 ez_int; rfl; rfl; rfl; (first | exact rd_row 0 rfl); (first | (focus (simp; omega))); decide; rfl; rfl; intro sv) | (apply px_gives; rfl; rfl; rfl; rfl; rfl; exact fun w hw => ih1 _ _ (by first | exact hw.arr (by assumption)) (by first | exact hw.rowArr (k := 1) rfl); rintro _ _ ⟨sr, rfl, rfl⟩))
          all_goals first
            | (refine qround_normal ?_ ⟨k + 1, ⟨rfl, trivial⟩, ⟨by omega, firstK_miss hno fun h => by simp_all [finS]⟩, by omega, fun w' h => by exact Cl.sub (by assumption) (by repeat (first | exact List.Sublist.slnil | exact List.Sublist.refl _ | apply List.Sublist.cons_cons | exact List.sublist_append_left _ _ | exact List.sublist_append_right _ _ | apply List.Sublist.cons))⟩
               repeat (first | exact same_refl | refine same_upd rfl ?_ | refine same_junk rfl ?_))
            | (rw [firstK_hit hlt hno (by simp_all [finS]) hf]
               refine qbody_ret2 (v := sr) (v' := .bool true) rfl rfl rfl ⟨[.row 3 sr (ints L)], ⟨sr, rfl, rfl⟩, fun w' h => ?_⟩
               exact Cl.sub (by assumption) (by repeat (first | exact List.Sublist.slnil | exact List.Sublist.refl _ | apply List.Sublist.cons_cons | exact List.sublist_append_left _ _ | exact List.sublist_append_right _ _ | apply List.Sublist.cons)))
    · obtain rfl : k = N := by omega
      repeat' (first | apply pwp_seq | apply pwp_region | (apply px_run; (first | (apply opv_move; first | exact hid_int rfl) | (apply opv_assign; first | exact hid_bool rfl | rfl) | (apply opv_lss <;> rfl) | (apply opv_field fld_G0; rfl) | (apply opv_load_blk 0; (first | with_reducible exact sc_int); rfl; rfl; rfl)); rfl; rfl) | apply px_nil | apply qseq_normal | apply qseq_exit | (apply qblock_exit_same; rfl) | apply pwp_exit | apply pwp_ret | apply qround_exit | (apply pwp_cond_dec; rfl; all_goals (intro hc; try (first | (exfalso; omega)))) | (apply px_lit0 ez_int; rfl; rfl; rfl; intro sv))
      refine qbody_ret2 rfl rfl rfl ⟨_, ⟨_, by rw [firstG_all, hno]; rfl, rfl⟩, fun w' h => ?_⟩
      rw [firstG_all, hno]
      exact Cl.sub (by assumption) (by repeat (first | exact List.Sublist.slnil | exact List.Sublist.refl _ | apply List.Sublist.cons_cons | exact List.sublist_append_left _ _ | exact List.sublist_append_right _ _ | apply List.Sublist.cons))
theorem en_s_FindInducedPath : Entry Tryd.prog 66 := ⟨_, Tryd.func66, by kernel_rfl, rfl⟩
set_option maxHeartbeats 1000000 in
theorem s_FindInducedPath_c (size n : Int) (gv : Value) (rows : List Int) (w : World) (hr : Arr w gv (ints rows)) (hn7 : n ≤ 7) :
    Gives Tryd.prog 66 #[.agg #[.int .i64 size, gv], .int .i64 n] w (fun v objs => ∃ sv, v = .tuple #[sv, .bool (pathX size rows n).isSome] ∧ objs = [.row 3 sv (ints ((pathX size rows n).getD []))]) := by
  refine gives_enter (args := [_, _]) en_s_FindInducedPath Tryd.func66 rfl Tryd.ntmps66 rfl ?_
  by_cases h1 : IsG size rows ∧ 1 ≤ n ∧ n ≤ size
  case neg =>
    have hx : pathX size rows n = none := by unfold pathX; rw [if_neg h1]
    repeat' (first | apply pwp_seq | apply pwp_region | (apply px_run; (first | (apply opv_move; first | exact hid_int rfl | exact hid_bool rfl) | (apply opv_assign; first | exact hid_bool rfl | rfl) | (apply opv_pick_t <;> rfl) | (apply opv_pick_f <;> rfl) | (apply opv_not_dec <;> rfl) | (apply opv_field fld_G0; rfl) | (apply opv_load_blk 0; (first | with_reducible exact sc_int); rfl; rfl; rfl) | (apply opv_load_str 0 st_G; rfl; rfl; rfl) | (apply opv_call; rfl; rfl; exact Cl.stable _ _ _; exact fun w hw => s_IsGraph_c _ _ rows _ (by first | exact hw.arr (by assumption))) | (apply opv_call; rfl; rfl; exact Cl.stable _ _ _; exact fun w hw => s_l1In_c _ _ _ _)); rfl; rfl) | apply px_nil | (apply px_skip; rfl; rfl) | apply qseq_normal | apply qseq_ret | apply pwp_skip | apply pwp_ret | (apply pwp_cond_t; rfl) | (apply px_guard_ndec; rfl; rfl; rfl; all_goals (intro hc; try (first | fail))) | (apply pwp_cond_ndec; rfl; all_goals (intro hc; try (first | fail))) | (apply px_box; rfl; rfl; rfl; rfl; intro bk) | (apply px_lit0 ez_int; rfl; rfl; rfl; intro sv))
    all_goals first
      | exact absurd ⟨by assumption, by assumption⟩ h1
      | (refine qbody_ret2 (v := sv) (v' := .bool false) rfl rfl rfl ⟨[.row 3 sv []], ⟨sv, by rw [hx]; rfl, by rw [hx]; rfl⟩, fun w' h => ?_⟩
         exact Cl.sub (by assumption) (by repeat (first | exact List.Sublist.slnil | exact List.Sublist.refl _ | apply List.Sublist.cons_cons | exact List.sublist_append_left _ _ | exact List.sublist_append_right _ _ | apply List.Sublist.cons)))
  obtain ⟨hg, h1⟩ := h1
  obtain ⟨N, hN, _, _, hN7⟩ := isG_size hg
  obtain ⟨m, hm⟩ : ∃ m : Nat, n.toNat = m + 1 := ⟨n.toNat - 1, by omega⟩
  have e := path_firstR (holeB := fun x => decide (holeP size rows x)) hg h1 hm
  have key := s_l4Search_c size N (m + 1) gv rows false hN (by omega) (by omega) m []
  rw [show size.toNat = N by omega] at e
  rw [e] at key
  obtain rfl : n = ((m + 1 : Nat) : Int) := by omega
  repeat' (first | apply pwp_seq | apply pwp_region | (apply px_run; (first | (apply opv_move; first | exact hid_int rfl | exact hid_bool rfl | rfl) | (apply opv_assign; first | exact hid_bool rfl | rfl) | (apply opv_pick_f <;> rfl) | (apply opv_not_dec <;> rfl) | (apply opv_field fld_G0; rfl) | (apply opv_load_blk 0; (first | with_reducible exact sc_int); rfl; rfl; rfl) | (apply opv_load_str 0 st_G; rfl; rfl; rfl) | (apply opv_extract; rfl; rfl) | (apply opv_call; rfl; rfl; exact Cl.stable _ _ _; exact fun w hw => s_IsGraph_c _ _ rows _ (by first | exact hw.arr (by assumption))) | (apply opv_call; rfl; rfl; exact Cl.stable _ _ _; exact fun w hw => s_l1In_c _ _ _ _)); rfl; rfl) | apply px_nil | apply qseq_normal | apply pwp_skip | apply pwp_ret | (apply px_guard_ndec; rfl; rfl; rfl; all_goals (intro hc; try (first | contradiction))) | (apply pwp_cond_ndec; rfl; all_goals (intro hc; try (first | contradiction))) | (apply px_box; rfl; rfl; rfl; rfl; intro bk) | (apply px_lit0i ez_int; rfl; rfl; rfl; intro sv) | (apply px_gives; rfl; rfl; rfl; rfl; rfl; exact fun w hw => key _ _ (by simp) (by first | exact hw.arr (by assumption)) (by first | exact hw.rowArr (k := 0) rfl); rintro _ _ ⟨sr, rfl, rfl⟩))
  all_goals first
    | exact absurd h1 (by assumption)
    | (refine qbody_ret2 rfl rfl rfl ⟨_, ⟨_, rfl, rfl⟩, fun w' h => ?_⟩
       exact Cl.sub (by assumption) (by repeat (first | exact List.Sublist.slnil | exact List.Sublist.refl _ | apply List.Sublist.cons_cons | exact List.sublist_append_left _ _ | exact List.sublist_append_right _ _ | apply List.Sublist.cons)))
theorem en_s_FindPathOfFour : Entry Tryd.prog 52 := ⟨_, Tryd.func52, by kernel_rfl, rfl⟩
theorem s_FindPathOfFour_c (size : Int) (gv : Value) (rows : List Int) (w : World) (hr : Arr w gv (ints rows)) :
    Gives Tryd.prog 52 #[.agg #[.int .i64 size, gv]] w (fun v objs => ∃ sv, v = .tuple #[sv, .bool (pathX size rows 4).isSome] ∧ objs = [.row 3 sv (ints ((pathX size rows 4).getD []))]) := by
  refine gives_enter (args := [_]) en_s_FindPathOfFour Tryd.func52 rfl Tryd.ntmps52 rfl ?_
  repeat' (first | apply pwp_seq | apply pwp_region | (apply px_run; (first | (apply opv_move; first | exact hid_bool rfl | rfl) | (apply opv_assign; first | exact hid_bool rfl | rfl) | (apply opv_load_str 0 st_G; rfl; rfl; rfl) | (apply opv_extract; rfl; rfl)); rfl; rfl) | apply px_nil | apply qseq_normal | apply pwp_ret | (apply px_box; rfl; rfl; rfl; rfl; intro bk) | (apply px_gives; rfl; rfl; rfl; rfl; rfl; exact fun w hw => s_FindInducedPath_c _ 4 _ rows _ (by first | exact hw.arr (by assumption)) (by omega); rintro _ _ ⟨sr, rfl, rfl⟩))
  refine qbody_ret2 rfl rfl rfl ⟨_, ⟨_, rfl, rfl⟩, fun w' h => ?_⟩
  exact Cl.sub (by assumption) (by repeat (first | exact List.Sublist.slnil | exact List.Sublist.refl _ | apply List.Sublist.cons_cons | exact List.sublist_append_left _ _ | exact List.sublist_append_right _ _ | apply List.Sublist.cons))
theorem en_s_IsCograph : Entry Tryd.prog 28 := ⟨_, Tryd.func28, by kernel_rfl, rfl⟩
theorem s_IsCograph_c (size : Int) (gv : Value) (rows : List Int) (w : World) (hr : Arr w gv (ints rows)) :
    Pure Tryd.prog 28 #[.agg #[.int .i64 size, gv]] w (.bool (decide (IsG size rows ∧ pathX size rows 4 = none))) := by
  refine pure_enter (args := [_]) en_s_IsCograph Tryd.func28 rfl Tryd.ntmps28 rfl ?_
  repeat' (first | apply pwp_seq | apply pwp_region | (apply px_run; (first | (apply opv_move; first | exact hid_bool rfl | rfl) | (apply opv_assign; first | exact hid_bool rfl | rfl) | (apply opv_pick_t <;> rfl) | (apply opv_pick_f <;> rfl) | (apply opv_not <;> rfl) | (apply opv_load_str 0 st_G; rfl; rfl; rfl) | (apply opv_load_str 1 st_G; rfl; rfl; rfl) | (apply opv_extract; rfl; rfl) | (apply opv_call; rfl; rfl; exact Cl.stable _ _ _; exact fun w hw => s_IsGraph_c _ _ rows _ (by first | exact hw.arr (by assumption)))); rfl; rfl) | apply px_nil | (apply px_skip; rfl; rfl) | apply qseq_normal | apply pwp_ret | (apply px_guard_dec; rfl; rfl; rfl; all_goals (intro hc; try (first | fail))) | (apply px_box; rfl; rfl; rfl; rfl; intro bk) | (apply px_gives; rfl; rfl; rfl; rfl; rfl; exact fun w hw => s_FindPathOfFour_c _ _ rows _ (by first | exact hw.arr (by assumption)); rintro _ _ ⟨sr, rfl, rfl⟩))
  all_goals (refine qbody_ret1 (v := .bool _) rfl rfl ⟨by cases h : pathX size rows 4 <;> simp_all, fun _ h => h.below⟩)
end Go.Proofs.YthbhoofhenmbeaaDoor
