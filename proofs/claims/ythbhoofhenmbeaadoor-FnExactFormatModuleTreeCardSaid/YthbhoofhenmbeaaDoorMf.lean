/- A module tree as text. -/
import Derived.Test.YthbhoofhenmbeaaDoorSt
import Derived.Test.YthbhoofhenmbeaaDoorTd
import Derived.Test.YthbhoofhenmbeaaDoorShelf
import Derived.Test.YthbhoofhenmbeaaDoorPwPmf
import Derived.Test.YthbhoofhenmbeaaDoorPwTail
namespace Go.Proofs.YthbhoofhenmbeaaDoor
open Go Go.RowKit Go.Pw
def strs (l : List ByteArray) : List Value := l.map Value.string
theorem strs_length (l : List ByteArray) : (strs l).length = l.length := List.length_map ..
theorem strs_snoc (l : List ByteArray) (x : ByteArray) : strs (l ++ [x]) = strs l ++ [.string x] := by simp [strs]
theorem info_str : (Tryd.prog.info? 9).map (fun i => (i.zero, i.size, i.bytes)) = some (some (.string ByteArray.empty), 1, 16) := by kernel_rfl
theorem ez_str : ElemZ Tryd.prog 47 9 (.string ByteArray.empty) 16 := ⟨Tryd.underlying47, info_str, rfl⟩
theorem el_str : Elem1 Tryd.prog 47 9 := ⟨Tryd.underlying47, by obtain ⟨i, h1, _, h2, _⟩ := info_parts info_str; exact ⟨i, h1, h2⟩⟩
theorem sz_str (w : World) : (sizeOf 9).run Tryd.prog w = .ok 1 w := by
  obtain ⟨i, h1, _, h2, _⟩ := info_parts info_str
  simp [sizeOf, typeInfo, h1, h2]
theorem ag_str (w : World) : (isAgg 9).run Tryd.prog w = .ok false w := by simp [isAgg, run_underlying Tryd.underlying9]
theorem sc_str : Scalar Tryd.prog 9 := scalar_string Tryd.underlying9
theorem strs_get {l : List ByteArray} {i : Nat} (h : i < l.length) : (strs l)[i]? = some (.string (l.getD i ByteArray.empty)) := by simp [strs, h]
def kindsA : Array Value := #[.string ⟨#[]⟩, .string ⟨#[112, 97, 114, 97, 108, 108, 101, 108]⟩, .string ⟨#[115, 101, 114, 105, 101, 115]⟩, .string ⟨#[112, 114, 105, 109, 101]⟩]
theorem kinds_get {k : Int} (h : 0 ≤ k ∧ k ≤ 3) : kindsA[k.toNat]? = some (.string (kindW k)) := by
  have : k = 0 ∨ k = 1 ∨ k = 2 ∨ k = 3 := by omega
  rcases this with rfl | rfl | rfl | rfl <;> rfl
theorem kinds_getL {k : Int} (h : 0 ≤ k ∧ k ≤ 3) : kindsA.toList[k.toNat]? = some (.string (kindW k)) := by
  have := kinds_get h; simpa using this
theorem en_x_strings_Join : Entry Tryd.prog 26 := ⟨_, Tryd.func26, by kernel_rfl, rfl⟩
theorem x_Join_c (v : Value) (l : List ByteArray) (w : World) (h : Arr w v (strs l)) (hn : l ≠ []) (hl : l.length ≤ 20) (hp : ∀ x ∈ l, 0 < x.size) (hs : ∀ x ∈ l, x.size ≤ 15) : Pure Tryd.prog 26 #[v, .string ⟨#[32]⟩] w (.string (accT l)) := by
  have hpos : 0 < l.length := List.length_pos_iff.2 hn
  have h0 := h.fits
  rcases h.out with ⟨h1, _⟩ | ⟨b, off, cap, rfl, _, _, hc⟩
  · have := congrArg List.length h1; rw [strs_length] at this; simp at this; exact absurd this hn
  have hcap : l.length ≤ cap := by have := Nat.le_of_ble_eq_true h0; rw [strs_length] at this; exact this
  have hcells : ∀ (j : Nat) x, l[j]? = some x → w.cell? ⟨b, off + j, none⟩ = some (.string x) := fun j x hx => by
    have hlt := (List.getElem?_eq_some_iff.1 hx).1
    rw [hc j (by rw [strs_length]; exact hlt)]
    simp [strs, hx]
  have hbk : b < w.heap.size := by
    refine World.block_lt_of_cell? w ⟨b, off + 0, none⟩ (u := (strs l)[0]'(by rw [strs_length]; exact hpos)) ?_
    rw [hc 0 (by rw [strs_length]; exact hpos)]
    simp
  have hj := acc_join hp
  have hsz : (Lib.join (l.map (·.data.toList)) [32]).length ≤ 140737488355328 := by
    have h2 := accT_size hs
    have h3 := congrArg ByteArray.size hj
    have h4 : (ByteArray.mk (Lib.join (l.map (·.data.toList)) [32]).toArray).size = (Lib.join (l.map (·.data.toList)) [32]).length := by simp [ByteArray.size]
    omega
  have key := Tryd.strings_Join b off cap l ⟨#[32]⟩ w hcells hbk (by omega) hcap hsz
  refine ⟨en_x_strings_Join, ?_⟩
  rw [strs_length, hj]
  exact key
theorem en_i_FormatModuleTree : Entry Tryd.prog 9 := ⟨_, Tryd.func9, by kernel_rfl, rfl⟩
set_option maxHeartbeats 1600000 in
theorem i_FormatModuleTree_c (sa sb sc : Value) (a b c : List Int) (w : World) (ha : Arr w sa (ints a)) (hb : Arr w sb (ints b)) (hd : Arr w sc (ints c)) :
    Pure Tryd.prog 9 #[.agg #[sa, sb, sc]] w (.string (fmtT a b c)) := by
  refine pure_enter (args := [_]) en_i_FormatModuleTree Tryd.func9 rfl Tryd.ntmps9 rfl ?_
  by_cases hf : fineT a b c
  case neg =>
    have hm : depthT a b c = -1 := if_neg hf
    have hr : fmtT a b c = ByteArray.empty := if_neg hf
    rw [hr]
    repeat' (first | apply pwp_seq | apply pwp_region | (apply px_run; (first | (apply opv_assign; first | rfl) | (apply opv_eql <;> rfl) | (apply opv_load_str 0 st_T; rfl; rfl; rfl) | (apply opv_call; rfl; rfl; exact Cl.stable _ _ _; exact fun w hw => i_DepthOf_c _ _ _ a b c _ (by first | exact hw.arr (by assumption)) (by first | exact hw.arr (by assumption)) (by first | exact hw.arr (by assumption)))); rfl; rfl) | apply px_nil | apply qseq_normal | apply qseq_ret | apply pwp_ret | (apply pwp_cond_dec; rfl; all_goals (intro hc; try (first | contradiction))) | (apply px_box; rfl; rfl; rfl; rfl; intro bk))
    refine qbody_ret1 (v := .string _) rfl rfl ⟨rfl, fun _ h => h.below⟩
  have hm : ¬ depthT a b c = -1 := depthT_ne hf
  have ha20 := hf.1
  have hbl := hf.2.1
  repeat' (first | apply pwp_seq | apply pwp_region | (apply px_run; (first | (apply opv_move; first | exact hid_int rfl) | (apply opv_assign; first | rfl) | (apply opv_eql <;> rfl) | (apply opv_field fld_T0; rfl) | (apply opv_load_blk 1; (first | with_reducible exact sc_ints); rfl; rfl; rfl) | (apply opv_len_ints el_int; rfl; (first | exact rd_old (by assumption))) | (apply opv_load_str 0 st_T; rfl; rfl; rfl) | (apply opv_call; rfl; rfl; exact Cl.stable _ _ _; exact fun w hw => i_DepthOf_c _ _ _ a b c _ (by first | exact hw.arr (by assumption)) (by first | exact hw.arr (by assumption)) (by first | exact hw.arr (by assumption)))); rfl; rfl) | apply px_nil | apply qseq_normal | apply pwp_block | apply pwp_skip | (apply pwp_cond_dec; rfl; all_goals (intro hc; try (first | contradiction))) | (apply px_box; rfl; rfl; rfl; rfl; intro bk) | (apply px_lit0 ez_str; rfl; rfl; rfl; intro sv))
  refine pwp_loop (τ := Nat × Value) [(3,5), (13,37)] (fun x => [(13, .int .i64 (x.1 : Int)), (3, x.2)]) (fun x => Cl [] w [.row 9 x.2 (strs (wordsT a b x.1)), .blk bk [sa, sb, sc]]) (fun x => x.1 ≤ a.length) (fun x => a.length - x.1) (0, sv)
    ⟨rfl, rfl, trivial⟩ (Nat.zero_le _) (fun w' h => by exact Cl.sub (by assumption) (by repeat (first | exact List.Sublist.slnil | exact List.Sublist.refl _ | apply List.Sublist.cons_cons | exact List.sublist_append_left _ _ | exact List.sublist_append_right _ _ | apply List.Sublist.cons))) (fun J x hx => ?_)
  obtain ⟨k, so⟩ := x
  dsimp only at hx ⊢
  have hwl := wordsT_length a b k
  have hsl := strs_length (wordsT a b k)
  by_cases hlt : k < a.length
  · have hfk := (hf.2.2.2.2 k hlt).2.1
    have hkb : k < b.length := by omega
    by_cases hz : b.getD k 0 = 0
    · have hw : wordsT a b (k + 1) = wordsT a b k := by rw [wordsT, if_pos hz]
      repeat' (first | apply pwp_seq | apply pwp_region | (apply px_run; (first | (apply opv_move; first | exact hid_int rfl) | (apply opv_assign; first | exact hid_int rfl) | (apply opv_lss <;> rfl) | (apply opv_neq <;> rfl) | (apply opv_add_in; rfl; rfl; omega) | (apply opv_field fld_T1; rfl) | (apply opv_load_blk 1; (first | with_reducible exact sc_int | with_reducible exact sc_ints); rfl; rfl; rfl) | (apply opv_load_ints sc_int; rfl; (first | exact rd_old (by assumption)); (first | omega)) | (apply opv_index_nat (vs := ints _) el_int; rfl; rfl; (first | exact rd_old (by assumption)); (first | (simp only [ints_length]; omega)))); rfl; rfl) | apply px_nil | apply qseq_normal | apply pwp_block | apply qblock_normal | apply pwp_skip | (apply pwp_cond_ndec; rfl; all_goals (intro hc; try (first | contradiction))) | (apply pwp_cond_dec; rfl; all_goals (intro hc; try (first | (exfalso; omega)))))
      refine qround_normal ?_ ⟨(k + 1, so), ⟨rfl, rfl, trivial⟩, by dsimp only; omega, by dsimp only; omega, fun w' h => ?_⟩
      · repeat (first | exact same_refl | refine same_upd rfl ?_ | refine same_junk rfl ?_)
      · dsimp only
        rw [hw]
        exact Cl.sub (by assumption) (by repeat (first | exact List.Sublist.slnil | exact List.Sublist.refl _ | apply List.Sublist.cons_cons | exact List.sublist_append_left _ _ | exact List.sublist_append_right _ _ | apply List.Sublist.cons))
    · have hw : wordsT a b (k + 1) = wordsT a b k ++ [wordT a b k] := by rw [wordsT, if_neg hz]
      have hg := kinds_get hfk
      have hs1 := fmtS_size (a.getD k 0)
      have hs2 := kindW_size (b.getD k 0)
      repeat' (first | apply pwp_seq | apply pwp_region | (apply px_run; (first | (apply opv_build_arr (cells := kindsA) rfl; kernel_rfl) | (apply opv_index_arr Tryd.underlying50 sz_str ag_str; rfl; rfl; omega; exact hg) | (apply opv_cat; rfl; rfl; omega) | (apply opv_move; first | exact hid_int rfl | rfl) | (apply opv_assign; first | exact hid_int rfl | rfl) | (apply opv_lss <;> rfl) | (apply opv_neq <;> rfl) | (apply opv_add_in; rfl; rfl; omega) | (apply opv_field fld_T1; rfl) | (apply opv_load_blk 1; (first | with_reducible exact sc_int | with_reducible exact sc_ints); rfl; rfl; rfl) | (apply opv_load_ints sc_int; rfl; (first | exact rd_old (by assumption)); (first | omega)) | (apply opv_index_nat (vs := ints _) el_int; rfl; rfl; (first | exact rd_old (by assumption)); (first | (simp only [ints_length]; omega))) | (apply opv_call; rfl; rfl; exact Cl.stable _ _ _; exact fun w hw => i_FormatSet_c _ _)); rfl; rfl) | apply px_nil | apply qseq_normal | apply pwp_block | apply qblock_normal | apply pwp_skip | (apply pwp_region_any [0, 1, 4, 5, 6, 7, 8] [12] 7 (Cl [] w [.row 9 so _, .blk bk _]); kernel_rfl; decide +kernel; exact Cl.stable _ _ _; exact fun w h => h.sub (by repeat (first | exact List.Sublist.refl _))) | apply qlooks_normal | (apply qstep_out; decide +kernel) | (apply qstep_in; exact fun w h => h.sub (by repeat (first | exact List.Sublist.refl _ | apply List.Sublist.cons))) | (apply pxa_nil; decide +kernel) | (apply pxa_one 2; decide +kernel; rfl) | (apply pxa_one 3; decide +kernel; rfl) | (apply pxa_one 9; decide +kernel; rfl) | (apply pxa_one 10; decide +kernel; rfl) | (apply pxa_one 11; decide +kernel; rfl) | (apply pxa_one 12; decide +kernel; rfl) | (apply pxa_one 13; decide +kernel; rfl) | (apply pxa_two 2 3; decide +kernel; rfl; rfl) | (apply pxa_two 2 9; decide +kernel; rfl; rfl) | (apply pwp_cond_ndec; rfl; all_goals (intro hc; try (first | contradiction))) | (apply pwp_cond_dec; rfl; all_goals (intro hc; try (first | (exfalso; omega)))) | (apply px_lit1 ez_str; rfl; (intro w hw; rfl); rfl; rfl; rfl; intro sv) | (apply px_append 1 ez_str; rfl; rfl; rfl; (exact rd_row 0 rfl); (intro w hw u hu; simp only [List.mem_singleton] at hu; subst hu; rfl); (simp only [List.length_singleton]; omega); decide; rfl; rfl; intro sv))
      all_goals
        refine qround_normal ?_ ⟨(k + 1, _), ⟨rfl, rfl, trivial⟩, by dsimp only; omega, by dsimp only; omega, fun w' h => ?_⟩
        · repeat (first | exact same_refl | refine same_upd rfl ?_ | refine same_junk rfl ?_)
        · dsimp only
          rw [hw, strs_snoc]
          exact Cl.sub (by assumption) (by repeat (first | exact List.Sublist.slnil | exact List.Sublist.refl _ | apply List.Sublist.cons_cons | exact List.sublist_append_left _ _ | exact List.sublist_append_right _ _ | apply List.Sublist.cons))
  · obtain rfl : k = a.length := by omega
    have hwp := words_pos hf (Nat.le_refl _)
    have hws := words_le (a := a) (b := b) (k := a.length)
    have kJ : ∀ v w', wordsT a b a.length ≠ [] → Arr w' v (strs (wordsT a b a.length)) → Pure Tryd.prog 26 #[v, .string ⟨#[32]⟩] w' (.string (accT (wordsT a b a.length))) := fun v w' hn h => x_Join_c v _ w' h hn (by omega) hwp hws
    have hr : fmtT a b c = if wordsT a b a.length = [] then singleB else accT (wordsT a b a.length) := if_pos hf
    rw [hr]
    generalize wordsT a b a.length = l at *
    by_cases hn : l = []
    · rw [if_pos hn]
      have hl0 : (strs l).length = 0 := by rw [hn]; rfl
      repeat' (first | apply pwp_seq | apply pwp_region | (apply px_run; (first | (apply opv_len el_str; rfl; exact rd_row 0 rfl) | (apply opv_move; first | rfl) | (apply opv_assign; first | rfl) | (apply opv_lss <;> rfl) | (apply opv_eql <;> rfl)); rfl; rfl) | apply px_nil | apply qseq_normal | apply qseq_ret | apply qseq_exit | (apply qblock_exit_same; rfl) | apply pwp_exit | apply pwp_ret | apply qround_exit | (apply pwp_cond_dec; rfl; all_goals (intro hc; try (first | (exfalso; omega)))))
      refine qbody_ret1 (v := .string _) rfl rfl ⟨rfl, fun _ h => h.below⟩
    · rw [if_neg hn]
      have hl0 : (strs l).length ≠ 0 := by rw [strs_length]; exact fun h => hn (List.eq_nil_of_length_eq_zero h)
      repeat' (first | apply pwp_seq | apply pwp_region | (apply px_run; (first | (apply opv_len el_str; rfl; exact rd_row 0 rfl) | (apply opv_move; first | rfl) | (apply opv_assign; first | rfl) | (apply opv_lss <;> rfl) | (apply opv_eql <;> rfl) | (apply opv_call; rfl; rfl; exact Cl.stable _ _ _; exact fun w hw => kJ _ _ hn (by first | exact hw.rowArr (k := 0) rfl))); rfl; rfl) | apply px_nil | apply qseq_normal | apply qseq_exit | (apply qblock_exit_same; rfl) | apply pwp_skip | apply pwp_exit | apply pwp_ret | apply qround_exit | (apply pwp_cond_dec; rfl; all_goals (intro hc; try (first | (exfalso; omega)))))
      refine qbody_ret1 (v := .string _) rfl rfl ⟨rfl, fun _ h => h.below⟩
theorem en_s_FormatModuleTree : Entry Tryd.prog 7 := ⟨_, Tryd.func7, by kernel_rfl, rfl⟩
set_option maxHeartbeats 1600000 in
theorem s_FormatModuleTree_c (sa sb sc : Value) (a b c : List Int) (w : World) (ha : Arr w sa (ints a)) (hb : Arr w sb (ints b)) (hd : Arr w sc (ints c)) :
    Pure Tryd.prog 7 #[.agg #[sa, sb, sc]] w (.string (fmtT a b c)) := by
  refine pure_enter (args := [_]) en_s_FormatModuleTree Tryd.func7 rfl Tryd.ntmps7 rfl ?_
  have kF := fun w' h1 h2 h3 => s_l16Fine_c sa sb sc a b c w' h1 h2 h3
  by_cases hf : fineT a b c
  case neg =>
    have hr : fmtT a b c = ByteArray.empty := if_neg hf
    rw [hr]
    rw [decide_eq_false hf] at kF
    have hE : ((ByteArray.mk #[]).toList == (ByteArray.mk #[]).toList) = true := beq_self_eq_true _
    repeat' (first | apply pwp_seq | apply pwp_region | (apply px_run; (first | (apply opv_assign; first | exact hid_int rfl | rfl)); rfl; rfl) | apply px_nil | apply qseq_normal | apply pwp_block | (apply px_box; rfl; rfl; rfl; rfl; intro bk))
    refine pwp_loop (τ := Unit) [(3,42)] (fun x => [(4, .int .i64 0), (3, .string ⟨#[]⟩)]) (fun x => Cl [] w [.blk bk [sa, sb, sc]]) (fun x => True) (fun x => 0) ()
      ⟨rfl, rfl, trivial⟩ trivial (fun w' h => by exact Cl.sub (by assumption) (by repeat (first | exact List.Sublist.slnil | exact List.Sublist.refl _ | apply List.Sublist.cons_cons | exact List.sublist_append_left _ _ | exact List.sublist_append_right _ _ | apply List.Sublist.cons))) (fun J x hx => ?_)
    repeat' (first | apply pwp_seq | apply pwp_region | (apply px_run; (first | (apply opv_eql_s_r; rfl; rfl; exact hE) | (apply opv_move; first | exact hid_int rfl | exact hid_bool rfl | rfl) | (apply opv_assign; first | rfl) | (apply opv_lss <;> rfl) | (apply opv_pick_t <;> rfl) | (apply opv_pick_f <;> rfl) | (apply opv_field fld_T0; rfl) | (apply opv_load_blk 0; (first | with_reducible exact sc_ints); rfl; rfl; rfl) | (apply opv_len_ints el_int; rfl; (first | exact rd_old (by assumption))) | (apply opv_load_str 0 st_T; rfl; rfl; rfl) | (apply opv_call; rfl; rfl; exact Cl.stable _ _ _; exact fun w hw => kF _ (by first | exact hw.arr (by assumption)) (by first | exact hw.arr (by assumption)) (by first | exact hw.arr (by assumption)))); rfl; rfl) | apply px_nil | (apply px_skip; rfl; rfl) | apply qseq_normal | apply qseq_exit | (apply qblock_exit_same; rfl) | apply pwp_skip | apply pwp_exit | apply pwp_ret | apply qround_exit | (apply pwp_cond_f; rfl) | (apply px_guard_dec; rfl; rfl; rfl; all_goals (intro hc; try (first | fail))))
    all_goals (refine qbody_ret1 (v := .string _) rfl rfl ⟨rfl, fun _ h => h.below⟩)
  rw [decide_eq_true hf] at kF
  have ha20 := hf.1
  have hbl := hf.2.1
  repeat' (first | apply pwp_seq | apply pwp_region | (apply px_run; (first | (apply opv_assign; first | exact hid_int rfl | rfl)); rfl; rfl) | apply px_nil | apply qseq_normal | apply pwp_block | (apply px_box; rfl; rfl; rfl; rfl; intro bk))
  refine pwp_loop (τ := Nat) [(3,42)] (fun k => [(4, .int .i64 (k : Int)), (3, .string (accT (wordsT a b k)))]) (fun k => Cl [] w [.blk bk [sa, sb, sc]]) (fun k => k ≤ a.length) (fun k => a.length - k) 0
    ⟨rfl, rfl, trivial⟩ (Nat.zero_le _) (fun w' h => by exact Cl.sub (by assumption) (by repeat (first | exact List.Sublist.slnil | exact List.Sublist.refl _ | apply List.Sublist.cons_cons | exact List.sublist_append_left _ _ | exact List.sublist_append_right _ _ | apply List.Sublist.cons))) (fun J k hx => ?_)
  have hwl := wordsT_length a b k
  have hwp := words_pos hf hx
  have hsz := accT_size (words_le (a := a) (b := b) (k := k))
  by_cases hlt : k < a.length
  · have hfk := (hf.2.2.2.2 k hlt).2.1
    have hkb : k < b.length := by omega
    by_cases hz : b.getD k 0 = 0
    · have hw : wordsT a b (k + 1) = wordsT a b k := by rw [wordsT, if_pos hz]
      repeat' (first | apply pwp_seq | apply pwp_region | (apply px_run; (first | (apply opv_move; first | exact hid_int rfl | exact hid_bool rfl) | (apply opv_assign; first | exact hid_int rfl) | (apply opv_lss <;> rfl) | (apply opv_eql <;> rfl) | (apply opv_pick_t <;> rfl) | (apply opv_add_in; rfl; rfl; omega) | (apply opv_field fld_T0; rfl) | (apply opv_field fld_T1; rfl) | (apply opv_load_blk 0; (first | with_reducible exact sc_int | with_reducible exact sc_ints); rfl; rfl; rfl) | (apply opv_load_ints sc_int; rfl; (first | exact rd_old (by assumption)); (first | omega)) | (apply opv_index_nat (vs := ints _) el_int; rfl; rfl; (first | exact rd_old (by assumption)); (first | (simp only [ints_length]; omega))) | (apply opv_len_ints el_int; rfl; (first | exact rd_old (by assumption))) | (apply opv_load_str 0 st_T; rfl; rfl; rfl) | (apply opv_call; rfl; rfl; exact Cl.stable _ _ _; exact fun w hw => kF _ (by first | exact hw.arr (by assumption)) (by first | exact hw.arr (by assumption)) (by first | exact hw.arr (by assumption)))); rfl; rfl) | apply px_nil | apply qseq_normal | apply qseq_exit | apply pwp_block | (apply qblock_exit_same; rfl) | apply pwp_skip | apply pwp_exit | (apply pwp_cond_t; rfl) | (apply px_guard_dec; rfl; rfl; rfl; all_goals (intro hc; try (first | (exfalso; omega)))) | (apply pwp_cond_dec; rfl; all_goals (intro hc; try (first | contradiction))))
      refine qround_normal ?_ ⟨k + 1, ⟨rfl, by rw [hw]; rfl, trivial⟩, by (try dsimp only); omega, by (try dsimp only); omega, fun w' h => ?_⟩
      · repeat (first | exact same_refl | refine same_upd rfl ?_ | refine same_junk rfl ?_)
      · exact Cl.sub (by assumption) (by repeat (first | exact List.Sublist.slnil | exact List.Sublist.refl _ | apply List.Sublist.cons_cons | exact List.sublist_append_left _ _ | exact List.sublist_append_right _ _ | apply List.Sublist.cons))
    · have hw : wordsT a b (k + 1) = wordsT a b k ++ [wordT a b k] := by rw [wordsT, if_neg hz]
      have hg := kinds_getL hfk
      have hs1 := fmtS_size (a.getD k 0)
      have hs2 := kindW_size (b.getD k 0)
      have z1 : (ByteArray.mk #[32]).size = 1 := rfl
      by_cases h0 : (accT (wordsT a b k)).size = 0
      · have hE : ((accT (wordsT a b k)).toList == (ByteArray.mk #[]).toList) = true := by
          rw [ByteArray.toList_eq, ByteArray.toList_eq]
          have : (accT (wordsT a b k)).data.toList = [] := List.eq_nil_of_length_eq_zero h0
          rw [this]; rfl
        have e : accT (wordsT a b (k + 1)) = (accT (wordsT a b k) ++ fmtS (a.getD k 0)) ++ kindW (b.getD k 0) := by
          rw [hw, accT_snoc, accS, if_pos h0, wordT, ByteArray.append_assoc]
        generalize accT (wordsT a b k) = A at *
        repeat' (first | apply pwp_seq | apply pwp_region | (apply px_run; (first | (apply opv_neq_s_r; rfl; rfl; exact hE) | (apply opv_index el_str; rfl; rfl; exact rd_row 0 rfl; omega; (show _ < (4 : Int)); omega) | (apply opv_load_arr sc_str; rfl; exact rd_row 0 rfl; exact hg) | (apply opv_cat; rfl; rfl; (first | omega | (simp only [size_cat]; omega))) | (apply opv_move; first | exact hid_int rfl | exact hid_bool rfl | rfl) | (apply opv_assign; first | exact hid_int rfl | rfl) | (apply opv_lss <;> rfl) | (apply opv_eql <;> rfl) | (apply opv_pick_t <;> rfl) | (apply opv_add_in; rfl; rfl; omega) | (apply opv_field fld_T0; rfl) | (apply opv_field fld_T1; rfl) | (apply opv_load_blk 0; (first | with_reducible exact sc_int | with_reducible exact sc_ints); rfl; rfl; rfl) | (apply opv_load_ints sc_int; rfl; (first | exact rd_old (by assumption)); (first | omega)) | (apply opv_index_nat (vs := ints _) el_int; rfl; rfl; (first | exact rd_old (by assumption)); (first | (simp only [ints_length]; omega))) | (apply opv_len_ints el_int; rfl; (first | exact rd_old (by assumption))) | (apply opv_load_str 0 st_T; rfl; rfl; rfl) | (apply opv_call; rfl; rfl; exact Cl.stable _ _ _; exact fun w hw => kF _ (by first | exact hw.arr (by assumption)) (by first | exact hw.arr (by assumption)) (by first | exact hw.arr (by assumption))) | (apply opv_call; rfl; rfl; exact Cl.stable _ _ _; exact fun w hw => s_FormatSet_c _ _)); rfl; rfl) | apply px_nil | apply qseq_normal | apply pwp_block | apply qblock_normal | apply pwp_skip | (apply pwp_cond_t; rfl) | (apply pwp_cond_f; rfl) | (apply pwp_region_any [0, 1, 2, 3, 4, 5, 9, 10, 11, 12, 13] [] 7 (Cl [] w [.blk bk _]); kernel_rfl; decide +kernel; exact Cl.stable _ _ _; exact fun w h => h.sub (by repeat (first | exact List.Sublist.refl _))) | apply qlooks_normal | (apply qstep_in; exact fun w h => h.sub (by repeat (first | exact List.Sublist.refl _ | apply List.Sublist.cons))) | (apply pxa_nil; decide +kernel) | (apply pxa_one 6; decide +kernel; rfl) | (apply pxa_one 7; decide +kernel; rfl) | (apply pxa_one 8; decide +kernel; rfl) | (apply pxa_one 14; decide +kernel; rfl) | (apply pxa_one 15; decide +kernel; rfl) | (apply pxa_one 16; decide +kernel; rfl) | (apply pxa_one 17; decide +kernel; rfl) | (apply pxa_two 6 8; decide +kernel; rfl; rfl) | (apply pxa_two 6 14; decide +kernel; rfl; rfl) | (apply pxa_two 6 15; decide +kernel; rfl; rfl) | (apply pxa_two 7 8; decide +kernel; rfl; rfl) | (apply pxa_two 7 14; decide +kernel; rfl; rfl) | (apply pxa_two 7 15; decide +kernel; rfl; rfl) | (apply px_guard_dec; rfl; rfl; rfl; all_goals (intro hc; try (first | (exfalso; omega)))) | (apply pwp_cond_dec; rfl; all_goals (intro hc; try (first | contradiction))) | (apply px_lit4 ez_str; rfl; (intro w hw; rfl); rfl; (intro w hw; rfl); rfl; (intro w hw; rfl); rfl; (intro w hw; rfl); rfl; rfl; rfl; intro sv))
        all_goals
          refine qround_normal ?_ ⟨k + 1, ⟨rfl, by rw [e]; rfl, trivial⟩, by (try dsimp only); omega, by (try dsimp only); omega, fun w' h => ?_⟩
          · repeat (first | exact same_refl | refine same_upd rfl ?_ | refine same_junk rfl ?_)
          · exact Cl.sub (by assumption) (by repeat (first | exact List.Sublist.slnil | exact List.Sublist.refl _ | apply List.Sublist.cons_cons | exact List.sublist_append_left _ _ | exact List.sublist_append_right _ _ | apply List.Sublist.cons))
      · have hE : ((accT (wordsT a b k)).toList == (ByteArray.mk #[]).toList) = false := by
          rw [beq_eq_false_iff_ne]
          intro h
          have h2 := congrArg List.length h
          rw [toList_len, toList_len] at h2
          exact h0 h2
        have e : accT (wordsT a b (k + 1)) = ((accT (wordsT a b k) ++ ByteArray.mk #[32]) ++ fmtS (a.getD k 0)) ++ kindW (b.getD k 0) := by
          rw [hw, accT_snoc, accS, if_neg h0, wordT]; simp only [ByteArray.append_assoc]; rfl
        generalize accT (wordsT a b k) = A at *
        repeat' (first | apply pwp_seq | apply pwp_region | (apply px_run; (first | (apply opv_neq_s_r; rfl; rfl; exact hE) | (apply opv_index el_str; rfl; rfl; exact rd_row 0 rfl; omega; (show _ < (4 : Int)); omega) | (apply opv_load_arr sc_str; rfl; exact rd_row 0 rfl; exact hg) | (apply opv_cat; rfl; rfl; (first | omega | (simp only [size_cat]; omega))) | (apply opv_move; first | exact hid_int rfl | exact hid_bool rfl | rfl) | (apply opv_assign; first | exact hid_int rfl | rfl) | (apply opv_lss <;> rfl) | (apply opv_eql <;> rfl) | (apply opv_pick_t <;> rfl) | (apply opv_add_in; rfl; rfl; omega) | (apply opv_field fld_T0; rfl) | (apply opv_field fld_T1; rfl) | (apply opv_load_blk 0; (first | with_reducible exact sc_int | with_reducible exact sc_ints); rfl; rfl; rfl) | (apply opv_load_ints sc_int; rfl; (first | exact rd_old (by assumption)); (first | omega)) | (apply opv_index_nat (vs := ints _) el_int; rfl; rfl; (first | exact rd_old (by assumption)); (first | (simp only [ints_length]; omega))) | (apply opv_len_ints el_int; rfl; (first | exact rd_old (by assumption))) | (apply opv_load_str 0 st_T; rfl; rfl; rfl) | (apply opv_call; rfl; rfl; exact Cl.stable _ _ _; exact fun w hw => kF _ (by first | exact hw.arr (by assumption)) (by first | exact hw.arr (by assumption)) (by first | exact hw.arr (by assumption))) | (apply opv_call; rfl; rfl; exact Cl.stable _ _ _; exact fun w hw => s_FormatSet_c _ _)); rfl; rfl) | apply px_nil | apply qseq_normal | apply pwp_block | apply qblock_normal | apply pwp_skip | (apply pwp_cond_t; rfl) | (apply pwp_region_any [0, 1, 2, 3, 4, 5, 9, 10, 11, 12, 13] [] 7 (Cl [] w [.blk bk _]); kernel_rfl; decide +kernel; exact Cl.stable _ _ _; exact fun w h => h.sub (by repeat (first | exact List.Sublist.refl _))) | apply qlooks_normal | (apply qstep_in; exact fun w h => h.sub (by repeat (first | exact List.Sublist.refl _ | apply List.Sublist.cons))) | (apply pxa_nil; decide +kernel) | (apply pxa_one 6; decide +kernel; rfl) | (apply pxa_one 7; decide +kernel; rfl) | (apply pxa_one 8; decide +kernel; rfl) | (apply pxa_one 14; decide +kernel; rfl) | (apply pxa_one 15; decide +kernel; rfl) | (apply pxa_one 16; decide +kernel; rfl) | (apply pxa_one 17; decide +kernel; rfl) | (apply pxa_two 6 8; decide +kernel; rfl; rfl) | (apply pxa_two 6 14; decide +kernel; rfl; rfl) | (apply pxa_two 6 15; decide +kernel; rfl; rfl) | (apply pxa_two 7 8; decide +kernel; rfl; rfl) | (apply pxa_two 7 14; decide +kernel; rfl; rfl) | (apply pxa_two 7 15; decide +kernel; rfl; rfl) | (apply px_guard_dec; rfl; rfl; rfl; all_goals (intro hc; try (first | (exfalso; omega)))) | (apply pwp_cond_dec; rfl; all_goals (intro hc; try (first | contradiction))) | (apply px_lit4 ez_str; rfl; (intro w hw; rfl); rfl; (intro w hw; rfl); rfl; (intro w hw; rfl); rfl; (intro w hw; rfl); rfl; rfl; rfl; intro sv))
        all_goals
          refine qround_normal ?_ ⟨k + 1, ⟨rfl, by rw [e]; rfl, trivial⟩, by (try dsimp only); omega, by (try dsimp only); omega, fun w' h => ?_⟩
          · repeat (first | exact same_refl | refine same_upd rfl ?_ | refine same_junk rfl ?_)
          · exact Cl.sub (by assumption) (by repeat (first | exact List.Sublist.slnil | exact List.Sublist.refl _ | apply List.Sublist.cons_cons | exact List.sublist_append_left _ _ | exact List.sublist_append_right _ _ | apply List.Sublist.cons))
  · obtain rfl : k = a.length := by omega
    have hr : fmtT a b c = if wordsT a b a.length = [] then singleB else accT (wordsT a b a.length) := if_pos hf
    rw [hr]
    by_cases hn : wordsT a b a.length = []
    · rw [if_pos hn]
      have hE : ((accT (wordsT a b a.length)).toList == (ByteArray.mk #[]).toList) = true := by rw [hn]; exact beq_self_eq_true _
      repeat' (first | apply pwp_seq | apply pwp_region | (apply px_run; (first | (apply opv_eql_s_r; rfl; rfl; exact hE) | (apply opv_move; first | exact hid_int rfl | exact hid_bool rfl | rfl) | (apply opv_assign; first | rfl) | (apply opv_lss <;> rfl) | (apply opv_pick_t <;> rfl) | (apply opv_pick_f <;> rfl) | (apply opv_field fld_T0; rfl) | (apply opv_load_blk 0; (first | with_reducible exact sc_ints); rfl; rfl; rfl) | (apply opv_len_ints el_int; rfl; (first | exact rd_old (by assumption))) | (apply opv_load_str 0 st_T; rfl; rfl; rfl) | (apply opv_call; rfl; rfl; exact Cl.stable _ _ _; exact fun w hw => kF _ (by first | exact hw.arr (by assumption)) (by first | exact hw.arr (by assumption)) (by first | exact hw.arr (by assumption)))); rfl; rfl) | apply px_nil | (apply px_skip; rfl; rfl) | apply qseq_normal | apply qseq_ret | apply qseq_exit | (apply qblock_exit_same; rfl) | apply pwp_exit | apply pwp_ret | apply qround_exit | (apply pwp_cond_t; rfl) | (apply pwp_cond_f; rfl) | (apply px_guard_dec; rfl; rfl; rfl; all_goals (intro hc; try (first | (exfalso; omega)))))
      all_goals (refine qbody_ret1 (v := .string _) rfl rfl ⟨rfl, fun _ h => h.below⟩)
    · rw [if_neg hn]
      have hp := accT_pos hwp hn
      have hE : ((accT (wordsT a b a.length)).toList == (ByteArray.mk #[]).toList) = false := by
        rw [beq_eq_false_iff_ne]
        intro h
        have h2 := congrArg List.length h
        rw [toList_len, toList_len] at h2
        have h3 : (ByteArray.mk #[]).size = 0 := rfl
        omega
      repeat' (first | apply pwp_seq | apply pwp_region | (apply px_run; (first | (apply opv_eql_s_r; rfl; rfl; exact hE) | (apply opv_move; first | exact hid_int rfl | exact hid_bool rfl | rfl) | (apply opv_assign; first | rfl) | (apply opv_lss <;> rfl) | (apply opv_pick_f <;> rfl) | (apply opv_field fld_T0; rfl) | (apply opv_load_blk 0; (first | with_reducible exact sc_ints); rfl; rfl; rfl) | (apply opv_len_ints el_int; rfl; (first | exact rd_old (by assumption))) | (apply opv_load_str 0 st_T; rfl; rfl; rfl)); rfl; rfl) | apply px_nil | (apply px_skip; rfl; rfl) | apply qseq_normal | apply qseq_exit | (apply qblock_exit_same; rfl) | apply pwp_skip | apply pwp_exit | apply pwp_ret | apply qround_exit | (apply pwp_cond_f; rfl) | (apply px_guard_dec; rfl; rfl; rfl; all_goals (intro hc; try (first | (exfalso; omega)))))
      all_goals (refine qbody_ret1 (v := .string _) rfl rfl ⟨rfl, fun _ h => h.below⟩)
end Go.Proofs.YthbhoofhenmbeaaDoor
