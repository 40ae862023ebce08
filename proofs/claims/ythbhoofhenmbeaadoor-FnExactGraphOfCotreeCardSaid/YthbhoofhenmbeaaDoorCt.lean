/- A cograph's tree as text. -/
import Derived.Test.YthbhoofhenmbeaaDoorCc
import Derived.Test.YthbhoofhenmbeaaDoorFl
import Derived.Test.YthbhoofhenmbeaaDoorKd
import Derived.Test.YthbhoofhenmbeaaDoorSt
namespace Go.Proofs.YthbhoofhenmbeaaDoor
open Go Go.RowKit Go.Pw
def cogB (size : Int) (rows : List Int) : Bool := decide (IsG size rows ∧ pathX size rows 4 = none)
theorem en_s_l17Text : Entry Tryd.prog 30 := ⟨_, Tryd.func30, by kernel_rfl, rfl⟩
set_option maxRecDepth 100000 in
set_option maxHeartbeats 6400000 in
theorem s_l17Text_c (n : Nat) (gv hv : Value) (rows : List Int) (hg : IsG n rows) (hn : n ≤ 7) (hp : P4f (eN (rowN rows))) : ∀ (c set : Nat) (w : World), c ≤ 7 → cntN set ≤ c → set ≠ 0 → set < 2 ^ n → Arr w gv (ints rows) → Arr w hv (ints (barL n rows)) →
    Pure Tryd.prog 30 #[.agg #[.int .i64 n, gv], .agg #[.int .i64 n, hv], .int .i64 set] w (.string (cotT (rowN rows) (rowN (barL n rows)) n c set)) := by
  have h7 := pow_le7 hn
  intro c
  induction c with
  | zero =>
    intro set w _ hc h0 hset _ _
    have := (cnt_pos ⟨set, by omega⟩).2 h0
    dsimp only at this; omega
  | succ c ih =>
    intro set w hc7 hc h0 hset hr hh
    have hpos := (cnt_pos ⟨set, by omega⟩).2 h0
    dsimp only at hpos
    refine pure_enter (args := [_, _, _]) en_s_l17Text Tryd.func30 rfl Tryd.ntmps30 rfl ?_
    have kC : ∀ w', Pure Tryd.prog 54 #[.int .i64 set] w' (.int .i64 (cntN set : Nat)) := fun w' => by
      have := s_CountSet_c set w'
      rw [cntS_nat (by omega)] at this; exact this
    by_cases h1 : cntN set = 1
    · have ht : cotT (rowN rows) (rowN (barL n rows)) n (c + 1) set = fmtS (set : Int) := by
        unfold cotT fmtS; rw [if_pos h1, if_neg (by omega)]
      rw [ht]
      repeat' (first | apply pwp_seq | apply pwp_region | (apply px_run; (first | (apply opv_move; first | exact hid_int rfl) | (apply opv_assign; first | rfl) | (apply opv_eql <;> rfl) | (apply opv_call; rfl; rfl; exact Cl.stable _ _ _; exact fun w hw => kC _) | (apply opv_call; rfl; rfl; exact Cl.stable _ _ _; exact fun w hw => s_FormatSet_c _ _)); rfl; rfl) | apply px_nil | apply qseq_normal | apply qseq_ret | apply pwp_ret | (apply pwp_cond_dec; rfl; all_goals (intro hc; try (first | (exfalso; omega)))) | (apply px_box; rfl; rfl; rfl; rfl; intro bk))
      refine qbody_ret1 (v := .string _) rfl rfl ⟨rfl, fun _ h => h.below⟩
    have hgr := ng_of hg rfl
    have hbg := bar_isG hg
    have hgs := ng_of hbg rfl
    have hcog := cog_parts hgr hgs (fun x y hx hy => bar_eN hg rfl hx hy) hp (eN_sym hg rfl) hset (by omega)
    have kP : ∀ w', Arr w' gv (ints rows) → Gives Tryd.prog 55 #[.agg #[.int .i64 n, gv], .int .i64 set] w' (fun v objs => objs = [.row 3 v (ints ((partsN (rowN rows) n set 128 set).map Int.ofNat))]) := fun w' h => by
      have := s_PartsOf_c n gv rows n set w' h hg rfl hset
      unfold partsL at this; exact this
    have kQ : ∀ w', Arr w' hv (ints (barL n rows)) → Gives Tryd.prog 55 #[.agg #[.int .i64 n, hv], .int .i64 set] w' (fun v objs => objs = [.row 3 v (ints ((partsN (rowN (barL n rows)) n set 128 set).map Int.ofNat))]) := fun w' h => by
      have := s_PartsOf_c n hv (barL n rows) n set w' h hbg rfl hset
      unfold partsL at this; exact this
    have hlenP : ((partsN (rowN rows) n set 128 set).map Int.ofNat).length = (partsN (rowN rows) n set 128 set).length := List.length_map ..
    have hlenQ : ((partsN (rowN (barL n rows)) n set 128 set).map Int.ofNat).length = (partsN (rowN (barL n rows)) n set 128 set).length := List.length_map ..
    have hpow := pow259 (c := c) (by omega)
    have z1 : (ByteArray.mk #[32]).size = 1 := rfl
    have z2 : (ByteArray.mk #[41]).size = 1 := rfl
    have z3 : lmulB.size = 2 := rfl
    have z4 : lparB.size = 2 := rfl
    have hcs := cotT_size (rowN rows) (rowN (barL n rows)) n c
    by_cases hone : (partsN (rowN rows) n set 128 set).length = 1
    · have ht : cotT (rowN rows) (rowN (barL n rows)) n (c + 1) set = foldT (cotT (rowN rows) (rowN (barL n rows)) n c) (partsN (rowN (barL n rows)) n set 128 set) lmulB ++ rparB := by
        rw [cotT, if_neg h1, if_pos hone]
      rw [ht]
      repeat' (first | apply pwp_seq | apply pwp_region | (apply px_run; (first | (apply opv_move; first | exact hid_int rfl | rfl) | (apply opv_assign; first | exact hid_int rfl | rfl) | (apply opv_eql <;> rfl) | (apply opv_len_ints el_int; rfl; (first | exact rd_row 0 rfl)) | (apply opv_load_str 1 st_G; rfl; rfl; rfl) | (apply opv_call; rfl; rfl; exact Cl.stable _ _ _; exact fun w hw => kC _)); rfl; rfl) | apply px_nil | apply qseq_normal | apply pwp_block | apply pwp_skip | (apply pwp_cond_dec; rfl; all_goals (intro hc; try (first | (exfalso; omega)))) | (apply px_box; rfl; rfl; rfl; rfl; intro bk) | (apply px_gives; rfl; rfl; rfl; rfl; rfl; exact fun w hw => kP _ (by first | exact hw.arr (by assumption)); rintro pv _ rfl) | (apply px_gives; rfl; rfl; rfl; rfl; rfl; exact fun w hw => kQ _ (by first | exact hw.arr (by assumption)); rintro qv _ rfl))
      rename_i b3 hcn
      have hin := parts_in hgs hset 128 set ⟨SubN.refl _, fun _ _ _ h _ => h⟩
      have hsm := hcog.1 hone
      have hL128 : (partsN (rowN (barL n rows)) n set 128 set).length ≤ 128 := partsN_length _ _ _ _ _
      generalize partsN (rowN (barL n rows)) n set 128 set = L at *
      refine pwp_loop (τ := Nat) [(7,7), (9,9), (24,39)] (fun i => [(9, .int .i64 (i : Int)), (7, .string (foldT (cotT (rowN rows) (rowN (barL n rows)) n c) (L.take i) lmulB))]) (fun i => Cl [] w [.row 3 qv (ints (L.map Int.ofNat)), .blk bk [.int .i64 n, hv], .blk b3 [.int .i64 n, gv]]) (fun i => i ≤ L.length) (fun i => L.length - i) 0
        ⟨rfl, rfl, trivial⟩ (Nat.zero_le _) (fun w' h => by exact Cl.sub (by assumption) (by repeat (first | exact List.Sublist.slnil | exact List.Sublist.refl _ | apply List.Sublist.cons_cons | exact List.sublist_append_left _ _ | exact List.sublist_append_right _ _ | apply List.Sublist.cons))) (fun J i hx => ?_)
      have hLl : (L.map Int.ofNat).length = L.length := List.length_map ..
      have hfs := foldT_size hcs (L.take i) lmulB
      have hti : (L.take i).length ≤ 128 := by rw [List.length_take]; omega
      have hmul : (L.take i).length * (1 + 259 ^ c) ≤ 128 * (1 + 259 ^ c) := Nat.mul_le_mul_right _ hti
      generalize 259 ^ c = B at *
      by_cases hlt : i < L.length
      · have hpm : L.getD i 0 ∈ L := by simp [List.getD, hlt]
        obtain ⟨hs1, hs0⟩ := hin _ hpm
        have hs2 := hsm _ hpm
        have hpn : L.getD i 0 < 2 ^ n := lt_of_sub hs1 hset
        have hgt : (L.map Int.ofNat).getD i 0 = ((L.getD i 0 : Nat) : Int) := by simp [List.getD, hlt]
        have hci := hcs (L.getD i 0)
        have htk := foldT_take (f := cotT (rowN rows) (rowN (barL n rows)) n c) hlt lmulB
        have kI : ∀ w', Arr w' gv (ints rows) → Arr w' hv (ints (barL n rows)) → Pure Tryd.prog 30 #[.agg #[.int .i64 n, gv], .agg #[.int .i64 n, hv], .int .i64 ((L.map Int.ofNat).getD i 0)] w' (.string (cotT (rowN rows) (rowN (barL n rows)) n c (L.getD i 0))) := fun w' h1 h2 => by
          have := ih (L.getD i 0) w' (by omega) (by omega) hs0 hpn h1 h2
          rw [← hgt] at this; exact this
        generalize hT : cotT (rowN rows) (rowN (barL n rows)) n c (L.getD i 0) = T at *
        generalize hA : foldT (cotT (rowN rows) (rowN (barL n rows)) n c) (L.take i) lmulB = A at *
        repeat' (first | apply pwp_seq | apply pwp_region | (apply px_run; (first | (apply opv_cat; rfl; rfl; (first | omega | (simp only [size_cat]; omega))) | (apply opv_move; first | exact hid_int rfl | rfl) | (apply opv_assign; first | exact hid_int rfl | rfl) | (apply opv_lss <;> rfl) | (apply opv_add_in; rfl; rfl; omega) | (apply opv_load_ints sc_int; rfl; (first | exact rd_row 0 rfl); (first | omega)) | (apply opv_index_nat (vs := ints _) el_int; rfl; rfl; (first | exact rd_row 0 rfl); (first | (simp only [ints_length]; omega))) | (apply opv_len_ints el_int; rfl; (first | exact rd_row 0 rfl)) | (apply opv_load_str 1 st_G; rfl; rfl; rfl) | (apply opv_load_str 2 st_G; rfl; rfl; rfl) | (apply opv_call; rfl; rfl; exact Cl.stable _ _ _; exact fun w hw => kI _ (by first | exact hw.arr (by assumption)) (by first | exact hw.arr (by assumption)))); rfl; rfl) | apply px_nil | apply qseq_normal | apply pwp_block | apply qblock_normal | apply pwp_skip | (apply pwp_region_mix; kernel_rfl; decide +kernel; exact Cl.stable _ _ _) | (apply pwp_cond_dec; rfl; all_goals (intro hc; try (first | (exfalso; omega)))))
        refine qround_normal ?_ ⟨i + 1, ⟨rfl, by rw [htk]; rfl, trivial⟩, by (try dsimp only); omega, by (try dsimp only); omega, fun w' h => ?_⟩
        · repeat (first | exact same_refl | refine same_upd rfl ?_ | refine same_junk rfl ?_)
        · exact Cl.sub (by assumption) (by repeat (first | exact List.Sublist.slnil | exact List.Sublist.refl _ | apply List.Sublist.cons_cons | exact List.sublist_append_left _ _ | exact List.sublist_append_right _ _ | apply List.Sublist.cons))
      · obtain rfl : i = L.length := by omega
        rw [List.take_length] at hfs ⊢
        have hmul2 : L.length * (1 + B) ≤ 128 * (1 + B) := Nat.mul_le_mul_right _ hL128
        repeat' (first | apply pwp_seq | apply pwp_region | (apply px_run; (first | (apply opv_cat; rfl; rfl; (first | omega)) | (apply opv_move; first | exact hid_int rfl | rfl) | (apply opv_assign; first | rfl) | (apply opv_lss <;> rfl) | (apply opv_len_ints el_int; rfl; (first | exact rd_row 0 rfl))); rfl; rfl) | apply px_nil | apply qseq_normal | apply qseq_exit | (apply qblock_exit_same; rfl) | apply pwp_exit | apply pwp_ret | apply qround_exit | (apply pwp_cond_dec; rfl; all_goals (intro hc; try (first | (exfalso; omega)))))
        refine qbody_ret1 (v := .string _) rfl rfl ⟨rfl, fun _ h => h.below⟩
    · have ht : cotT (rowN rows) (rowN (barL n rows)) n (c + 1) set = foldT (cotT (rowN rows) (rowN (barL n rows)) n c) (partsN (rowN rows) n set 128 set) lparB ++ rparB := by
        rw [cotT, if_neg h1, if_neg hone]
      rw [ht]
      repeat' (first | apply pwp_seq | apply pwp_region | (apply px_run; (first | (apply opv_move; first | exact hid_int rfl | rfl) | (apply opv_assign; first | exact hid_int rfl | rfl) | (apply opv_eql <;> rfl) | (apply opv_len_ints el_int; rfl; (first | exact rd_row 0 rfl)) | (apply opv_load_str 1 st_G; rfl; rfl; rfl) | (apply opv_call; rfl; rfl; exact Cl.stable _ _ _; exact fun w hw => kC _)); rfl; rfl) | apply px_nil | apply qseq_normal | apply pwp_block | apply pwp_skip | (apply pwp_cond_dec; rfl; all_goals (intro hc; try (first | (exfalso; omega)))) | (apply px_box; rfl; rfl; rfl; rfl; intro bk) | (apply px_gives; rfl; rfl; rfl; rfl; rfl; exact fun w hw => kP _ (by first | exact hw.arr (by assumption)); rintro pv _ rfl))
      rename_i b3 hcn
      have hin := parts_in hgr hset 128 set ⟨SubN.refl _, fun _ _ _ h _ => h⟩
      have hsm := hcog.2 hone
      have hL128 : (partsN (rowN rows) n set 128 set).length ≤ 128 := partsN_length _ _ _ _ _
      clear kQ hlenQ
      generalize partsN (rowN rows) n set 128 set = L at *
      refine pwp_loop (τ := Nat) [(7,7), (9,9), (24,39)] (fun i => [(9, .int .i64 (i : Int)), (7, .string (foldT (cotT (rowN rows) (rowN (barL n rows)) n c) (L.take i) lparB))]) (fun i => Cl [] w [.row 3 pv (ints (L.map Int.ofNat)), .blk bk [.int .i64 n, hv], .blk b3 [.int .i64 n, gv]]) (fun i => i ≤ L.length) (fun i => L.length - i) 0
        ⟨rfl, rfl, trivial⟩ (Nat.zero_le _) (fun w' h => by exact Cl.sub (by assumption) (by repeat (first | exact List.Sublist.slnil | exact List.Sublist.refl _ | apply List.Sublist.cons_cons | exact List.sublist_append_left _ _ | exact List.sublist_append_right _ _ | apply List.Sublist.cons))) (fun J i hx => ?_)
      have hLl : (L.map Int.ofNat).length = L.length := List.length_map ..
      have hfs := foldT_size hcs (L.take i) lparB
      have hti : (L.take i).length ≤ 128 := by rw [List.length_take]; omega
      have hmul : (L.take i).length * (1 + 259 ^ c) ≤ 128 * (1 + 259 ^ c) := Nat.mul_le_mul_right _ hti
      generalize 259 ^ c = B at *
      by_cases hlt : i < L.length
      · have hpm : L.getD i 0 ∈ L := by simp [List.getD, hlt]
        obtain ⟨hs1, hs0⟩ := hin _ hpm
        have hs2 := hsm _ hpm
        have hpn : L.getD i 0 < 2 ^ n := lt_of_sub hs1 hset
        have hgt : (L.map Int.ofNat).getD i 0 = ((L.getD i 0 : Nat) : Int) := by simp [List.getD, hlt]
        have hci := hcs (L.getD i 0)
        have htk := foldT_take (f := cotT (rowN rows) (rowN (barL n rows)) n c) hlt lparB
        have kI : ∀ w', Arr w' gv (ints rows) → Arr w' hv (ints (barL n rows)) → Pure Tryd.prog 30 #[.agg #[.int .i64 n, gv], .agg #[.int .i64 n, hv], .int .i64 ((L.map Int.ofNat).getD i 0)] w' (.string (cotT (rowN rows) (rowN (barL n rows)) n c (L.getD i 0))) := fun w' h1 h2 => by
          have := ih (L.getD i 0) w' (by omega) (by omega) hs0 hpn h1 h2
          rw [← hgt] at this; exact this
        generalize hT : cotT (rowN rows) (rowN (barL n rows)) n c (L.getD i 0) = T at *
        generalize hA : foldT (cotT (rowN rows) (rowN (barL n rows)) n c) (L.take i) lparB = A at *
        repeat' (first | apply pwp_seq | apply pwp_region | (apply px_run; (first | (apply opv_cat; rfl; rfl; (first | omega | (simp only [size_cat]; omega))) | (apply opv_move; first | exact hid_int rfl | rfl) | (apply opv_assign; first | exact hid_int rfl | rfl) | (apply opv_lss <;> rfl) | (apply opv_add_in; rfl; rfl; omega) | (apply opv_load_ints sc_int; rfl; (first | exact rd_row 0 rfl); (first | omega)) | (apply opv_index_nat (vs := ints _) el_int; rfl; rfl; (first | exact rd_row 0 rfl); (first | (simp only [ints_length]; omega))) | (apply opv_len_ints el_int; rfl; (first | exact rd_row 0 rfl)) | (apply opv_load_str 1 st_G; rfl; rfl; rfl) | (apply opv_load_str 2 st_G; rfl; rfl; rfl) | (apply opv_call; rfl; rfl; exact Cl.stable _ _ _; exact fun w hw => kI _ (by first | exact hw.arr (by assumption)) (by first | exact hw.arr (by assumption)))); rfl; rfl) | apply px_nil | apply qseq_normal | apply pwp_block | apply qblock_normal | apply pwp_skip | (apply pwp_region_mix; kernel_rfl; decide +kernel; exact Cl.stable _ _ _) | (apply pwp_cond_dec; rfl; all_goals (intro hc; try (first | (exfalso; omega)))))
        refine qround_normal ?_ ⟨i + 1, ⟨rfl, by rw [htk]; rfl, trivial⟩, by (try dsimp only); omega, by (try dsimp only); omega, fun w' h => ?_⟩
        · repeat (first | exact same_refl | refine same_upd rfl ?_ | refine same_junk rfl ?_)
        · exact Cl.sub (by assumption) (by repeat (first | exact List.Sublist.slnil | exact List.Sublist.refl _ | apply List.Sublist.cons_cons | exact List.sublist_append_left _ _ | exact List.sublist_append_right _ _ | apply List.Sublist.cons))
      · obtain rfl : i = L.length := by omega
        rw [List.take_length] at hfs ⊢
        have hmul2 : L.length * (1 + B) ≤ 128 * (1 + B) := Nat.mul_le_mul_right _ hL128
        repeat' (first | apply pwp_seq | apply pwp_region | (apply px_run; (first | (apply opv_cat; rfl; rfl; (first | omega)) | (apply opv_move; first | exact hid_int rfl | rfl) | (apply opv_assign; first | rfl) | (apply opv_lss <;> rfl) | (apply opv_len_ints el_int; rfl; (first | exact rd_row 0 rfl))); rfl; rfl) | apply px_nil | apply qseq_normal | apply qseq_exit | (apply qblock_exit_same; rfl) | apply pwp_exit | apply pwp_ret | apply qround_exit | (apply pwp_cond_dec; rfl; all_goals (intro hc; try (first | (exfalso; omega)))))
        refine qbody_ret1 (v := .string _) rfl rfl ⟨rfl, fun _ h => h.below⟩
theorem en_i_cotree : Entry Tryd.prog 33 := ⟨_, Tryd.func33, by kernel_rfl, rfl⟩
set_option maxRecDepth 100000 in
set_option maxHeartbeats 6400000 in
theorem i_cotree_c (n : Nat) (gv hv : Value) (rows : List Int) (hg : IsG n rows) (hn : n ≤ 7) (hp : P4f (eN (rowN rows))) : ∀ (c set : Nat) (w : World), c ≤ 7 → cntN set ≤ c → set ≠ 0 → set < 2 ^ n → Arr w gv (ints rows) → Arr w hv (ints (barL n rows)) →
    Pure Tryd.prog 33 #[.agg #[.int .i64 n, gv], .agg #[.int .i64 n, hv], .int .i64 set] w (.string (cotT (rowN rows) (rowN (barL n rows)) n c set)) := by
  have h7 := pow_le7 hn
  intro c
  induction c with
  | zero =>
    intro set w _ hc h0 hset _ _
    have := (cnt_pos ⟨set, by omega⟩).2 h0
    dsimp only at this; omega
  | succ c ih =>
    intro set w hc7 hc h0 hset hr hh
    have hpos := (cnt_pos ⟨set, by omega⟩).2 h0
    dsimp only at hpos
    refine pure_enter (args := [_, _, _]) en_i_cotree Tryd.func33 rfl Tryd.ntmps33 rfl ?_
    have hia : iand (set : Int) ((set : Int) - 1) = ((set &&& (set - 1) : Nat) : Int) := by
      rw [show (set : Int) - 1 = ((set - 1 : Nat) : Int) by omega, iand_nat (by omega) (by omega)]
    have hob := one_bit set (by omega) h0
    by_cases h1 : cntN set = 1
    · have ht : cotT (rowN rows) (rowN (barL n rows)) n (c + 1) set = fmtS (set : Int) := by
        unfold cotT fmtS; rw [if_pos h1, if_neg (by omega)]
      rw [ht]
      have hz : iand (set : Int) ((set : Int) - 1) = 0 := by rw [hia, hob.2 h1]; rfl
      repeat' (first | apply pwp_seq | apply pwp_region | (apply px_run; (first | (apply opv_move; first | exact hid_int rfl) | (apply opv_assign; first | rfl) | (apply opv_eql <;> rfl) | (apply opv_and <;> rfl) | (apply opv_sub_in; rfl; rfl; omega) | (apply opv_call; rfl; rfl; exact Cl.stable _ _ _; exact fun w hw => i_FormatSet_c _ _)); rfl; rfl) | apply px_nil | apply qseq_normal | apply qseq_ret | apply pwp_ret | (apply pwp_cond_dec; rfl; all_goals (intro hc; try (first | contradiction))) | (apply px_box; rfl; rfl; rfl; rfl; intro bk))
      refine qbody_ret1 (v := .string _) rfl rfl ⟨rfl, fun _ h => h.below⟩
    have hz : ¬ iand (set : Int) ((set : Int) - 1) = 0 := fun h => h1 (hob.1 (by rw [hia] at h; omega))
    have hgr := ng_of hg rfl
    have hbg := bar_isG hg
    have hgs := ng_of hbg rfl
    have hcog := cog_parts hgr hgs (fun x y hx hy => bar_eN hg rfl hx hy) hp (eN_sym hg rfl) hset (by omega)
    have kP : ∀ w', Arr w' gv (ints rows) → Gives Tryd.prog 59 #[.agg #[.int .i64 n, gv], .int .i64 set] w' (fun v objs => objs = [.row 3 v (ints ((partsN (rowN rows) n set 128 set).map Int.ofNat))]) := fun w' h => by
      have := i_parts_c n gv rows n set w' h hg rfl hset
      unfold partsL at this; exact this
    have kQ : ∀ w', Arr w' hv (ints (barL n rows)) → Gives Tryd.prog 59 #[.agg #[.int .i64 n, hv], .int .i64 set] w' (fun v objs => objs = [.row 3 v (ints ((partsN (rowN (barL n rows)) n set 128 set).map Int.ofNat))]) := fun w' h => by
      have := i_parts_c n hv (barL n rows) n set w' h hbg rfl hset
      unfold partsL at this; exact this
    have hlenP : ((partsN (rowN rows) n set 128 set).map Int.ofNat).length = (partsN (rowN rows) n set 128 set).length := List.length_map ..
    have hlenQ : ((partsN (rowN (barL n rows)) n set 128 set).map Int.ofNat).length = (partsN (rowN (barL n rows)) n set 128 set).length := List.length_map ..
    have hpow := pow259 (c := c) (by omega)
    have z1 : (ByteArray.mk #[32]).size = 1 := rfl
    have z2 : (ByteArray.mk #[41]).size = 1 := rfl
    have z3 : lmulB.size = 2 := rfl
    have z4 : lparB.size = 2 := rfl
    have hcs := cotT_size (rowN rows) (rowN (barL n rows)) n c
    by_cases hone : (partsN (rowN rows) n set 128 set).length = 1
    · have ht : cotT (rowN rows) (rowN (barL n rows)) n (c + 1) set = foldT (cotT (rowN rows) (rowN (barL n rows)) n c) (partsN (rowN (barL n rows)) n set 128 set) lmulB ++ rparB := by
        rw [cotT, if_neg h1, if_pos hone]
      rw [ht]
      repeat' (first | apply pwp_seq | apply pwp_region | (apply px_run; (first | (apply opv_move; first | exact hid_int rfl | rfl) | (apply opv_assign; first | rfl) | (apply opv_eql <;> rfl) | (apply opv_and <;> rfl) | (apply opv_sub_in; rfl; rfl; omega) | (apply opv_len_ints el_int; rfl; (first | exact rd_row 0 rfl)) | (apply opv_load_str 1 st_G; rfl; rfl; rfl)); rfl; rfl) | apply px_nil | apply qseq_normal | apply pwp_block | apply pwp_skip | (apply pwp_cond_dec; rfl; all_goals (intro hc; try (first | contradiction | (exfalso; omega)))) | (apply px_box; rfl; rfl; rfl; rfl; intro bk) | (apply px_gives; rfl; rfl; rfl; rfl; rfl; exact fun w hw => kP _ (by first | exact hw.arr (by assumption)); rintro pv _ rfl) | (apply px_gives; rfl; rfl; rfl; rfl; rfl; exact fun w hw => kQ _ (by first | exact hw.arr (by assumption)); rintro qv _ rfl))
      rename_i b3 hcn
      have hin := parts_in hgs hset 128 set ⟨SubN.refl _, fun _ _ _ h _ => h⟩
      have hsm := hcog.1 hone
      have hL128 : (partsN (rowN (barL n rows)) n set 128 set).length ≤ 128 := partsN_length _ _ _ _ _
      generalize partsN (rowN (barL n rows)) n set 128 set = L at *
      refine pwp_loop (τ := Nat) [(7,7), (10,10), (29,40)] (fun i => [(29, .int .i64 (i : Int)), (7, .string (foldT (cotT (rowN rows) (rowN (barL n rows)) n c) (L.take i) lmulB))]) (fun i => Cl [] w [.row 3 qv (ints (L.map Int.ofNat)), .blk bk [.int .i64 n, hv], .blk b3 [.int .i64 n, gv]]) (fun i => i ≤ L.length) (fun i => L.length - i) 0
        ⟨rfl, rfl, trivial⟩ (Nat.zero_le _) (fun w' h => by exact Cl.sub (by assumption) (by repeat (first | exact List.Sublist.slnil | exact List.Sublist.refl _ | apply List.Sublist.cons_cons | exact List.sublist_append_left _ _ | exact List.sublist_append_right _ _ | apply List.Sublist.cons))) (fun J i hx => ?_)
      have hLl : (L.map Int.ofNat).length = L.length := List.length_map ..
      have hfs := foldT_size hcs (L.take i) lmulB
      have hti : (L.take i).length ≤ 128 := by rw [List.length_take]; omega
      have hmul : (L.take i).length * (1 + 259 ^ c) ≤ 128 * (1 + 259 ^ c) := Nat.mul_le_mul_right _ hti
      generalize 259 ^ c = B at *
      by_cases hlt : i < L.length
      · have hpm : L.getD i 0 ∈ L := by simp [List.getD, hlt]
        obtain ⟨hs1, hs0⟩ := hin _ hpm
        have hs2 := hsm _ hpm
        have hpn : L.getD i 0 < 2 ^ n := lt_of_sub hs1 hset
        have hgt : (L.map Int.ofNat).getD i 0 = ((L.getD i 0 : Nat) : Int) := by simp [List.getD, hlt]
        have hci := hcs (L.getD i 0)
        have htk := foldT_take (f := cotT (rowN rows) (rowN (barL n rows)) n c) hlt lmulB
        rw [ByteArray.append_assoc] at htk
        have kI : ∀ w', Arr w' gv (ints rows) → Arr w' hv (ints (barL n rows)) → Pure Tryd.prog 33 #[.agg #[.int .i64 n, gv], .agg #[.int .i64 n, hv], .int .i64 ((L.map Int.ofNat).getD i 0)] w' (.string (cotT (rowN rows) (rowN (barL n rows)) n c (L.getD i 0))) := fun w' h1 h2 => by
          have := ih (L.getD i 0) w' (by omega) (by omega) hs0 hpn h1 h2
          rw [← hgt] at this; exact this
        generalize hT : cotT (rowN rows) (rowN (barL n rows)) n c (L.getD i 0) = T at *
        generalize hA : foldT (cotT (rowN rows) (rowN (barL n rows)) n c) (L.take i) lmulB = A at *
        repeat' (first | apply pwp_seq | apply pwp_region | (apply px_run; (first | (apply opv_cat; rfl; rfl; (first | omega | (simp only [size_cat]; omega))) | (apply opv_move; first | exact hid_int rfl | rfl) | (apply opv_assign; first | exact hid_int rfl | rfl) | (apply opv_lss <;> rfl) | (apply opv_add_in; rfl; rfl; omega) | (apply opv_load_ints sc_int; rfl; (first | exact rd_row 0 rfl); (first | omega)) | (apply opv_index_nat (vs := ints _) el_int; rfl; rfl; (first | exact rd_row 0 rfl); (first | (simp only [ints_length]; omega))) | (apply opv_load_str 1 st_G; rfl; rfl; rfl) | (apply opv_load_str 2 st_G; rfl; rfl; rfl) | (apply opv_call; rfl; rfl; exact Cl.stable _ _ _; exact fun w hw => kI _ (by first | exact hw.arr (by assumption)) (by first | exact hw.arr (by assumption)))); rfl; rfl) | apply px_nil | apply qseq_normal | apply pwp_block | apply qblock_normal | apply pwp_skip | (apply pwp_cond_dec; rfl; all_goals (intro hc; try (first | (exfalso; omega)))))
        refine qround_normal ?_ ⟨i + 1, ⟨rfl, by rw [htk]; rfl, trivial⟩, by (try dsimp only); omega, by (try dsimp only); omega, fun w' h => ?_⟩
        · repeat (first | exact same_refl | refine same_upd rfl ?_ | refine same_junk rfl ?_)
        · exact Cl.sub (by assumption) (by repeat (first | exact List.Sublist.slnil | exact List.Sublist.refl _ | apply List.Sublist.cons_cons | exact List.sublist_append_left _ _ | exact List.sublist_append_right _ _ | apply List.Sublist.cons))
      · obtain rfl : i = L.length := by omega
        rw [List.take_length] at hfs ⊢
        have hmul2 : L.length * (1 + B) ≤ 128 * (1 + B) := Nat.mul_le_mul_right _ hL128
        repeat' (first | apply pwp_seq | apply pwp_region | (apply px_run; (first | (apply opv_cat; rfl; rfl; (first | omega)) | (apply opv_move; first | rfl) | (apply opv_assign; first | rfl) | (apply opv_lss <;> rfl)); rfl; rfl) | apply px_nil | apply qseq_normal | apply qseq_exit | (apply qblock_exit_same; rfl) | apply pwp_exit | apply pwp_ret | apply qround_exit | (apply pwp_cond_dec; rfl; all_goals (intro hc; try (first | (exfalso; omega)))))
        refine qbody_ret1 (v := .string _) rfl rfl ⟨rfl, fun _ h => h.below⟩
    · have ht : cotT (rowN rows) (rowN (barL n rows)) n (c + 1) set = foldT (cotT (rowN rows) (rowN (barL n rows)) n c) (partsN (rowN rows) n set 128 set) lparB ++ rparB := by
        rw [cotT, if_neg h1, if_neg hone]
      rw [ht]
      repeat' (first | apply pwp_seq | apply pwp_region | (apply px_run; (first | (apply opv_move; first | exact hid_int rfl | rfl) | (apply opv_assign; first | rfl) | (apply opv_eql <;> rfl) | (apply opv_and <;> rfl) | (apply opv_sub_in; rfl; rfl; omega) | (apply opv_len_ints el_int; rfl; (first | exact rd_row 0 rfl)) | (apply opv_load_str 1 st_G; rfl; rfl; rfl)); rfl; rfl) | apply px_nil | apply qseq_normal | apply pwp_block | apply pwp_skip | (apply pwp_cond_dec; rfl; all_goals (intro hc; try (first | contradiction | (exfalso; omega)))) | (apply px_box; rfl; rfl; rfl; rfl; intro bk) | (apply px_gives; rfl; rfl; rfl; rfl; rfl; exact fun w hw => kP _ (by first | exact hw.arr (by assumption)); rintro pv _ rfl))
      rename_i b3 hcn
      have hin := parts_in hgr hset 128 set ⟨SubN.refl _, fun _ _ _ h _ => h⟩
      have hsm := hcog.2 hone
      have hL128 : (partsN (rowN rows) n set 128 set).length ≤ 128 := partsN_length _ _ _ _ _
      clear kQ hlenQ
      generalize partsN (rowN rows) n set 128 set = L at *
      refine pwp_loop (τ := Nat) [(7,7), (10,10), (29,40)] (fun i => [(29, .int .i64 (i : Int)), (7, .string (foldT (cotT (rowN rows) (rowN (barL n rows)) n c) (L.take i) lparB))]) (fun i => Cl [] w [.row 3 pv (ints (L.map Int.ofNat)), .blk bk [.int .i64 n, hv], .blk b3 [.int .i64 n, gv]]) (fun i => i ≤ L.length) (fun i => L.length - i) 0
        ⟨rfl, rfl, trivial⟩ (Nat.zero_le _) (fun w' h => by exact Cl.sub (by assumption) (by repeat (first | exact List.Sublist.slnil | exact List.Sublist.refl _ | apply List.Sublist.cons_cons | exact List.sublist_append_left _ _ | exact List.sublist_append_right _ _ | apply List.Sublist.cons))) (fun J i hx => ?_)
      have hLl : (L.map Int.ofNat).length = L.length := List.length_map ..
      have hfs := foldT_size hcs (L.take i) lparB
      have hti : (L.take i).length ≤ 128 := by rw [List.length_take]; omega
      have hmul : (L.take i).length * (1 + 259 ^ c) ≤ 128 * (1 + 259 ^ c) := Nat.mul_le_mul_right _ hti
      generalize 259 ^ c = B at *
      by_cases hlt : i < L.length
      · have hpm : L.getD i 0 ∈ L := by simp [List.getD, hlt]
        obtain ⟨hs1, hs0⟩ := hin _ hpm
        have hs2 := hsm _ hpm
        have hpn : L.getD i 0 < 2 ^ n := lt_of_sub hs1 hset
        have hgt : (L.map Int.ofNat).getD i 0 = ((L.getD i 0 : Nat) : Int) := by simp [List.getD, hlt]
        have hci := hcs (L.getD i 0)
        have htk := foldT_take (f := cotT (rowN rows) (rowN (barL n rows)) n c) hlt lparB
        rw [ByteArray.append_assoc] at htk
        have kI : ∀ w', Arr w' gv (ints rows) → Arr w' hv (ints (barL n rows)) → Pure Tryd.prog 33 #[.agg #[.int .i64 n, gv], .agg #[.int .i64 n, hv], .int .i64 ((L.map Int.ofNat).getD i 0)] w' (.string (cotT (rowN rows) (rowN (barL n rows)) n c (L.getD i 0))) := fun w' h1 h2 => by
          have := ih (L.getD i 0) w' (by omega) (by omega) hs0 hpn h1 h2
          rw [← hgt] at this; exact this
        generalize hT : cotT (rowN rows) (rowN (barL n rows)) n c (L.getD i 0) = T at *
        generalize hA : foldT (cotT (rowN rows) (rowN (barL n rows)) n c) (L.take i) lparB = A at *
        repeat' (first | apply pwp_seq | apply pwp_region | (apply px_run; (first | (apply opv_cat; rfl; rfl; (first | omega | (simp only [size_cat]; omega))) | (apply opv_move; first | exact hid_int rfl | rfl) | (apply opv_assign; first | exact hid_int rfl | rfl) | (apply opv_lss <;> rfl) | (apply opv_add_in; rfl; rfl; omega) | (apply opv_load_ints sc_int; rfl; (first | exact rd_row 0 rfl); (first | omega)) | (apply opv_index_nat (vs := ints _) el_int; rfl; rfl; (first | exact rd_row 0 rfl); (first | (simp only [ints_length]; omega))) | (apply opv_load_str 1 st_G; rfl; rfl; rfl) | (apply opv_load_str 2 st_G; rfl; rfl; rfl) | (apply opv_call; rfl; rfl; exact Cl.stable _ _ _; exact fun w hw => kI _ (by first | exact hw.arr (by assumption)) (by first | exact hw.arr (by assumption)))); rfl; rfl) | apply px_nil | apply qseq_normal | apply pwp_block | apply qblock_normal | apply pwp_skip | (apply pwp_cond_dec; rfl; all_goals (intro hc; try (first | (exfalso; omega)))))
        refine qround_normal ?_ ⟨i + 1, ⟨rfl, by rw [htk]; rfl, trivial⟩, by (try dsimp only); omega, by (try dsimp only); omega, fun w' h => ?_⟩
        · repeat (first | exact same_refl | refine same_upd rfl ?_ | refine same_junk rfl ?_)
        · exact Cl.sub (by assumption) (by repeat (first | exact List.Sublist.slnil | exact List.Sublist.refl _ | apply List.Sublist.cons_cons | exact List.sublist_append_left _ _ | exact List.sublist_append_right _ _ | apply List.Sublist.cons))
      · obtain rfl : i = L.length := by omega
        rw [List.take_length] at hfs ⊢
        have hmul2 : L.length * (1 + B) ≤ 128 * (1 + B) := Nat.mul_le_mul_right _ hL128
        repeat' (first | apply pwp_seq | apply pwp_region | (apply px_run; (first | (apply opv_cat; rfl; rfl; (first | omega)) | (apply opv_move; first | rfl) | (apply opv_assign; first | rfl) | (apply opv_lss <;> rfl)); rfl; rfl) | apply px_nil | apply qseq_normal | apply qseq_exit | (apply qblock_exit_same; rfl) | apply pwp_exit | apply pwp_ret | apply qround_exit | (apply pwp_cond_dec; rfl; all_goals (intro hc; try (first | (exfalso; omega)))))
        refine qbody_ret1 (v := .string _) rfl rfl ⟨rfl, fun _ h => h.below⟩
theorem en_s_CotreeOf : Entry Tryd.prog 12 := ⟨_, Tryd.func12, by kernel_rfl, rfl⟩
theorem s_CotreeOf_c (size : Int) (gv : Value) (rows : List Int) (w : World) (hr : Arr w gv (ints rows)) :
    Pure Tryd.prog 12 #[.agg #[.int .i64 size, gv]] w (.tuple #[.string (cotX size rows), .bool (cogB size rows)]) := by
  refine pure_enter (args := [_]) en_s_CotreeOf Tryd.func12 rfl Tryd.ntmps12 rfl ?_
  have kI : ∀ w', Arr w' gv (ints rows) → Pure Tryd.prog 28 #[.agg #[.int .i64 size, gv]] w' (.bool (cogB size rows)) := fun w' h => s_IsCograph_c size gv rows w' h
  by_cases hc0 : IsG size rows ∧ pathX size rows 4 = none
  case neg =>
    have hB : cogB size rows = false := decide_eq_false hc0
    have hL : cotX size rows = ByteArray.empty := if_neg hc0
    rw [hB] at kI
    rw [hB, hL]
    repeat' (first | apply pwp_seq | apply pwp_region | (apply px_run; (first | (apply opv_assign; first | exact hid_bool rfl | rfl) | (apply opv_not <;> rfl) | (apply opv_load_str 0 st_G; rfl; rfl; rfl) | (apply opv_call; rfl; rfl; exact Cl.stable _ _ _; exact fun w hw => kI _ (by first | exact hw.arr (by assumption)))); rfl; rfl) | apply px_nil | apply qseq_normal | apply qseq_ret | apply pwp_ret | (apply pwp_cond_t; rfl) | (apply px_box; rfl; rfl; rfl; rfl; intro bk))
    refine qbody_ret2 (v := .string _) (v' := .bool _) rfl rfl rfl ⟨rfl, fun _ h => h.below⟩
  have hB : cogB size rows = true := decide_eq_true hc0
  rw [hB] at kI ⊢
  obtain ⟨hg, hpn⟩ := hc0
  obtain ⟨n, rfl, hrl, hn1, hn7⟩ := isG_size hg
  have h7 := pow_le7 hn7
  have hpos := Nat.two_pow_pos n
  have h2 : 2 ^ 1 ≤ 2 ^ n := Nat.pow_le_pow_right (by omega) hn1
  have hbz : barZ (n : Int) rows = n := if_pos hg
  have hL : cotX (n : Int) rows = cotT (rowN rows) (rowN (barL n rows)) n 7 (2 ^ n - 1) := if_pos ⟨hg, hpn⟩
  rw [hL]
  have hco := fun w' h => s_ComplementOf_c n gv rows w' h
  rw [hbz, decide_eq_true hg] at hco
  have hall : ishl 1 (n : Int) - 1 = ((2 ^ n - 1 : Nat) : Int) := by rw [ishl_one_nat (by omega)]; omega
  have kA : ∀ w' hv, Arr w' gv (ints rows) → Arr w' hv (ints (barL n rows)) → Pure Tryd.prog 30 #[.agg #[.int .i64 n, gv], .agg #[.int .i64 n, hv], .int .i64 (ishl 1 (n : Int) - 1)] w' (.string (cotT (rowN rows) (rowN (barL n rows)) n 7 (2 ^ n - 1))) := fun w' hv h1 h2 => by
    have := s_l17Text_c n gv hv rows hg hn7 (path_none hg rfl hpn) 7 (2 ^ n - 1) w' (by omega) (cntN_le7 _) (by omega) (by omega) h1 h2
    rw [hall]; exact this
  repeat' (first | apply pwp_seq | apply pwp_region | (apply px_run; (first | (apply opv_move; first | rfl) | (apply opv_assign; first | exact hid_bool rfl | rfl) | (apply opv_not <;> rfl) | (apply opv_sub_in; rfl; rfl; omega) | (apply opv_shl; rfl; rfl; omega) | (apply opv_field fld_G0; rfl) | (apply opv_load_blk 2; (first | with_reducible exact sc_int); rfl; rfl; rfl) | (apply opv_load_str 0 st_G; rfl; rfl; rfl) | (apply opv_load_str 2 st_G; rfl; rfl; rfl) | (apply opv_extract; rfl; rfl) | (apply opv_call; rfl; rfl; exact Cl.stable _ _ _; exact fun w hw => kI _ (by first | exact hw.arr (by assumption))) | (apply opv_call; rfl; rfl; exact Cl.stable _ _ _; exact fun w hw => kA _ _ (by first | exact hw.arr (by assumption)) (by first | exact hw.rowArr (k := 1) rfl))); rfl; rfl) | apply px_nil | apply qseq_normal | apply pwp_skip | apply pwp_ret | (apply pwp_cond_f; rfl) | (apply pwp_region_mix; kernel_rfl; decide +kernel; exact Cl.stable _ _ _) | (apply px_box; rfl; rfl; rfl; rfl; intro bk) | (apply px_alloc st_G; rfl; rfl; rfl; intro bk) | (apply px_store_str 0 st_G; rfl; rfl; rfl; rfl; rfl; (intro w hw; (first | refine all2 rfl ?_ ?_) <;> (first | rfl | exact stor_row 1 hw rfl)); rfl) | (apply px_gives; rfl; rfl; rfl; rfl; rfl; exact fun w hw => hco _ (by first | exact hw.arr (by assumption)); rintro _ _ ⟨hv, rfl, rfl⟩))
  refine qbody_ret2 (v := .string _) (v' := .bool _) rfl rfl rfl ⟨rfl, fun _ h => h.below⟩
theorem en_i_CotreeOf : Entry Tryd.prog 14 := ⟨_, Tryd.func14, by kernel_rfl, rfl⟩
theorem i_CotreeOf_c (size : Int) (gv : Value) (rows : List Int) (w : World) (hr : Arr w gv (ints rows)) :
    Pure Tryd.prog 14 #[.agg #[.int .i64 size, gv]] w (.tuple #[.string (cotX size rows), .bool (cogB size rows)]) := by
  refine pure_enter (args := [_]) en_i_CotreeOf Tryd.func14 rfl Tryd.ntmps14 rfl ?_
  have kI : ∀ w', Arr w' gv (ints rows) → Pure Tryd.prog 31 #[.agg #[.int .i64 size, gv]] w' (.bool (cogB size rows)) := fun w' h => i_IsCograph_c size gv rows w' h
  by_cases hc0 : IsG size rows ∧ pathX size rows 4 = none
  case neg =>
    have hB : cogB size rows = false := decide_eq_false hc0
    have hL : cotX size rows = ByteArray.empty := if_neg hc0
    rw [hB] at kI
    rw [hB, hL]
    repeat' (first | apply pwp_seq | apply pwp_region | (apply px_run; (first | (apply opv_assign; first | exact hid_bool rfl | rfl) | (apply opv_not <;> rfl) | (apply opv_load_str 0 st_G; rfl; rfl; rfl) | (apply opv_call; rfl; rfl; exact Cl.stable _ _ _; exact fun w hw => kI _ (by first | exact hw.arr (by assumption)))); rfl; rfl) | apply px_nil | apply qseq_normal | apply qseq_ret | apply pwp_ret | (apply pwp_cond_t; rfl) | (apply px_box; rfl; rfl; rfl; rfl; intro bk))
    refine qbody_ret2 (v := .string _) (v' := .bool _) rfl rfl rfl ⟨rfl, fun _ h => h.below⟩
  have hB : cogB size rows = true := decide_eq_true hc0
  rw [hB] at kI ⊢
  obtain ⟨hg, hpn⟩ := hc0
  obtain ⟨n, rfl, hrl, hn1, hn7⟩ := isG_size hg
  have h7 := pow_le7 hn7
  have hpos := Nat.two_pow_pos n
  have h2 : 2 ^ 1 ≤ 2 ^ n := Nat.pow_le_pow_right (by omega) hn1
  have hbz : barZ (n : Int) rows = n := if_pos hg
  have hL : cotX (n : Int) rows = cotT (rowN rows) (rowN (barL n rows)) n 7 (2 ^ n - 1) := if_pos ⟨hg, hpn⟩
  rw [hL]
  have hco := fun w' h => i_ComplementOf_c n gv rows w' h
  rw [hbz, decide_eq_true hg] at hco
  have hall : ishl 1 (n : Int) - 1 = ((2 ^ n - 1 : Nat) : Int) := by rw [ishl_one_nat (by omega)]; omega
  have kA : ∀ w', Pure Tryd.prog 34 #[.agg #[.int .i64 n, gv]] w' (.int .i64 ((2 ^ n - 1 : Nat) : Int)) := fun w' => by
    have := i_all_c n gv w' (by omega)
    rw [hall] at this; exact this
  have kT : ∀ w' hv, Arr w' gv (ints rows) → Arr w' hv (ints (barL n rows)) → Pure Tryd.prog 33 #[.agg #[.int .i64 n, gv], .agg #[.int .i64 n, hv], .int .i64 ((2 ^ n - 1 : Nat) : Int)] w' (.string (cotT (rowN rows) (rowN (barL n rows)) n 7 (2 ^ n - 1))) := fun w' hv h1 h2 =>
    i_cotree_c n gv hv rows hg hn7 (path_none hg rfl hpn) 7 (2 ^ n - 1) w' (by omega) (cntN_le7 _) (by omega) (by omega) h1 h2
  repeat' (first | apply pwp_seq | apply pwp_region | (apply px_run; (first | (apply opv_move; first | rfl) | (apply opv_assign; first | exact hid_bool rfl | rfl) | (apply opv_not <;> rfl) | (apply opv_load_str 0 st_G; rfl; rfl; rfl) | (apply opv_load_str 2 st_G; rfl; rfl; rfl) | (apply opv_extract; rfl; rfl) | (apply opv_call; rfl; rfl; exact Cl.stable _ _ _; exact fun w hw => kI _ (by first | exact hw.arr (by assumption))) | (apply opv_call; rfl; rfl; exact Cl.stable _ _ _; exact fun w hw => kA _) | (apply opv_call; rfl; rfl; exact Cl.stable _ _ _; exact fun w hw => kT _ _ (by first | exact hw.arr (by assumption)) (by first | exact hw.rowArr (k := 1) rfl))); rfl; rfl) | apply px_nil | apply qseq_normal | apply pwp_skip | apply pwp_ret | (apply pwp_cond_f; rfl) | (apply pwp_region_mix; kernel_rfl; decide +kernel; exact Cl.stable _ _ _) | (apply px_box; rfl; rfl; rfl; rfl; intro bk) | (apply px_alloc st_G; rfl; rfl; rfl; intro bk) | (apply px_store_str 0 st_G; rfl; rfl; rfl; rfl; rfl; (intro w hw; (first | refine all2 rfl ?_ ?_) <;> (first | rfl | exact stor_row 1 hw rfl)); rfl) | (apply px_gives; rfl; rfl; rfl; rfl; rfl; exact fun w hw => hco _ (by first | exact hw.arr (by assumption)); rintro _ _ ⟨hv, rfl, rfl⟩))
  refine qbody_ret2 (v := .string _) (v' := .bool _) rfl rfl rfl ⟨rfl, fun _ h => h.below⟩
end Go.Proofs.YthbhoofhenmbeaaDoor
