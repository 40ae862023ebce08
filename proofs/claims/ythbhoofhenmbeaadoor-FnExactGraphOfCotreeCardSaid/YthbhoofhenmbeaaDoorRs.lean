import Derived.Test.YthbhoofhenmbeaaDoorPwPcc
import Derived.Test.YthbhoofhenmbeaaDoorPwPqg
import Derived.Test.YthbhoofhenmbeaaDoorKd
import Derived.Test.YthbhoofhenmbeaaDoorRd
import Derived.Test.YthbhoofhenmbeaaDoorPwPrs
import Derived.Test.YthbhoofhenmbeaaDoorPwOri
/- The plain mathematics of quotients. -/
namespace Go.Pw
open Go
/-- Between two disjoint modules all are joined or none. -/
theorem between_nat {n : Nat} {r : Nat → Nat} (hg : NG n r) {A B : Nat} (hA : ModN n r A) (hB : ModN n r B) (hAn : A < 2 ^ n) (hBn : B < 2 ^ n) (h0 : A &&& B = 0) {a b : Nat} (ha : A.testBit a = true) (hb : B.testBit b = true) :
    nbN r A n &&& B ≠ 0 ↔ (r a).testBit b = true := by
  have lt : ∀ {S x : Nat}, S < 2 ^ n → S.testBit x = true → x < n := fun {S x} hS hx => by
    rcases Nat.lt_or_ge x n with h | h
    · exact h
    · rw [Nat.testBit_lt_two_pow (Nat.lt_of_lt_of_le hS (Nat.pow_le_pow_right (by omega) h))] at hx; cases hx
  have dis : ∀ x, A.testBit x = true → B.testBit x = true → False := fun x h1 h2 => by
    have : (A &&& B).testBit x = true := by rw [Nat.testBit_and, h1, h2]; rfl
    rw [h0, Nat.zero_testBit] at this; cases this
  have an := lt hAn ha
  have bn := lt hBn hb
  have notA : ∀ x, B.testBit x = true → A.testBit x = false := fun x hx => by
    cases h : A.testBit x with
    | false => rfl
    | true => exact (dis x h hx).elim
  have notB : B.testBit a = false := by
    cases h : B.testBit a with
    | false => rfl
    | true => exact (dis a ha h).elim
  constructor
  · intro h
    obtain ⟨x, hx1, hx2⟩ := and_ne_zero h
    obtain ⟨v, hv, hvA, hvx⟩ := (nbN_bit r A x n).1 hx1
    have xn := lt hBn hx2
    have h1 : (r a).testBit x = true := by rw [hA.2 a v ha hvA x xn (notA x hx2)]; exact hvx
    rw [hg.sym a x an xn] at h1
    rw [hB.2 x b hx2 hb a an notB] at h1
    rw [hg.sym a b an bn]; exact h1
  · intro h e
    have h1 : (nbN r A n).testBit b = true := (nbN_bit r A b n).2 ⟨a, an, ha, h⟩
    have : (nbN r A n &&& B).testBit b = true := by rw [Nat.testBit_and, h1, hb]; rfl
    rw [e, Nat.zero_testBit] at this; cases this
/-- Parts taken one after another: modules, none met before. -/
def qGo (size : Int) (rows : List Int) : Int → List Int → Option Int
  | S, [] => some S
  | S, p :: l => if modP size rows p ∧ iand S p = 0 then qGo size rows (ior S p) l else none
theorem qGo_spec {size : Int} {rows : List Int} {n : Nat} (hg : IsG size rows) (hn : size = n) : ∀ (l : List Int) (S : Nat), S < 2 ^ n → ∀ X, qGo size rows (S : Int) l = some X →
    (∀ p ∈ l, modP size rows p ∧ iand (S : Int) p = 0) ∧ l.Pairwise (fun p q => iand p q = 0) ∧ l.length + cntN S ≤ 7 := by
  obtain ⟨n', hn', _, _, hn7⟩ := isG_size hg
  obtain rfl : n' = n := by omega
  have h7 : 2 ^ n' ≤ 2 ^ 7 := Nat.pow_le_pow_right (by omega) hn7
  intro l
  induction l with
  | nil =>
    intro S hS X _
    refine ⟨fun p hp => (List.not_mem_nil hp).elim, .nil, ?_⟩
    have := cnt_le ⟨n', by omega⟩ ⟨S, by omega⟩ hS
    dsimp only at this
    simp; omega
  | cons p l ih =>
    intro S hS X h
    unfold qGo at h
    split at h
    · rename_i hp
      obtain ⟨M, rfl, hM, _⟩ := set_nat hn hn7 hp.1.1.2
      have hM0 : M ≠ 0 := fun e => hp.1.2.1 (by rw [e]; rfl)
      have hSM : S &&& M = 0 := by have := hp.2; rw [iand_nat (by omega) (by omega)] at this; omega
      rw [ior_nat (by omega) (by omega)] at h
      have hor : S ||| M < 2 ^ n' := Nat.or_lt_two_pow hS hM
      obtain ⟨i1, i2, i3⟩ := ih (S ||| M) hor X h
      have key : ∀ q ∈ l, iand (S : Int) q = 0 ∧ iand (M : Int) q = 0 := fun q hq => by
        obtain ⟨hq1, hq2⟩ := i1 q hq
        obtain ⟨Q, rfl, hQ, _⟩ := set_nat hn hn7 hq1.1.2
        rw [iand_nat (by omega) (by omega)] at hq2
        have h0 : (S ||| M) &&& Q = 0 := by omega
        rw [Nat.and_or_distrib_right] at h0
        have h1 : S &&& Q = 0 := by have := @Nat.left_le_or (S &&& Q) (M &&& Q); omega
        have h2 : M &&& Q = 0 := by have := @Nat.right_le_or (S &&& Q) (M &&& Q); omega
        rw [iand_nat (by omega) (by omega), iand_nat (by omega) (by omega), h1, h2]
        exact ⟨rfl, rfl⟩
      refine ⟨fun q hq => ?_, List.pairwise_cons.2 ⟨fun q hq => (key q hq).2, i2⟩, ?_⟩
      · rcases List.mem_cons.1 hq with rfl | hq
        · exact hp
        · exact ⟨(i1 q hq).1, (key q hq).1⟩
      · have hlt : cntN S < cntN (S ||| M) := cnt_lt (by omega) (fun i hi => by rw [Nat.testBit_or, hi]; rfl) fun e => by
          have : M &&& M = 0 := by
            have h1 : (S ||| M) &&& M = M := by
              apply Nat.eq_of_testBit_eq
              intro i
              rw [Nat.testBit_and, Nat.testBit_or]
              cases S.testBit i <;> cases M.testBit i <;> rfl
            rw [← e, hSM] at h1
            rw [← h1]; rfl
          rw [Nat.and_self] at this
          exact hM0 this
        simp only [List.length_cons]; omega
    · cases h
def qOkP (size : Int) (rows parts : List Int) : Prop := IsG size rows ∧ qGo size rows 0 parts = some (ishl 1 size - 1)
instance (size : Int) (rows parts : List Int) : Decidable (qOkP size rows parts) := by unfold qOkP; infer_instance
def qJ (rows parts : List Int) (v u : Nat) : Bool := decide (iand (nbr rows (parts.getD v 0)) (parts.getD u 0) ≠ 0)
def qZ (size : Int) (rows parts : List Int) : Int := if qOkP size rows parts then parts.length else 0
def qL (size : Int) (rows parts : List Int) : List Int := if qOkP size rows parts then gRows parts.length (seenP (qJ rows parts) parts.length 0) else []
theorem drop_getD {l : List Int} {k : Nat} (h : k < l.length) : l.drop k = l.getD k 0 :: l.drop (k + 1) := by
  rw [List.drop_eq_getElem_cons h]; simp [List.getD, h]
theorem qGo_step {size : Int} {rows parts : List Int} {S : Int} {k : Nat} (h : k < parts.length) (h1 : modP size rows (parts.getD k 0)) (h2 : iand S (parts.getD k 0) = 0) :
    qGo size rows S (parts.drop k) = qGo size rows (ior S (parts.getD k 0)) (parts.drop (k + 1)) := by
  rw [drop_getD h]; unfold qGo; rw [if_pos ⟨h1, h2⟩]; cases parts.drop (k + 1) <;> rfl
theorem qGo_stop {size : Int} {rows parts : List Int} {S : Int} {k : Nat} (h : k < parts.length) (h1 : ¬ (modP size rows (parts.getD k 0) ∧ iand S (parts.getD k 0) = 0)) : qGo size rows S (parts.drop k) = none := by
  rw [drop_getD h]; unfold qGo; rw [if_neg h1]
theorem qOk_no {size : Int} {rows parts : List Int} (h : qGo size rows 0 parts = none) : ¬ qOkP size rows parts := fun hq => by rw [hq.2] at h; cases h
/-- One of the parts that were taken. -/
theorem q_part {size : Int} {rows parts : List Int} {n : Nat} (hg : IsG size rows) (hn : size = n) {X : Int} (h : qGo size rows 0 parts = some X) {i : Nat} (hi : i < parts.length) :
    ∃ A : Nat, parts.getD i 0 = A ∧ A < 2 ^ n ∧ A < 128 ∧ ModN n (rowN rows) A ∧ (listS (parts.getD i 0)).getD 0 0 = (lowN A : Nat) ∧ lowN A < n ∧ A.testBit (lowN A) = true ∧ 0 < (listS (parts.getD i 0)).length := by
  obtain ⟨n', hn', _, _, hn7⟩ := isG_size hg
  obtain rfl : n' = n := by omega
  obtain ⟨h1, _, _⟩ := qGo_spec hg hn parts 0 (Nat.two_pow_pos _) X h
  have hm := (h1 _ (getD_mem hi)).1
  obtain ⟨A, hA, hA1, hA2⟩ := set_nat hn hn7 hm.1.2
  rw [hA] at hm ⊢
  have hM := (modQ_iff hg hn hA1).1 hm.2
  obtain ⟨l1, l2, _⟩ := low_spec ⟨A, hA2⟩ hM.1
  refine ⟨A, rfl, hA1, hA2, hM, low_list hA2, has_lt hA1 l1, l1, ?_⟩
  have : ((lowN A : Nat) : Int) ∈ listS (A : Int) := mem_listS.2 ⟨⟨by omega, by omega⟩, lowN A, rfl, l2, by rw [hasB_nat (by omega) (by dsimp only at l2; omega)]; exact l1⟩
  exact List.length_pos_of_mem this
theorem q_edge {size : Int} {rows parts : List Int} {n : Nat} (hg : IsG size rows) (hn : size = n) {X : Int} (h : qGo size rows 0 parts = some X) {i k : Nat} (hi : i < parts.length) (hk : k < i) :
    hasB (rows.getD ((listS (parts.getD i 0)).getD 0 0).toNat 0) ((listS (parts.getD k 0)).getD 0 0) = qJ rows parts k i := by
  obtain ⟨n', hn', _, _, hn7⟩ := isG_size hg
  obtain rfl : n' = n := by omega
  obtain ⟨A, a1, a2, a3, a4, a5, a6, a7, _⟩ := q_part hg hn h hi
  obtain ⟨B, b1, b2, b3, b4, b5, b6, b7, _⟩ := q_part hg hn h (i := k) (by omega)
  obtain ⟨_, hp, _⟩ := qGo_spec hg hn parts 0 (Nat.two_pow_pos _) X h
  have hd : iand (parts.getD k 0) (parts.getD i 0) = 0 := by
    have := List.pairwise_iff_getElem.1 hp k i (by omega) hi hk
    simpa [List.getD, hi, show k < parts.length by omega] using this
  have ng := ng_of hg hn
  rw [a1, b1, iand_nat (by omega) (by omega)] at hd
  have hd' : B &&& A = 0 := by omega
  have hb := between_nat ng b4 a4 b2 a2 hd' b7 a7
  have hlt := nbN_lt ng.lt B n'
  have h7 := pow_le7 hn7
  unfold qJ
  rw [a5, b5, b1, a1, nbr_nat hg hn b2, iand_nat (by omega) (by omega), Int.toNat_natCast, rowN_eq hg, hasB_nat (by have := ng.lt (lowN A); omega) (by omega), ng.sym _ _ a6 b6]
  rw [Bool.eq_iff_iff, ← hb, decide_eq_true_iff]
  constructor
  · intro h e; exact h (by omega)
  · intro h e; exact h (by omega)
theorem qOk_len {size : Int} {rows parts : List Int} (h : qOkP size rows parts) : 1 ≤ parts.length ∧ parts.length ≤ 7 := by
  obtain ⟨n, hn, _, hn1, hn7⟩ := isG_size h.1
  obtain ⟨_, _, h3⟩ := qGo_spec h.1 hn parts 0 (Nat.two_pow_pos _) _ h.2
  refine ⟨?_, by omega⟩
  cases parts with
  | nil =>
    have := h.2
    unfold qGo at this
    have h1 := (shl1 (n := size) ⟨by omega, by omega⟩)
    have h2 : 2 ^ 1 ≤ 2 ^ n := Nat.pow_le_pow_right (by omega) hn1
    rw [hn, ishl_one_nat (by omega)] at this
    injection this with this
    omega
  | cons => simp
theorem q_sym (J : Nat → Nat → Bool) {w v : Nat} (i u : Nat) : pairAdd (seenP J w v) w v i u = pairAdd (seenP J w v) v w i u := by
  unfold pairAdd; rw [Bool.or_comm (decide (i = w ∧ u = v))]
theorem qL_length (size : Int) (rows parts : List Int) : (qL size rows parts).length ≤ 7 := by
  unfold qL
  split
  · rename_i h; rw [gRows_length]; exact (qOk_len h).2
  · simp
end Go.Pw
/- Graphs of pairs; quotients. -/
namespace Go.Proofs.YthbhoofhenmbeaaDoor
open Go Go.RowKit Go.Pw
def flipL (R : List Int) (v w : Nat) : List Int :=
  let R1 := R.set v (ixor (R.getD v 0) (ishl 1 w))
  R1.set w (ixor (R1.getD w 0) (ishl 1 v))
theorem en_s_l2Copy : Entry Tryd.prog 71 := ⟨_, Tryd.func71, by kernel_rfl, rfl⟩
set_option maxHeartbeats 800000 in
theorem s_l2Copy_c (size : Int) (gv : Value) (rows : List Int) (w : World) (hr : Arr w gv (ints rows)) (hlen : rows.length ≤ 1048576) :
    Gives Tryd.prog 71 #[.agg #[.int .i64 size, gv]] w (fun v objs => ∃ sv', v = .agg #[.int .i64 size, sv'] ∧ objs = [.row 3 sv' (ints rows)]) := by
  refine gives_enter (args := [_]) en_s_l2Copy Tryd.func71 rfl Tryd.ntmps71 rfl ?_
  repeat' (first | apply pwp_seq | apply pwp_region | (apply px_run; (first | (apply opv_field fld_G0; rfl) | (apply opv_field fld_G1; rfl) | (apply opv_load_blk 0; (first | with_reducible exact sc_int | with_reducible exact sc_ints); rfl; rfl; rfl) | (apply opv_build2 bl_G; rfl; rfl; (first | exact rd_row 0 rfl))); rfl; rfl) | apply px_nil | apply qseq_normal | apply pwp_ret | (apply pwp_region_any [0, 1, 3, 4] [] 4 (Cl [] w [.blk _ [.int .i64 size, gv]]); kernel_rfl; decide +kernel; exact Cl.stable _ _ _; exact fun w h => h.sub (by repeat (first | exact List.Sublist.refl _ | apply List.Sublist.cons))) | apply qlooks_normal | (apply qstep_in; exact fun w h => h.sub (by repeat (first | exact List.Sublist.refl _ | apply List.Sublist.cons))) | (apply pxa_nil; decide +kernel) | (apply pxa_one 2; decide +kernel; rfl) | (apply pxa_one 5; decide +kernel; rfl) | (apply pxa_one 6; decide +kernel; rfl) | (apply pxa_one 7; decide +kernel; rfl) | (apply px_box; rfl; rfl; rfl; rfl; intro bk) | (apply px_alloc st_G; rfl; rfl; rfl; intro bk) | (apply px_store_str 1 st_G; rfl; rfl; rfl; rfl; rfl; (intro w hw; (first | refine all2 rfl ?_ ?_) <;> (first | rfl | exact stor_row 0 hw rfl)); rfl) | (apply px_lit0 ez_int; rfl; rfl; rfl; intro sv) | (apply px_append 0 ez_int; rfl; rfl; rfl; (first | exact rd_old (by assumption)); (first | exact fun _ _ => stor_ints); (simp [ints]; omega); decide; rfl; rfl; intro sv))
  refine qbody_cell 1 rfl st_G rfl rfl rfl ⟨_, ⟨_, rfl, rfl⟩, fun w' h => ?_⟩
  exact Cl.sub (by assumption) (by repeat (first | exact List.Sublist.slnil | exact List.Sublist.refl _ | apply List.Sublist.cons_cons | exact List.sublist_append_left _ _ | exact List.sublist_append_right _ _ | apply List.Sublist.cons))
theorem en_s_l2Pair : Entry Tryd.prog 72 := ⟨_, Tryd.func72, by kernel_rfl, rfl⟩
theorem s_l2Pair_c (size : Int) (sv : Value) (rows : List Int) (v u : Int) (w : World) (hr : Arr w sv (ints rows)) (hg : IsG size rows) (hv : 0 ≤ v ∧ v < size) (hu : 0 ≤ u ∧ u < size) (hvu : v ≠ u) :
    Pure Tryd.prog 72 #[.agg #[.int .i64 size, sv], .int .i64 v, .int .i64 u] w (.bool true) := by
  refine pure_enter (args := [_, _, _]) en_s_l2Pair Tryd.func72 rfl Tryd.ntmps72 rfl ?_
  repeat' (first | apply pwp_seq | apply pwp_region | (apply px_run; (first | (apply opv_move; first | exact hid_int rfl | exact hid_bool rfl) | (apply opv_assign; first | exact hid_bool rfl) | (apply opv_lss <;> rfl) | (apply opv_geq <;> rfl) | (apply opv_neq <;> rfl) | (apply opv_pick_t <;> rfl) | (apply opv_field fld_G0; rfl) | (apply opv_load_blk 0; (first | with_reducible exact sc_int); rfl; rfl; rfl) | (apply opv_load_str 0 st_G; rfl; rfl; rfl) | (apply opv_call; rfl; rfl; exact Cl.stable _ _ _; exact fun w hw => s_IsGraph_c _ _ rows _ (by first | exact hw.arr (by assumption)))); rfl; rfl) | apply px_nil | apply qseq_normal | apply pwp_ret | (apply px_guard_dec; rfl; rfl; rfl; all_goals (intro hc; try (first | contradiction | (exfalso; omega)))) | (apply px_box; rfl; rfl; rfl; rfl; intro bk))
  all_goals first
    | exact absurd hg (by assumption)
    | refine qbody_ret1 (v := .bool _) rfl rfl ⟨by first | rfl | (congr 1; simp_all), fun _ h => h.below⟩
theorem en_s_AddEdge : Entry Tryd.prog 60 := ⟨_, Tryd.func60, by kernel_rfl, rfl⟩
set_option maxHeartbeats 1000000 in
theorem s_AddEdge_c (n : Nat) (gv : Value) (P : Nat → Nat → Bool) (v u : Nat) (w : World) (hr : Arr w gv (ints (gRows n P))) (h1 : 1 ≤ n) (hn : n ≤ 7) (hs : ∀ i u, P i u = P u i) (hi : ∀ i, P i i = false)
    (hv : v < n) (hu : u < n) (hvu : v ≠ u) (hP : P v u = false) :
    Gives Tryd.prog 60 #[.agg #[.int .i64 n, gv], .int .i64 v, .int .i64 u] w (fun x objs => ∃ sv', x = .tuple #[.agg #[.int .i64 n, sv'], .bool true] ∧ objs = [.row 3 sv' (ints (gRows n (pairAdd P v u)))]) := by
  have hg := gRows_isG h1 hn hs hi
  have hlen : (gRows n P).length = n := gRows_length n P
  have hhas := gRows_has hn P hv hu
  have hvu' : (v : Int) ≠ u := by omega
  obtain ⟨p1, p2⟩ := gRows_pair hn hv hu hvu hP (by rw [hs]; exact hP)
  obtain ⟨_, m1⟩ := mask_new hn hu hP
  obtain ⟨_, m2⟩ := mask_new (f := P u) hn hv (by rw [hs]; exact hP)
  have h7 : 2 ^ n ≤ 2 ^ 7 := Nat.pow_le_pow_right (by omega) hn
  have l1 := maskU_lt (fun x => P v x || decide (x = u)) n
  have l2 := maskU_lt (fun x => P u x || decide (x = v)) n
  have b1 : (gRows n P).getD v 0 + ishl 1 (u : Int) = ((maskU (fun x => P v x || decide (x = u)) n : Nat) : Int) := by rw [gRows_get P hv]; exact m1
  have b2 : ((gRows n P).set v ((gRows n P).getD v 0 + ishl 1 (u : Int))).getD u 0 + ishl 1 (v : Int) = ((maskU (fun x => P u x || decide (x = v)) n : Nat) : Int) := by rw [b1, p1]; exact m2
  refine gives_enter (args := [_, _, _]) en_s_AddEdge Tryd.func60 rfl Tryd.ntmps60 rfl ?_
  repeat' (first | apply pwp_seq | apply pwp_region | (apply px_run; (first | (apply opv_move; first | exact hid_int rfl | exact hid_bool rfl) | (apply opv_assign; first | exact hid_bool rfl) | (apply opv_pick_f <;> rfl) | (apply opv_not <;> rfl) | (apply opv_add_in; rfl; rfl; omega) | (apply opv_shl; rfl; rfl; omega) | (apply opv_field fld_G1; rfl) | (apply opv_load_blk 0; (first | with_reducible exact sc_int | with_reducible exact sc_ints); rfl; rfl; rfl) | (apply opv_load_ints sc_int; rfl; (first | exact rd_row 1 rfl); (first | omega | (simp only [List.length_set]; omega))) | (apply opv_index_nat (vs := ints _) el_int; (case hr => exact rd_row 1 rfl); (case hx => rfl); (case hy => rfl); (first | (simp only [ints_length]; omega) | (simp [ints]; omega))) | (apply opv_load_str 0 st_G; rfl; rfl; rfl) | (apply opv_load_str 1 st_G; rfl; rfl; rfl) | (apply opv_load_str 3 st_G; rfl; rfl; rfl) | (apply opv_call; rfl; rfl; exact Cl.stable _ _ _; exact fun w hw => s_l2Pair_c _ _ _ _ _ _ (by first | exact hw.arr (by assumption)) hg (by omega) (by omega) hvu') | (apply opv_call; rfl; rfl; exact Cl.stable _ _ _; exact fun w hw => s_l2Edge_c _ _ (gRows n P) _ _ _ (by first | exact hw.arr (by assumption)) (by omega) (by omega))); rfl; rfl) | apply px_nil | apply qseq_normal | apply qseq_ret | apply pwp_skip | apply pwp_ret | (apply pwp_region_any [0, 1, 2, 3, 4, 5, 6, 7, 8, 9, 10, 11] [12] 1 (Cl [] w [.blk _ [.int .i64 n, sc], .row 3 sc _, .blk _ _, .blk _ _]); kernel_rfl; decide +kernel; exact Cl.stable _ _ _; exact fun w h => h.sub (by repeat (first | exact List.Sublist.refl _))) | apply qlooks_normal | (apply qstep_out; decide +kernel) | (apply pxa_nil; decide +kernel) | (apply pxa_one 12; decide +kernel; rfl) | (apply pwp_cond; rfl; all_goals (intro hc; try (first | fail))) | (apply px_box; rfl; rfl; rfl; rfl; intro bk) | (apply px_alloc st_G; rfl; rfl; rfl; intro bk) | (apply px_store_str 0 st_G; rfl; rfl; rfl; rfl; rfl; (intro w hw; (first | refine all2 rfl ?_ ?_) <;> (first | rfl | exact stor_row 1 hw rfl)); rfl) | (apply px_store_str 2 st_G; rfl; rfl; rfl; rfl; rfl; (intro w hw; (first | refine all2 rfl ?_ ?_) <;> (first | rfl | exact stor_row 1 hw rfl)); rfl) | (apply px_store_int 1 co_int; rfl; rfl; rfl; (first | omega | (simp; omega)); rfl) | (apply px_gives; rfl; rfl; rfl; rfl; rfl; exact fun w hw => s_l2Copy_c _ _ (gRows n P) _ (by first | exact hw.arr (by assumption)) (by omega); rintro _ _ ⟨sc, rfl, rfl⟩))
  · exact absurd hc (by rw [show hasB ((gRows n P).getD (Int.toNat (v : Int)) 0) (u : Int) = P v u from hhas, hP]; exact Bool.false_ne_true)
  · refine qbody_cell_tmp 2 rfl st_G rfl rfl rfl rfl ⟨_, ⟨sc, rfl, rfl⟩, fun w' h => ?_⟩
    rw [b2, b1, p2] at h
    exact Cl.sub (by assumption) (by repeat (first | exact List.Sublist.slnil | exact List.Sublist.refl _ | apply List.Sublist.cons_cons | exact List.sublist_append_left _ _ | exact List.sublist_append_right _ _ | apply List.Sublist.cons))
end Go.Proofs.YthbhoofhenmbeaaDoor
/- The reference's reader of a cograph's tree. -/
namespace Go.Proofs.YthbhoofhenmbeaaDoor
open Go Go.RowKit Go.Pw
set_option maxHeartbeats 1000000 in
theorem s_AddEdge2_c (n : Nat) (gv : Value) (P : Nat → Nat → Bool) (v u : Nat) (w : World) (hr : Arr w gv (ints (gRows n P))) (h1 : 1 ≤ n) (hn : n ≤ 7) (hs : SymP P) (hi : IrrP P)
    (hv : v < n) (hu : u < n) (hvu : v ≠ u) :
    Gives Tryd.prog 60 #[.agg #[.int .i64 n, gv], .int .i64 v, .int .i64 u] w (fun x objs => ∃ sv' bb, x = .tuple #[.agg #[.int .i64 n, sv'], .bool bb] ∧ objs = [.row 3 sv' (ints (gRows n (pairAdd P v u)))]) := by
  by_cases hP : P v u = false
  · have := s_AddEdge_c n gv P v u w hr h1 hn hs hi hv hu hvu hP
    exact ⟨this.entry, this.out.mono fun e w' ⟨x, objs, he, ⟨sv', hx, ho⟩, hc⟩ => ⟨x, objs, he, ⟨sv', true, hx, ho⟩, hc⟩⟩
  have hP' : P v u = true := by simpa using hP
  have hg := gRows_isG h1 hn hs hi
  have hlen : (gRows n P).length = n := gRows_length n P
  have hhas := gRows_has hn P hv hu
  have hvu' : (v : Int) ≠ u := by omega
  have he : gRows n (pairAdd P v u) = gRows n P := gRows_congr fun i j _ _ => by
    unfold pairAdd
    by_cases h3 : i = v ∧ j = u
    · obtain ⟨rfl, rfl⟩ := h3; rw [hP']; rfl
    · by_cases h4 : i = u ∧ j = v
      · obtain ⟨rfl, rfl⟩ := h4; rw [hs, hP']; rfl
      · simp [h3, h4]
  rw [he]
  have kE : ∀ sv w', Arr w' sv (ints (gRows n P)) → Pure Tryd.prog 73 #[.agg #[.int .i64 n, sv], .int .i64 v, .int .i64 u] w' (.bool true) := fun sv w' h => by
    have := s_l2Edge_c n sv (gRows n P) v u w' h (by omega) (by omega)
    rw [show hasB ((gRows n P).getD (Int.toNat (v : Int)) 0) (u : Int) = P v u from hhas, hP'] at this; exact this
  refine gives_enter (args := [_, _, _]) en_s_AddEdge Tryd.func60 rfl Tryd.ntmps60 rfl ?_
  repeat' (first | apply pwp_seq | apply pwp_region | (apply px_run; (first | (apply opv_move; first | exact hid_int rfl | exact hid_bool rfl) | (apply opv_assign; first | exact hid_bool rfl) | (apply opv_pick_f <;> rfl) | (apply opv_not <;> rfl) | (apply opv_load_str 0 st_G; rfl; rfl; rfl) | (apply opv_load_str 1 st_G; rfl; rfl; rfl) | (apply opv_load_str 3 st_G; rfl; rfl; rfl) | (apply opv_call; rfl; rfl; exact Cl.stable _ _ _; exact fun w hw => s_l2Pair_c _ _ _ _ _ _ (by first | exact hw.arr (by assumption)) hg (by omega) (by omega) hvu') | (apply opv_call; rfl; rfl; exact Cl.stable _ _ _; exact fun w hw => kE _ _ (by first | exact hw.arr (by assumption)))); rfl; rfl) | apply px_nil | apply qseq_normal | apply qseq_ret | apply pwp_ret | (apply pwp_cond_t; rfl) | (apply px_box; rfl; rfl; rfl; rfl; intro bk) | (apply px_alloc st_G; rfl; rfl; rfl; intro bk) | (apply px_store_str 0 st_G; rfl; rfl; rfl; rfl; rfl; (intro w hw; (first | refine all2 rfl ?_ ?_) <;> (first | rfl | exact stor_row 1 hw rfl)); rfl) | (apply px_store_str 2 st_G; rfl; rfl; rfl; rfl; rfl; (intro w hw; (first | refine all2 rfl ?_ ?_) <;> (first | rfl | exact stor_row 1 hw rfl)); rfl) | (apply px_gives; rfl; rfl; rfl; rfl; rfl; exact fun w hw => s_l2Copy_c _ _ (gRows n P) _ (by first | exact hw.arr (by assumption)) (by omega); rintro _ _ ⟨sc, rfl, rfl⟩))
  refine qbody_cell_tmp 2 rfl st_G rfl rfl rfl rfl ⟨_, ⟨sc, false, rfl, rfl⟩, fun w' h => ?_⟩
  exact Cl.sub (by assumption) (by repeat (first | exact List.Sublist.slnil | exact List.Sublist.refl _ | apply List.Sublist.cons_cons | exact List.sublist_append_left _ _ | exact List.sublist_append_right _ _ | apply List.Sublist.cons))
theorem s_AddEdge3_c (n : Nat) (gv : Value) (P : Nat → Nat → Bool) (v u : Nat) (w : World) (hr : Arr w gv (ints (gRows n P))) (h1 : 1 ≤ n) (hn : n ≤ 7) (hs : SymP P) (hi : IrrP P)
    (hv : v < n) (hu : u < n) (hvu : v ≠ u) :
    Gives Tryd.prog 60 #[.agg #[.int .i64 n, gv], .int .i64 v, .int .i64 u] w (fun x objs => ∃ sv' bb, storable sv' = true ∧ x = .tuple #[.agg #[.int .i64 n, sv'], .bool bb] ∧ objs = [.row 3 sv' (ints (gRows n (pairAdd P v u)))]) := by
  have := s_AddEdge2_c n gv P v u w hr h1 hn hs hi hv hu hvu
  refine ⟨this.entry, this.out.mono fun e w' ⟨x, objs, he, ⟨sv', bb, hx, ho⟩, hc⟩ => ⟨x, objs, he, ⟨sv', bb, ?_, hx, ho⟩, hc⟩⟩
  subst ho
  exact stor_arr (arr_of_row (hc.holds _ (List.mem_singleton_self _)))
def ResS (n : Nat) (o : Option (Rel × Nat × Nat)) (v : Value) (new : List Ob) : Prop := match o with
  | none => (∃ gx, storable gx = true ∧ v = .tuple #[.agg #[.int .i64 n, gx], .int .i64 0, .int .i64 (-1)]) ∧ new = []
  | some r => ∃ gx, storable gx = true ∧ v = .tuple #[.agg #[.int .i64 n, gx], .int .i64 (r.2.1 : Nat), .int .i64 (r.2.2 : Nat)] ∧ new = [.row 3 gx (ints (gRows n r.1))]
theorem en_s_l17Read : Entry Tryd.prog 36 := ⟨_, Tryd.func36, by kernel_rfl, rfl⟩
set_option maxRecDepth 100000 in
set_option maxHeartbeats 6400000 in
theorem s_l17Read_c (s : ByteArray) (n : Nat) (hs : s.size ≤ 100) (h1 : 1 ≤ n) (hn : n ≤ 7) : ∀ (f i : Nat) (P : Rel) (gv : Value) (w : World), Own w [.row 3 gv (ints (gRows n P))] → SymP P → IrrP P → i ≤ s.size → s.size - i < f →
    GivesU Tryd.prog 36 #[.string s, .int .i64 i, .agg #[.int .i64 n, gv]] w [.row 3 gv (ints (gRows n P))] (fun v new => ResS n (rdS s f i P) v new) := by
  intro f
  induction f with
  | zero => intro i P gv w _ _ _ _ h; omega
  | succ f ih =>
    intro i P gv w ho hsy hir hile hf
    have hst := own_stor ho
    refine givesU_enter (args := [_, _, _]) ho en_s_l17Read Tryd.func36 rfl Tryd.ntmps36 rfl (fun X => ?_)
    repeat' (first | apply pwp_seq | apply pwp_region | (apply px_run; (first | (apply opv_move; first | exact hid_int rfl | rfl) | (apply opv_assign; first | exact hid_int rfl)); rfl; rfl) | apply px_nil | apply qseq_normal | (apply px_box; rfl; rfl; rfl; rfl; intro bk) | (apply px_alloc st_G; rfl; rfl; rfl; intro bk))
    rename_i b5
    revert bk
    intro b6
    by_cases hi : s.size ≤ i
    · have hr : rdS s (f + 1) i P = none := by rw [rdS, if_pos hi]
      rw [hr]
      repeat' (first | apply pwp_seq | apply pwp_region | (apply px_run; (first | (apply opv_len_str ty_str; rfl) | (apply opv_assign; first | exact hid_int rfl) | (apply opv_geq <;> rfl) | (apply opv_load_str 1 st_G; rfl; rfl; rfl)); rfl; rfl) | apply px_nil | apply qseq_normal | apply qseq_ret | apply pwp_ret | (apply pwp_cond_dec; rfl; all_goals (intro hc; try (first | (exfalso; omega)))) | (apply px_store_str 0 st_G; rfl; rfl; rfl; rfl; rfl; (intro w hw; (first | refine all2 rfl ?_ ?_) <;> (first | rfl | assumption)); rfl))
      first
        | refine qbody_cell_tmps 0 rfl st_G rfl rfl rfl rfl rfl ⟨_, ⟨⟨gv, hst, rfl⟩, rfl⟩, fun w' h => ?_⟩
        | refine qbody_cell_tmps 1 rfl st_G rfl rfl rfl rfl rfl ⟨_, ⟨⟨gv, hst, rfl⟩, rfl⟩, fun w' h => ?_⟩
        | refine qbody_cell_tmps 2 rfl st_G rfl rfl rfl rfl rfl ⟨_, ⟨⟨gv, hst, rfl⟩, rfl⟩, fun w' h => ?_⟩
        | refine qbody_cell_tmps 3 rfl st_G rfl rfl rfl rfl rfl ⟨_, ⟨⟨gv, hst, rfl⟩, rfl⟩, fun w' h => ?_⟩
        | refine qbody_cell_tmps 4 rfl st_G rfl rfl rfl rfl rfl ⟨_, ⟨⟨gv, hst, rfl⟩, rfl⟩, fun w' h => ?_⟩
      exact Cl.sub (by assumption) (by repeat (first | exact List.Sublist.slnil | exact List.Sublist.refl _ | apply List.Sublist.cons_cons | exact List.sublist_append_left _ _ | exact List.sublist_append_right _ _ | apply List.Sublist.cons))
    have hb0 := byteAt_get (s := s) (i := i) (by omega)
    have hbl := byteAt_lt s i
    have hbv : ((s.data.toList.getD i 0).toNat) = byteAt s i := rfl
    by_cases hd : 48 ≤ byteAt s i ∧ byteAt s i ≤ 54
    · have hr : rdS s (f + 1) i P = some (P, 2 ^ (byteAt s i - 48), i + 1) := by rw [rdS, if_neg hi, if_pos hd]
      have hv : ishl 1 ((byteAt s i : Int) - 48) = ((2 ^ (byteAt s i - 48) : Nat) : Int) := by
        rw [show (byteAt s i : Int) - 48 = ((byteAt s i - 48 : Nat) : Int) by omega, ishl_one_nat (by omega)]
      rw [hr]
      repeat' (first | apply pwp_seq | apply pwp_region | (apply px_run; (first | (apply opv_len_str ty_str; rfl) | (apply opv_index_str ty_str; rfl; (first | rfl); (first | exact hb0)) | (apply opv_geq_k; rfl; rfl) | (apply opv_leq_k; rfl; rfl) | (apply opv_sub_u8; rfl; rfl; omega) | (apply opv_shl_u8; rfl; rfl; omega) | (apply opv_move; first | exact hid_int rfl | exact hid_bool rfl | rfl) | (apply opv_assign; first | exact hid_int rfl) | (apply opv_pick_t <;> rfl) | (apply opv_add_in; rfl; rfl; omega) | (apply opv_load_str 0 st_G; rfl; rfl; rfl)); rfl; rfl) | apply px_nil | apply qseq_normal | apply qseq_ret | apply pwp_skip | apply pwp_ret | (apply pwp_region_any [0, 1, 2, 3, 4, 5, 6, 7] [] 3 (Cl X w [.blk _ [.int .i64 n, gv], .row _ gv _]); kernel_rfl; decide +kernel; exact Cl.stable _ _ _; exact fun w h => h.sub (by repeat (first | exact List.Sublist.refl _ | apply List.Sublist.cons))) | apply qlooks_normal | (apply qstep_in; exact fun w h => h.sub (by repeat (first | exact List.Sublist.refl _ | apply List.Sublist.cons))) | (apply pxa_nil; decide +kernel) | (apply pxa_one 8; decide +kernel; rfl) | (apply pxa_one 9; decide +kernel; rfl) | (apply pxa_one 10; decide +kernel; rfl) | (apply px_guard_dec; rfl; rfl; rfl; all_goals (intro hc; try (first | (exfalso; omega)))) | (apply pwp_cond_dec; rfl; all_goals (intro hc; try (first | (exfalso; omega)))) | (apply px_store_str 0 st_G; rfl; rfl; rfl; rfl; rfl; (intro w hw; (first | refine all2 rfl ?_ ?_) <;> (first | rfl | assumption)); rfl))
      first
        | refine qbody_cell_tmps 0 rfl st_G rfl rfl rfl rfl rfl ⟨_, ⟨gv, hst, by rw [← hv]; rfl, rfl⟩, fun w' h => ?_⟩
        | refine qbody_cell_tmps 1 rfl st_G rfl rfl rfl rfl rfl ⟨_, ⟨gv, hst, by rw [← hv]; rfl, rfl⟩, fun w' h => ?_⟩
        | refine qbody_cell_tmps 2 rfl st_G rfl rfl rfl rfl rfl ⟨_, ⟨gv, hst, by rw [← hv]; rfl, rfl⟩, fun w' h => ?_⟩
        | refine qbody_cell_tmps 3 rfl st_G rfl rfl rfl rfl rfl ⟨_, ⟨gv, hst, by rw [← hv]; rfl, rfl⟩, fun w' h => ?_⟩
        | refine qbody_cell_tmps 4 rfl st_G rfl rfl rfl rfl rfl ⟨_, ⟨gv, hst, by rw [← hv]; rfl, rfl⟩, fun w' h => ?_⟩
      exact Cl.sub (by assumption) (by repeat (first | exact List.Sublist.slnil | exact List.Sublist.refl _ | apply List.Sublist.cons_cons | exact List.sublist_append_left _ _ | exact List.sublist_append_right _ _ | apply List.Sublist.cons))
    have hi1 : (i : Int) + 1 = ((i + 1 : Nat) : Int) := rfl
    have hb1 : i + 1 < s.size → s[i + 1]? = some (s.data.toList.getD (i + 1) 0) := fun h => byteAt_get h
    have hbv1 : ((s.data.toList.getD (i + 1) 0).toNat) = byteAt s (i + 1) := rfl
    by_cases hp : byteAt s i = 40 ∧ i + 1 < s.size ∧ (byteAt s (i + 1) = 43 ∨ byteAt s (i + 1) = 42)
    case neg =>
      have hr : rdS s (f + 1) i P = none := by rw [rdS, if_neg hi, if_neg hd, if_neg hp]
      rw [hr]
      repeat' (first | apply pwp_seq | apply pwp_region | (apply px_run; (first | (apply opv_len_str ty_str; rfl) | (apply opv_index_str ty_str; rfl; (first | rfl); (first | exact hb0 | exact hb1 (by omega))) | (apply opv_geq_k; rfl; rfl) | (apply opv_leq_k; rfl; rfl) | (apply opv_neq_k; rfl; rfl) | (apply opv_move; first | exact hid_int rfl | exact hid_bool rfl | rfl) | (apply opv_assign; first | exact hid_int rfl) | (apply opv_pick_t <;> rfl) | (apply opv_pick_f <;> rfl) | (apply opv_add_in; rfl; rfl; omega) | (apply opv_load_str 1 st_G; rfl; rfl; rfl)); rfl; rfl) | apply px_nil | (apply px_skip; rfl; rfl) | apply qseq_normal | apply qseq_ret | apply pwp_skip | apply pwp_ret | (apply pwp_cond_t; rfl) | (apply pwp_cond_f; rfl) | (apply px_guard_ndec; rfl; rfl; rfl; all_goals (intro hc; try (first | (exfalso; omega)))) | (apply px_guard_dec; rfl; rfl; rfl; all_goals (intro hc; try (first | fail))) | (apply pwp_cond_ndec; rfl; all_goals (intro hc; try (first | (exfalso; omega)))) | (apply pwp_cond_dec; rfl; all_goals (intro hc; try (first | (exfalso; omega)))) | (apply px_store_str 0 st_G; rfl; rfl; rfl; rfl; rfl; (intro w hw; (first | refine all2 rfl ?_ ?_) <;> (first | rfl | assumption)); rfl))
      all_goals
        first
          | refine qbody_cell_tmps 0 rfl st_G rfl rfl rfl rfl rfl ⟨_, ⟨⟨gv, hst, rfl⟩, rfl⟩, fun w' h => ?_⟩
          | refine qbody_cell_tmps 1 rfl st_G rfl rfl rfl rfl rfl ⟨_, ⟨⟨gv, hst, rfl⟩, rfl⟩, fun w' h => ?_⟩
          | refine qbody_cell_tmps 2 rfl st_G rfl rfl rfl rfl rfl ⟨_, ⟨⟨gv, hst, rfl⟩, rfl⟩, fun w' h => ?_⟩
          | refine qbody_cell_tmps 3 rfl st_G rfl rfl rfl rfl rfl ⟨_, ⟨⟨gv, hst, rfl⟩, rfl⟩, fun w' h => ?_⟩
          | refine qbody_cell_tmps 4 rfl st_G rfl rfl rfl rfl rfl ⟨_, ⟨⟨gv, hst, rfl⟩, rfl⟩, fun w' h => ?_⟩
        exact Cl.sub (by assumption) (by repeat (first | exact List.Sublist.slnil | exact List.Sublist.refl _ | apply List.Sublist.cons_cons | exact List.sublist_append_left _ _ | exact List.sublist_append_right _ _ | apply List.Sublist.cons))
    have hr : rdS s (f + 1) i P = loopS s (rdS s f) (byteAt s (i + 1)) (s.size + 1) (i + 2) P 0 := by rw [rdS, if_neg hi, if_neg hd, if_pos hp]
    rw [hr]
    obtain ⟨p1, p2, p3⟩ := hp
    rcases p3 with p3 | p3
    · repeat' (first | apply pwp_seq | apply pwp_region | (apply px_run; (first | (apply opv_len_str ty_str; rfl) | (apply opv_index_str ty_str; rfl; (first | rfl); (first | exact hb0 | exact hb1 (by omega))) | (apply opv_geq_k; rfl; rfl) | (apply opv_eql_k; rfl; rfl) | (apply opv_neq_k; rfl; rfl) | (apply opv_move; first | exact hid_int rfl | exact hid_bool rfl | rfl) | (apply opv_assign; first | exact hid_int rfl | exact hid_bool rfl) | (apply opv_pick_f <;> rfl) | (apply opv_add_in; rfl; rfl; omega)); rfl; rfl) | apply px_nil | (apply px_skip; rfl; rfl) | apply qseq_normal | apply pwp_block | apply pwp_skip | (apply pwp_cond_f; rfl) | (apply px_guard_ndec; rfl; rfl; rfl; all_goals (intro hc; try (first | (exfalso; omega)))) | (apply px_guard_dec; rfl; rfl; rfl; all_goals (intro hc; try (first | (exfalso; omega)))) | (apply pwp_cond_dec; rfl; all_goals (intro hc; try (first | (exfalso; omega)))))
      refine pwp_loop (τ := Nat × Nat × Rel × Nat × Value) [(1,1), (7,8), (10,15), (72,138)] (fun x => [(1, .int .i64 (x.2.1 : Nat)), (10, .int .i64 (x.2.2.2.1 : Nat))])
        (fun x => Cl X w [.blk b6 [.int .i64 0, .slice none 0 0], .blk b5 [.int .i64 n, x.2.2.2.2], .row 3 x.2.2.2.2 (ints (gRows n x.2.2.1))])
        (fun x => i + 2 ≤ x.2.1 ∧ x.2.1 ≤ s.size ∧ SymP x.2.2.1 ∧ IrrP x.2.2.1 ∧ x.2.2.2.1 < 128 ∧ storable x.2.2.2.2 = true ∧ s.size < x.1 + x.2.1 ∧ loopS s (rdS s f) (byteAt s (i + 1)) (s.size + 1) (i + 2) P 0 = loopS s (rdS s f) (byteAt s (i + 1)) x.1 x.2.1 x.2.2.1 x.2.2.2.1) (fun x => x.1) (s.size + 1, i + 2, P, 0, gv)
        ⟨rfl, rfl, trivial⟩ ⟨Nat.le_refl _, by dsimp only; omega, hsy, hir, by show 0 < 128; omega, hst, by dsimp only; omega, rfl⟩ (fun w' h => by exact Cl.sub (by assumption) (by repeat (first | exact List.Sublist.slnil | exact List.Sublist.refl _ | apply List.Sublist.cons_cons | exact List.sublist_append_left _ _ | exact List.sublist_append_right _ _ | apply List.Sublist.cons))) (fun J x hx => ?_)
      obtain ⟨k, j, Q, set, gw⟩ := x
      obtain ⟨i1, i2, i3, i4, i5, i6, i7, i8⟩ := hx
      dsimp only at i1 i2 i3 i4 i5 i6 i7 i8 ⊢
      obtain ⟨k', rfl⟩ : ∃ k', k = k' + 1 := ⟨k - 1, by omega⟩
      rw [i8]
      have hj1 : (j : Int) + 1 = ((j + 1 : Nat) : Int) := rfl
      by_cases hjs : j < s.size
      case neg =>
        have hl : loopS s (rdS s f) (byteAt s (i + 1)) (k' + 1) j Q set = none := by rw [loopS, if_neg (fun h => hjs h.1), if_neg (fun h => hjs h.1)]
        rw [hl]
        repeat' (first | apply pwp_seq | apply pwp_region | (apply px_run; (first | (apply opv_len_str ty_str; rfl) | (apply opv_geq_k; rfl; rfl) | (apply opv_move; first | exact hid_int rfl | exact hid_bool rfl | rfl) | (apply opv_assign; first | exact hid_int rfl) | (apply opv_lss <;> rfl) | (apply opv_pick_t <;> rfl) | (apply opv_pick_f <;> rfl) | (apply opv_load_str 1 st_G; rfl; rfl; rfl)); rfl; rfl) | apply px_nil | (apply px_skip; rfl; rfl) | apply qseq_normal | apply qseq_ret | apply qseq_exit | (apply qblock_exit_same; rfl) | apply pwp_exit | apply pwp_ret | apply qround_exit | (apply pwp_cond_t; rfl) | (apply pwp_cond_f; rfl) | (apply px_guard_dec; rfl; rfl; rfl; all_goals (intro hc; try (first | (exfalso; omega)))) | (apply px_store_str 0 st_G; rfl; rfl; rfl; rfl; rfl; (intro w hw; (first | refine all2 rfl ?_ ?_) <;> (first | rfl | assumption)); rfl))
        all_goals
          first
            | refine qbody_cell_tmps 0 rfl st_G rfl rfl rfl rfl rfl ⟨_, ⟨⟨gw, i6, rfl⟩, rfl⟩, fun w' h => ?_⟩
            | refine qbody_cell_tmps 1 rfl st_G rfl rfl rfl rfl rfl ⟨_, ⟨⟨gw, i6, rfl⟩, rfl⟩, fun w' h => ?_⟩
            | refine qbody_cell_tmps 2 rfl st_G rfl rfl rfl rfl rfl ⟨_, ⟨⟨gw, i6, rfl⟩, rfl⟩, fun w' h => ?_⟩
            | refine qbody_cell_tmps 3 rfl st_G rfl rfl rfl rfl rfl ⟨_, ⟨⟨gw, i6, rfl⟩, rfl⟩, fun w' h => ?_⟩
            | refine qbody_cell_tmps 4 rfl st_G rfl rfl rfl rfl rfl ⟨_, ⟨⟨gw, i6, rfl⟩, rfl⟩, fun w' h => ?_⟩
          exact Cl.sub (by assumption) (by repeat (first | exact List.Sublist.slnil | exact List.Sublist.refl _ | apply List.Sublist.cons_cons | exact List.sublist_append_left _ _ | exact List.sublist_append_right _ _ | apply List.Sublist.cons))
      have hj0 := byteAt_get (s := s) (i := j) hjs
      have hjv : ((s.data.toList.getD j 0).toNat) = byteAt s j := rfl
      by_cases h32 : byteAt s j = 32
      case neg =>
        by_cases h41 : byteAt s j = 41
        · have hl : loopS s (rdS s f) (byteAt s (i + 1)) (k' + 1) j Q set = some (Q, set, j + 1) := by rw [loopS, if_neg (fun h => h32 h.2), if_pos ⟨hjs, h41⟩]
          rw [hl]
          repeat' (first | apply pwp_seq | apply pwp_region | (apply px_run; (first | (apply opv_len_str ty_str; rfl) | (apply opv_index_str ty_str; rfl; (first | rfl); (first | exact hj0)) | (apply opv_geq_k; rfl; rfl) | (apply opv_eql_k; rfl; rfl) | (apply opv_neq_k; rfl; rfl) | (apply opv_move; first | exact hid_int rfl | exact hid_bool rfl | rfl) | (apply opv_assign; first | exact hid_int rfl) | (apply opv_lss <;> rfl) | (apply opv_pick_t <;> rfl) | (apply opv_pick_f <;> rfl) | (apply opv_add_in; rfl; rfl; omega) | (apply opv_load_str 1 st_G; rfl; rfl; rfl)); rfl; rfl) | apply px_nil | apply qseq_normal | apply qseq_exit | (apply qblock_exit_same; rfl) | apply pwp_skip | apply pwp_exit | apply pwp_ret | apply qround_exit | (apply px_guard_dec; rfl; rfl; rfl; all_goals (intro hc; try (first | (exfalso; omega)))) | (apply pwp_cond_ndec; rfl; all_goals (intro hc; try (first | (exfalso; omega)))) | (apply pwp_cond_dec; rfl; all_goals (intro hc; try (first | (exfalso; omega)))) | (apply px_store_str 0 st_G; rfl; rfl; rfl; rfl; rfl; (intro w hw; (first | refine all2 rfl ?_ ?_) <;> (first | rfl | assumption)); rfl))
          all_goals
            first
              | refine qbody_cell_tmps 0 rfl st_G rfl rfl rfl rfl rfl ⟨_, ⟨gw, i6, rfl, rfl⟩, fun w' h => ?_⟩
              | refine qbody_cell_tmps 1 rfl st_G rfl rfl rfl rfl rfl ⟨_, ⟨gw, i6, rfl, rfl⟩, fun w' h => ?_⟩
              | refine qbody_cell_tmps 2 rfl st_G rfl rfl rfl rfl rfl ⟨_, ⟨gw, i6, rfl, rfl⟩, fun w' h => ?_⟩
              | refine qbody_cell_tmps 3 rfl st_G rfl rfl rfl rfl rfl ⟨_, ⟨gw, i6, rfl, rfl⟩, fun w' h => ?_⟩
              | refine qbody_cell_tmps 4 rfl st_G rfl rfl rfl rfl rfl ⟨_, ⟨gw, i6, rfl, rfl⟩, fun w' h => ?_⟩
            exact Cl.sub (by assumption) (by repeat (first | exact List.Sublist.slnil | exact List.Sublist.refl _ | apply List.Sublist.cons_cons | exact List.sublist_append_left _ _ | exact List.sublist_append_right _ _ | apply List.Sublist.cons))
        · have hl : loopS s (rdS s f) (byteAt s (i + 1)) (k' + 1) j Q set = none := by rw [loopS, if_neg (fun h => h32 h.2), if_neg (fun h => h41 h.2)]
          rw [hl]
          repeat' (first | apply pwp_seq | apply pwp_region | (apply px_run; (first | (apply opv_len_str ty_str; rfl) | (apply opv_index_str ty_str; rfl; (first | rfl); (first | exact hj0)) | (apply opv_geq_k; rfl; rfl) | (apply opv_eql_k; rfl; rfl) | (apply opv_neq_k; rfl; rfl) | (apply opv_move; first | exact hid_int rfl | exact hid_bool rfl | rfl) | (apply opv_assign; first | exact hid_int rfl) | (apply opv_lss <;> rfl) | (apply opv_pick_t <;> rfl) | (apply opv_pick_f <;> rfl) | (apply opv_load_str 1 st_G; rfl; rfl; rfl)); rfl; rfl) | apply px_nil | apply qseq_normal | apply qseq_ret | apply qseq_exit | (apply qblock_exit_same; rfl) | apply pwp_exit | apply pwp_ret | apply qround_exit | (apply px_guard_dec; rfl; rfl; rfl; all_goals (intro hc; try (first | (exfalso; omega)))) | (apply pwp_cond_ndec; rfl; all_goals (intro hc; try (first | (exfalso; omega)))) | (apply pwp_cond_dec; rfl; all_goals (intro hc; try (first | (exfalso; omega)))) | (apply px_store_str 0 st_G; rfl; rfl; rfl; rfl; rfl; (intro w hw; (first | refine all2 rfl ?_ ?_) <;> (first | rfl | assumption)); rfl))
          all_goals
            first
              | refine qbody_cell_tmps 0 rfl st_G rfl rfl rfl rfl rfl ⟨_, ⟨⟨gw, i6, rfl⟩, rfl⟩, fun w' h => ?_⟩
              | refine qbody_cell_tmps 1 rfl st_G rfl rfl rfl rfl rfl ⟨_, ⟨⟨gw, i6, rfl⟩, rfl⟩, fun w' h => ?_⟩
              | refine qbody_cell_tmps 2 rfl st_G rfl rfl rfl rfl rfl ⟨_, ⟨⟨gw, i6, rfl⟩, rfl⟩, fun w' h => ?_⟩
              | refine qbody_cell_tmps 3 rfl st_G rfl rfl rfl rfl rfl ⟨_, ⟨⟨gw, i6, rfl⟩, rfl⟩, fun w' h => ?_⟩
              | refine qbody_cell_tmps 4 rfl st_G rfl rfl rfl rfl rfl ⟨_, ⟨⟨gw, i6, rfl⟩, rfl⟩, fun w' h => ?_⟩
            exact Cl.sub (by assumption) (by repeat (first | exact List.Sublist.slnil | exact List.Sublist.refl _ | apply List.Sublist.cons_cons | exact List.sublist_append_left _ _ | exact List.sublist_append_right _ _ | apply List.Sublist.cons))
      have kR := fun w' ho' => ih (j + 1) Q gw w' ho' i3 i4 (by omega) (by omega)
      have hres : loopS s (rdS s f) (byteAt s (i + 1)) (k' + 1) j Q set = match rdS s f (j + 1) Q with
        | none => none
        | some (P', part, next) => if part &&& set = 0 then loopS s (rdS s f) (byteAt s (i + 1)) k' next (joinW (byteAt s (i + 1)) set part P') (set ||| part) else none := by
        rw [loopS, if_pos ⟨hjs, h32⟩]
        cases rdS s f (j + 1) Q with
        | none => rfl
        | some r => rfl
      have hok := fun r h => rdS_ok s f (j + 1) Q r i3 i4 h
      rw [hres]
      cases hrd : rdS s f (j + 1) Q with
      | none =>
        rw [hrd] at kR
        repeat' (first | apply pwp_seq | apply pwp_region | (apply px_run; (first | (apply opv_len_str ty_str; rfl) | (apply opv_index_str ty_str; rfl; (first | rfl); (first | exact hj0)) | (apply opv_eql_k; rfl; rfl) | (apply opv_move; first | exact hid_int rfl | exact hid_bool rfl | rfl) | (apply opv_assign; first | exact hid_int rfl) | (apply opv_lss <;> rfl) | (apply opv_pick_t <;> rfl) | (apply opv_add_in; rfl; rfl; omega) | (apply opv_load_str 1 st_G; rfl; rfl; rfl) | (apply opv_load_str 2 st_G; rfl; rfl; rfl) | (apply opv_extract; rfl; rfl)); rfl; rfl) | apply px_nil | (apply px_skip; rfl; rfl) | apply qseq_normal | apply qseq_ret | apply pwp_block | apply qblock_ret | apply pwp_skip | apply pwp_ret | apply qround_ret | (apply pwp_cond_t; rfl) | (apply px_guard_dec; rfl; rfl; rfl; all_goals (intro hc; try (first | (exfalso; omega)))) | (apply pwp_cond_dec; rfl; all_goals (intro hc; try (first | (exfalso; omega)))) | (apply px_givesU [2]; rfl; rfl; rfl; rfl; rfl; (exact fun w' ho' => kR w' ho'); rintro _ _ ⟨⟨gx, hgx, rfl⟩, rfl⟩) | (apply px_alloc st_G; rfl; rfl; rfl; intro bk) | (apply px_store_str 0 st_G; rfl; rfl; rfl; rfl; rfl; (intro w hw; (first | refine all2 rfl ?_ ?_) <;> (first | rfl | assumption)); rfl) | (apply px_store_str 1 st_G; rfl; rfl; rfl; rfl; rfl; (intro w hw; (first | refine all2 rfl ?_ ?_) <;> (first | rfl | assumption)); rfl))
        first
          | refine qbody_cell_tmps 0 rfl st_G rfl rfl rfl rfl rfl ⟨_, ⟨⟨gw, i6, rfl⟩, rfl⟩, fun w' h => ?_⟩
          | refine qbody_cell_tmps 1 rfl st_G rfl rfl rfl rfl rfl ⟨_, ⟨⟨gw, i6, rfl⟩, rfl⟩, fun w' h => ?_⟩
          | refine qbody_cell_tmps 2 rfl st_G rfl rfl rfl rfl rfl ⟨_, ⟨⟨gw, i6, rfl⟩, rfl⟩, fun w' h => ?_⟩
          | refine qbody_cell_tmps 3 rfl st_G rfl rfl rfl rfl rfl ⟨_, ⟨⟨gw, i6, rfl⟩, rfl⟩, fun w' h => ?_⟩
          | refine qbody_cell_tmps 4 rfl st_G rfl rfl rfl rfl rfl ⟨_, ⟨⟨gw, i6, rfl⟩, rfl⟩, fun w' h => ?_⟩
        exact Cl.sub (by assumption) (by repeat (first | exact List.Sublist.slnil | exact List.Sublist.refl _ | apply List.Sublist.cons_cons | exact List.sublist_append_left _ _ | exact List.sublist_append_right _ _ | apply List.Sublist.cons))
      | some r =>
        rw [hrd] at kR
        obtain ⟨r1, r2, r3, r4, r5⟩ := hok r hrd
        obtain ⟨Q', part, next⟩ := r
        dsimp only at r1 r2 r3 r4 r5 ⊢
        have hand : iand (part : Nat) (set : Nat) = ((part &&& set : Nat) : Int) := iand_nat (by omega) (by omega)
        by_cases hdj : part &&& set = 0
        case neg =>
          have hne : ¬ iand (part : Nat) (set : Nat) = 0 := by rw [hand]; omega
          rw [if_neg hdj]
          repeat' (first | apply pwp_seq | apply pwp_region | (apply px_run; (first | (apply opv_len_str ty_str; rfl) | (apply opv_index_str ty_str; rfl; (first | rfl); (first | exact hj0)) | (apply opv_eql_k; rfl; rfl) | (apply opv_neq_k; rfl; rfl) | (apply opv_move; first | exact hid_int rfl | exact hid_bool rfl | rfl) | (apply opv_assign; first | exact hid_int rfl) | (apply opv_lss <;> rfl) | (apply opv_and <;> rfl) | (apply opv_pick_t <;> rfl) | (apply opv_pick_f <;> rfl) | (apply opv_add_in; rfl; rfl; omega) | (apply opv_load_str 1 st_G; rfl; rfl; rfl) | (apply opv_load_str 3 st_G; rfl; rfl; rfl) | (apply opv_extract; rfl; rfl)); rfl; rfl) | apply px_nil | apply qseq_normal | apply qseq_ret | apply pwp_block | apply qblock_ret | apply pwp_skip | apply pwp_ret | apply qround_ret | (apply px_guard_dec; rfl; rfl; rfl; all_goals (intro hc; try (first | (exfalso; omega)))) | (apply pwp_cond_ndec; rfl; all_goals (intro hc; try (first | contradiction))) | (apply pwp_cond_dec; rfl; all_goals (intro hc; try (first | (exfalso; omega)))) | (apply px_givesU [2]; rfl; rfl; rfl; rfl; rfl; (exact fun w' ho' => kR w' ho'); rintro _ _ ⟨gx, hgx, rfl, rfl⟩) | (apply px_alloc st_G; rfl; rfl; rfl; intro bk) | (apply px_store_str 0 st_G; rfl; rfl; rfl; rfl; rfl; (intro w hw; (first | refine all2 rfl ?_ ?_) <;> (first | rfl | assumption)); rfl) | (apply px_store_str 2 st_G; rfl; rfl; rfl; rfl; rfl; (intro w hw; (first | refine all2 rfl ?_ ?_) <;> (first | rfl | assumption)); rfl))
          first
            | refine qbody_cell_tmps 0 rfl st_G rfl rfl rfl rfl rfl ⟨_, ⟨⟨gw, i6, rfl⟩, rfl⟩, fun w' h => ?_⟩
            | refine qbody_cell_tmps 1 rfl st_G rfl rfl rfl rfl rfl ⟨_, ⟨⟨gw, i6, rfl⟩, rfl⟩, fun w' h => ?_⟩
            | refine qbody_cell_tmps 2 rfl st_G rfl rfl rfl rfl rfl ⟨_, ⟨⟨gw, i6, rfl⟩, rfl⟩, fun w' h => ?_⟩
            | refine qbody_cell_tmps 3 rfl st_G rfl rfl rfl rfl rfl ⟨_, ⟨⟨gw, i6, rfl⟩, rfl⟩, fun w' h => ?_⟩
            | refine qbody_cell_tmps 4 rfl st_G rfl rfl rfl rfl rfl ⟨_, ⟨⟨gw, i6, rfl⟩, rfl⟩, fun w' h => ?_⟩
          exact Cl.sub (by assumption) (by repeat (first | exact List.Sublist.slnil | exact List.Sublist.refl _ | apply List.Sublist.cons_cons | exact List.sublist_append_left _ _ | exact List.sublist_append_right _ _ | apply List.Sublist.cons))
        have heq : iand (part : Nat) (set : Nat) = 0 := by rw [hand, hdj]; rfl
        rw [if_pos hdj]
        repeat' (first | apply pwp_seq | apply pwp_region | (apply px_run; (first | (apply opv_len_str ty_str; rfl) | (apply opv_index_str ty_str; rfl; (first | rfl); (first | exact hj0)) | (apply opv_eql_k; rfl; rfl) | (apply opv_neq_k; rfl; rfl) | (apply opv_move; first | exact hid_int rfl | exact hid_bool rfl | rfl) | (apply opv_assign; first | exact hid_int rfl) | (apply opv_lss <;> rfl) | (apply opv_and <;> rfl) | (apply opv_pick_t <;> rfl) | (apply opv_pick_f <;> rfl) | (apply opv_add_in; rfl; rfl; omega) | (apply opv_load_str 0 st_G; rfl; rfl; rfl) | (apply opv_load_str 1 st_G; rfl; rfl; rfl) | (apply opv_extract; rfl; rfl)); rfl; rfl) | apply px_nil | apply qseq_normal | apply pwp_block | apply pwp_skip | (apply px_guard_dec; rfl; rfl; rfl; all_goals (intro hc; try (first | (exfalso; omega)))) | (apply pwp_cond_ndec; rfl; all_goals (intro hc; try (first | contradiction))) | (apply pwp_cond_dec; rfl; all_goals (intro hc; try (first | (exfalso; omega)))) | (apply px_givesU [2]; rfl; rfl; rfl; rfl; rfl; (exact fun w' ho' => kR w' ho'); rintro _ _ ⟨gx, hgx, rfl, rfl⟩) | (apply px_alloc st_G; rfl; rfl; rfl; intro bk) | (apply px_store_str 0 st_G; rfl; rfl; rfl; rfl; rfl; (intro w hw; (first | refine all2 rfl ?_ ?_) <;> (first | rfl | assumption)); rfl) | (apply px_store_str 3 st_G; rfl; rfl; rfl; rfl; rfl; (intro w hw; (first | refine all2 rfl ?_ ?_) <;> (first | rfl | assumption)); rfl))
        have hor : ior (set : Nat) (part : Nat) = ((set ||| part : Nat) : Int) := ior_nat (by omega) (by omega)
        have h42 : byteAt s (i + 1) ≠ 42 := by omega
        have hj : joinW (byteAt s (i + 1)) set part Q' = Q' := joinW_no h42 set part Q'
        rw [hj]
        refine pwp_loop (τ := Unit) [(14,15), (101,134)] (fun x => [(14, .int .i64 0)]) (fun x => Cl X w [.blk b6 [.int .i64 0, .slice none 0 0], .blk b5 [.int .i64 n, gx], .row 3 gx (ints (gRows n Q'))]) (fun x => True) (fun x => 0) ()
          ⟨rfl, trivial⟩ trivial (fun w' h => by exact Cl.ofSel (by assumption) (by repeat (first | exact sel_nil | refine sel_cons 0 rfl ?_ | refine sel_cons 1 rfl ?_ | refine sel_cons 2 rfl ?_ | refine sel_cons 3 rfl ?_ | refine sel_cons 4 rfl ?_ | refine sel_cons 5 rfl ?_ | refine sel_cons 6 rfl ?_ | refine sel_cons 7 rfl ?_ | refine sel_cons 8 rfl ?_ | refine sel_cons 9 rfl ?_ | refine sel_cons 10 rfl ?_ | refine sel_cons 11 rfl ?_ | refine sel_cons 12 rfl ?_ | refine sel_cons 13 rfl ?_))) (fun J2 x2 hx2 => ?_)
        repeat' (first | apply pwp_seq | apply pwp_region | (apply px_run; (first | (apply opv_move; first | exact hid_int rfl | exact hid_bool rfl) | (apply opv_assign; first | exact hid_int rfl) | (apply opv_lss <;> rfl) | (apply opv_or <;> rfl) | (apply opv_pick_t <;> rfl) | (apply opv_field fld_G0; rfl) | (apply opv_load_blk 1; (first | with_reducible exact sc_int); rfl; rfl; rfl)); rfl; rfl) | apply px_nil | apply qseq_normal | apply qseq_exit | apply qblock_normal | (apply qblock_exit_same; rfl) | apply pwp_exit | apply qround_exit | (apply px_guard_dec; rfl; rfl; rfl; all_goals (intro hc; try (first | (exfalso; omega)))) | (apply pwp_cond_dec; rfl; all_goals (intro hc; try (first | (exfalso; omega)))))
        refine qround_normal ?_ ⟨(k', next, Q', set ||| part, gx), ⟨rfl, congrArg (Value.int .i64) hor, trivial⟩, ⟨by dsimp only; omega, r5, r1, r2, or_lt128 i5 r3, hgx, by dsimp only; omega, rfl⟩, by dsimp only; omega, fun w' h => ?_⟩
        · repeat (first | exact same_refl | refine same_upd rfl ?_ | refine same_junk rfl ?_)
        · exact Cl.ofSel (by assumption) (by repeat (first | exact sel_nil | refine sel_cons 0 rfl ?_ | refine sel_cons 1 rfl ?_ | refine sel_cons 2 rfl ?_ | refine sel_cons 3 rfl ?_ | refine sel_cons 4 rfl ?_ | refine sel_cons 5 rfl ?_ | refine sel_cons 6 rfl ?_ | refine sel_cons 7 rfl ?_ | refine sel_cons 8 rfl ?_ | refine sel_cons 9 rfl ?_ | refine sel_cons 10 rfl ?_ | refine sel_cons 11 rfl ?_ | refine sel_cons 12 rfl ?_ | refine sel_cons 13 rfl ?_))
    · repeat' (first | apply pwp_seq | apply pwp_region | (apply px_run; (first | (apply opv_len_str ty_str; rfl) | (apply opv_index_str ty_str; rfl; (first | rfl); (first | exact hb0 | exact hb1 (by omega))) | (apply opv_geq_k; rfl; rfl) | (apply opv_eql_k; rfl; rfl) | (apply opv_neq_k; rfl; rfl) | (apply opv_move; first | exact hid_int rfl | exact hid_bool rfl | rfl) | (apply opv_assign; first | exact hid_int rfl | exact hid_bool rfl) | (apply opv_pick_t <;> rfl) | (apply opv_pick_f <;> rfl) | (apply opv_add_in; rfl; rfl; omega)); rfl; rfl) | apply px_nil | (apply px_skip; rfl; rfl) | apply qseq_normal | apply pwp_block | apply pwp_skip | (apply pwp_cond_f; rfl) | (apply px_guard_ndec; rfl; rfl; rfl; all_goals (intro hc; try (first | (exfalso; omega)))) | (apply px_guard_dec; rfl; rfl; rfl; all_goals (intro hc; try (first | (exfalso; omega)))) | (apply pwp_cond_ndec; rfl; all_goals (intro hc; try (first | (exfalso; omega)))) | (apply pwp_cond_dec; rfl; all_goals (intro hc; try (first | (exfalso; omega)))))
      refine pwp_loop (τ := Nat × Nat × Rel × Nat × Value) [(1,1), (7,8), (10,15), (72,138)] (fun x => [(1, .int .i64 (x.2.1 : Nat)), (10, .int .i64 (x.2.2.2.1 : Nat))])
        (fun x => Cl X w [.blk b6 [.int .i64 0, .slice none 0 0], .blk b5 [.int .i64 n, x.2.2.2.2], .row 3 x.2.2.2.2 (ints (gRows n x.2.2.1))])
        (fun x => i + 2 ≤ x.2.1 ∧ x.2.1 ≤ s.size ∧ SymP x.2.2.1 ∧ IrrP x.2.2.1 ∧ x.2.2.2.1 < 128 ∧ storable x.2.2.2.2 = true ∧ s.size < x.1 + x.2.1 ∧ loopS s (rdS s f) (byteAt s (i + 1)) (s.size + 1) (i + 2) P 0 = loopS s (rdS s f) (byteAt s (i + 1)) x.1 x.2.1 x.2.2.1 x.2.2.2.1) (fun x => x.1) (s.size + 1, i + 2, P, 0, gv)
        ⟨rfl, rfl, trivial⟩ ⟨Nat.le_refl _, by dsimp only; omega, hsy, hir, by show 0 < 128; omega, hst, by dsimp only; omega, rfl⟩ (fun w' h => by exact Cl.sub (by assumption) (by repeat (first | exact List.Sublist.slnil | exact List.Sublist.refl _ | apply List.Sublist.cons_cons | exact List.sublist_append_left _ _ | exact List.sublist_append_right _ _ | apply List.Sublist.cons))) (fun J x hx => ?_)
      obtain ⟨k, j, Q, set, gw⟩ := x
      obtain ⟨i1, i2, i3, i4, i5, i6, i7, i8⟩ := hx
      dsimp only at i1 i2 i3 i4 i5 i6 i7 i8 ⊢
      obtain ⟨k', rfl⟩ : ∃ k', k = k' + 1 := ⟨k - 1, by omega⟩
      rw [i8]
      have hj1 : (j : Int) + 1 = ((j + 1 : Nat) : Int) := rfl
      by_cases hjs : j < s.size
      case neg =>
        have hl : loopS s (rdS s f) (byteAt s (i + 1)) (k' + 1) j Q set = none := by rw [loopS, if_neg (fun h => hjs h.1), if_neg (fun h => hjs h.1)]
        rw [hl]
        repeat' (first | apply pwp_seq | apply pwp_region | (apply px_run; (first | (apply opv_len_str ty_str; rfl) | (apply opv_geq_k; rfl; rfl) | (apply opv_move; first | exact hid_int rfl | exact hid_bool rfl | rfl) | (apply opv_assign; first | exact hid_int rfl) | (apply opv_lss <;> rfl) | (apply opv_pick_t <;> rfl) | (apply opv_pick_f <;> rfl) | (apply opv_load_str 1 st_G; rfl; rfl; rfl)); rfl; rfl) | apply px_nil | (apply px_skip; rfl; rfl) | apply qseq_normal | apply qseq_ret | apply qseq_exit | (apply qblock_exit_same; rfl) | apply pwp_exit | apply pwp_ret | apply qround_exit | (apply pwp_cond_t; rfl) | (apply pwp_cond_f; rfl) | (apply px_guard_dec; rfl; rfl; rfl; all_goals (intro hc; try (first | (exfalso; omega)))) | (apply px_store_str 0 st_G; rfl; rfl; rfl; rfl; rfl; (intro w hw; (first | refine all2 rfl ?_ ?_) <;> (first | rfl | assumption)); rfl))
        all_goals
          first
            | refine qbody_cell_tmps 0 rfl st_G rfl rfl rfl rfl rfl ⟨_, ⟨⟨gw, i6, rfl⟩, rfl⟩, fun w' h => ?_⟩
            | refine qbody_cell_tmps 1 rfl st_G rfl rfl rfl rfl rfl ⟨_, ⟨⟨gw, i6, rfl⟩, rfl⟩, fun w' h => ?_⟩
            | refine qbody_cell_tmps 2 rfl st_G rfl rfl rfl rfl rfl ⟨_, ⟨⟨gw, i6, rfl⟩, rfl⟩, fun w' h => ?_⟩
            | refine qbody_cell_tmps 3 rfl st_G rfl rfl rfl rfl rfl ⟨_, ⟨⟨gw, i6, rfl⟩, rfl⟩, fun w' h => ?_⟩
            | refine qbody_cell_tmps 4 rfl st_G rfl rfl rfl rfl rfl ⟨_, ⟨⟨gw, i6, rfl⟩, rfl⟩, fun w' h => ?_⟩
          exact Cl.sub (by assumption) (by repeat (first | exact List.Sublist.slnil | exact List.Sublist.refl _ | apply List.Sublist.cons_cons | exact List.sublist_append_left _ _ | exact List.sublist_append_right _ _ | apply List.Sublist.cons))
      have hj0 := byteAt_get (s := s) (i := j) hjs
      have hjv : ((s.data.toList.getD j 0).toNat) = byteAt s j := rfl
      by_cases h32 : byteAt s j = 32
      case neg =>
        by_cases h41 : byteAt s j = 41
        · have hl : loopS s (rdS s f) (byteAt s (i + 1)) (k' + 1) j Q set = some (Q, set, j + 1) := by rw [loopS, if_neg (fun h => h32 h.2), if_pos ⟨hjs, h41⟩]
          rw [hl]
          repeat' (first | apply pwp_seq | apply pwp_region | (apply px_run; (first | (apply opv_len_str ty_str; rfl) | (apply opv_index_str ty_str; rfl; (first | rfl); (first | exact hj0)) | (apply opv_geq_k; rfl; rfl) | (apply opv_eql_k; rfl; rfl) | (apply opv_neq_k; rfl; rfl) | (apply opv_move; first | exact hid_int rfl | exact hid_bool rfl | rfl) | (apply opv_assign; first | exact hid_int rfl) | (apply opv_lss <;> rfl) | (apply opv_pick_t <;> rfl) | (apply opv_pick_f <;> rfl) | (apply opv_add_in; rfl; rfl; omega) | (apply opv_load_str 1 st_G; rfl; rfl; rfl)); rfl; rfl) | apply px_nil | apply qseq_normal | apply qseq_exit | (apply qblock_exit_same; rfl) | apply pwp_skip | apply pwp_exit | apply pwp_ret | apply qround_exit | (apply px_guard_dec; rfl; rfl; rfl; all_goals (intro hc; try (first | (exfalso; omega)))) | (apply pwp_cond_ndec; rfl; all_goals (intro hc; try (first | (exfalso; omega)))) | (apply pwp_cond_dec; rfl; all_goals (intro hc; try (first | (exfalso; omega)))) | (apply px_store_str 0 st_G; rfl; rfl; rfl; rfl; rfl; (intro w hw; (first | refine all2 rfl ?_ ?_) <;> (first | rfl | assumption)); rfl))
          all_goals
            first
              | refine qbody_cell_tmps 0 rfl st_G rfl rfl rfl rfl rfl ⟨_, ⟨gw, i6, rfl, rfl⟩, fun w' h => ?_⟩
              | refine qbody_cell_tmps 1 rfl st_G rfl rfl rfl rfl rfl ⟨_, ⟨gw, i6, rfl, rfl⟩, fun w' h => ?_⟩
              | refine qbody_cell_tmps 2 rfl st_G rfl rfl rfl rfl rfl ⟨_, ⟨gw, i6, rfl, rfl⟩, fun w' h => ?_⟩
              | refine qbody_cell_tmps 3 rfl st_G rfl rfl rfl rfl rfl ⟨_, ⟨gw, i6, rfl, rfl⟩, fun w' h => ?_⟩
              | refine qbody_cell_tmps 4 rfl st_G rfl rfl rfl rfl rfl ⟨_, ⟨gw, i6, rfl, rfl⟩, fun w' h => ?_⟩
            exact Cl.sub (by assumption) (by repeat (first | exact List.Sublist.slnil | exact List.Sublist.refl _ | apply List.Sublist.cons_cons | exact List.sublist_append_left _ _ | exact List.sublist_append_right _ _ | apply List.Sublist.cons))
        · have hl : loopS s (rdS s f) (byteAt s (i + 1)) (k' + 1) j Q set = none := by rw [loopS, if_neg (fun h => h32 h.2), if_neg (fun h => h41 h.2)]
          rw [hl]
          repeat' (first | apply pwp_seq | apply pwp_region | (apply px_run; (first | (apply opv_len_str ty_str; rfl) | (apply opv_index_str ty_str; rfl; (first | rfl); (first | exact hj0)) | (apply opv_geq_k; rfl; rfl) | (apply opv_eql_k; rfl; rfl) | (apply opv_neq_k; rfl; rfl) | (apply opv_move; first | exact hid_int rfl | exact hid_bool rfl | rfl) | (apply opv_assign; first | exact hid_int rfl) | (apply opv_lss <;> rfl) | (apply opv_pick_t <;> rfl) | (apply opv_pick_f <;> rfl) | (apply opv_load_str 1 st_G; rfl; rfl; rfl)); rfl; rfl) | apply px_nil | apply qseq_normal | apply qseq_ret | apply qseq_exit | (apply qblock_exit_same; rfl) | apply pwp_exit | apply pwp_ret | apply qround_exit | (apply px_guard_dec; rfl; rfl; rfl; all_goals (intro hc; try (first | (exfalso; omega)))) | (apply pwp_cond_ndec; rfl; all_goals (intro hc; try (first | (exfalso; omega)))) | (apply pwp_cond_dec; rfl; all_goals (intro hc; try (first | (exfalso; omega)))) | (apply px_store_str 0 st_G; rfl; rfl; rfl; rfl; rfl; (intro w hw; (first | refine all2 rfl ?_ ?_) <;> (first | rfl | assumption)); rfl))
          all_goals
            first
              | refine qbody_cell_tmps 0 rfl st_G rfl rfl rfl rfl rfl ⟨_, ⟨⟨gw, i6, rfl⟩, rfl⟩, fun w' h => ?_⟩
              | refine qbody_cell_tmps 1 rfl st_G rfl rfl rfl rfl rfl ⟨_, ⟨⟨gw, i6, rfl⟩, rfl⟩, fun w' h => ?_⟩
              | refine qbody_cell_tmps 2 rfl st_G rfl rfl rfl rfl rfl ⟨_, ⟨⟨gw, i6, rfl⟩, rfl⟩, fun w' h => ?_⟩
              | refine qbody_cell_tmps 3 rfl st_G rfl rfl rfl rfl rfl ⟨_, ⟨⟨gw, i6, rfl⟩, rfl⟩, fun w' h => ?_⟩
              | refine qbody_cell_tmps 4 rfl st_G rfl rfl rfl rfl rfl ⟨_, ⟨⟨gw, i6, rfl⟩, rfl⟩, fun w' h => ?_⟩
            exact Cl.sub (by assumption) (by repeat (first | exact List.Sublist.slnil | exact List.Sublist.refl _ | apply List.Sublist.cons_cons | exact List.sublist_append_left _ _ | exact List.sublist_append_right _ _ | apply List.Sublist.cons))
      have kR := fun w' ho' => ih (j + 1) Q gw w' ho' i3 i4 (by omega) (by omega)
      have hres : loopS s (rdS s f) (byteAt s (i + 1)) (k' + 1) j Q set = match rdS s f (j + 1) Q with
        | none => none
        | some (P', part, next) => if part &&& set = 0 then loopS s (rdS s f) (byteAt s (i + 1)) k' next (joinW (byteAt s (i + 1)) set part P') (set ||| part) else none := by
        rw [loopS, if_pos ⟨hjs, h32⟩]
        cases rdS s f (j + 1) Q with
        | none => rfl
        | some r => rfl
      have hok := fun r h => rdS_ok s f (j + 1) Q r i3 i4 h
      rw [hres]
      cases hrd : rdS s f (j + 1) Q with
      | none =>
        rw [hrd] at kR
        repeat' (first | apply pwp_seq | apply pwp_region | (apply px_run; (first | (apply opv_len_str ty_str; rfl) | (apply opv_index_str ty_str; rfl; (first | rfl); (first | exact hj0)) | (apply opv_eql_k; rfl; rfl) | (apply opv_move; first | exact hid_int rfl | exact hid_bool rfl | rfl) | (apply opv_assign; first | exact hid_int rfl) | (apply opv_lss <;> rfl) | (apply opv_pick_t <;> rfl) | (apply opv_add_in; rfl; rfl; omega) | (apply opv_load_str 1 st_G; rfl; rfl; rfl) | (apply opv_load_str 2 st_G; rfl; rfl; rfl) | (apply opv_extract; rfl; rfl)); rfl; rfl) | apply px_nil | (apply px_skip; rfl; rfl) | apply qseq_normal | apply qseq_ret | apply pwp_block | apply qblock_ret | apply pwp_skip | apply pwp_ret | apply qround_ret | (apply pwp_cond_t; rfl) | (apply px_guard_dec; rfl; rfl; rfl; all_goals (intro hc; try (first | (exfalso; omega)))) | (apply pwp_cond_dec; rfl; all_goals (intro hc; try (first | (exfalso; omega)))) | (apply px_givesU [2]; rfl; rfl; rfl; rfl; rfl; (exact fun w' ho' => kR w' ho'); rintro _ _ ⟨⟨gx, hgx, rfl⟩, rfl⟩) | (apply px_alloc st_G; rfl; rfl; rfl; intro bk) | (apply px_store_str 0 st_G; rfl; rfl; rfl; rfl; rfl; (intro w hw; (first | refine all2 rfl ?_ ?_) <;> (first | rfl | assumption)); rfl) | (apply px_store_str 1 st_G; rfl; rfl; rfl; rfl; rfl; (intro w hw; (first | refine all2 rfl ?_ ?_) <;> (first | rfl | assumption)); rfl))
        first
          | refine qbody_cell_tmps 0 rfl st_G rfl rfl rfl rfl rfl ⟨_, ⟨⟨gw, i6, rfl⟩, rfl⟩, fun w' h => ?_⟩
          | refine qbody_cell_tmps 1 rfl st_G rfl rfl rfl rfl rfl ⟨_, ⟨⟨gw, i6, rfl⟩, rfl⟩, fun w' h => ?_⟩
          | refine qbody_cell_tmps 2 rfl st_G rfl rfl rfl rfl rfl ⟨_, ⟨⟨gw, i6, rfl⟩, rfl⟩, fun w' h => ?_⟩
          | refine qbody_cell_tmps 3 rfl st_G rfl rfl rfl rfl rfl ⟨_, ⟨⟨gw, i6, rfl⟩, rfl⟩, fun w' h => ?_⟩
          | refine qbody_cell_tmps 4 rfl st_G rfl rfl rfl rfl rfl ⟨_, ⟨⟨gw, i6, rfl⟩, rfl⟩, fun w' h => ?_⟩
        exact Cl.sub (by assumption) (by repeat (first | exact List.Sublist.slnil | exact List.Sublist.refl _ | apply List.Sublist.cons_cons | exact List.sublist_append_left _ _ | exact List.sublist_append_right _ _ | apply List.Sublist.cons))
      | some r =>
        rw [hrd] at kR
        obtain ⟨r1, r2, r3, r4, r5⟩ := hok r hrd
        obtain ⟨Q', part, next⟩ := r
        dsimp only at r1 r2 r3 r4 r5 ⊢
        have hand : iand (part : Nat) (set : Nat) = ((part &&& set : Nat) : Int) := iand_nat (by omega) (by omega)
        by_cases hdj : part &&& set = 0
        case neg =>
          have hne : ¬ iand (part : Nat) (set : Nat) = 0 := by rw [hand]; omega
          rw [if_neg hdj]
          repeat' (first | apply pwp_seq | apply pwp_region | (apply px_run; (first | (apply opv_len_str ty_str; rfl) | (apply opv_index_str ty_str; rfl; (first | rfl); (first | exact hj0)) | (apply opv_eql_k; rfl; rfl) | (apply opv_neq_k; rfl; rfl) | (apply opv_move; first | exact hid_int rfl | exact hid_bool rfl | rfl) | (apply opv_assign; first | exact hid_int rfl) | (apply opv_lss <;> rfl) | (apply opv_and <;> rfl) | (apply opv_pick_t <;> rfl) | (apply opv_pick_f <;> rfl) | (apply opv_add_in; rfl; rfl; omega) | (apply opv_load_str 1 st_G; rfl; rfl; rfl) | (apply opv_load_str 3 st_G; rfl; rfl; rfl) | (apply opv_extract; rfl; rfl)); rfl; rfl) | apply px_nil | apply qseq_normal | apply qseq_ret | apply pwp_block | apply qblock_ret | apply pwp_skip | apply pwp_ret | apply qround_ret | (apply px_guard_dec; rfl; rfl; rfl; all_goals (intro hc; try (first | (exfalso; omega)))) | (apply pwp_cond_ndec; rfl; all_goals (intro hc; try (first | contradiction))) | (apply pwp_cond_dec; rfl; all_goals (intro hc; try (first | (exfalso; omega)))) | (apply px_givesU [2]; rfl; rfl; rfl; rfl; rfl; (exact fun w' ho' => kR w' ho'); rintro _ _ ⟨gx, hgx, rfl, rfl⟩) | (apply px_alloc st_G; rfl; rfl; rfl; intro bk) | (apply px_store_str 0 st_G; rfl; rfl; rfl; rfl; rfl; (intro w hw; (first | refine all2 rfl ?_ ?_) <;> (first | rfl | assumption)); rfl) | (apply px_store_str 2 st_G; rfl; rfl; rfl; rfl; rfl; (intro w hw; (first | refine all2 rfl ?_ ?_) <;> (first | rfl | assumption)); rfl))
          first
            | refine qbody_cell_tmps 0 rfl st_G rfl rfl rfl rfl rfl ⟨_, ⟨⟨gw, i6, rfl⟩, rfl⟩, fun w' h => ?_⟩
            | refine qbody_cell_tmps 1 rfl st_G rfl rfl rfl rfl rfl ⟨_, ⟨⟨gw, i6, rfl⟩, rfl⟩, fun w' h => ?_⟩
            | refine qbody_cell_tmps 2 rfl st_G rfl rfl rfl rfl rfl ⟨_, ⟨⟨gw, i6, rfl⟩, rfl⟩, fun w' h => ?_⟩
            | refine qbody_cell_tmps 3 rfl st_G rfl rfl rfl rfl rfl ⟨_, ⟨⟨gw, i6, rfl⟩, rfl⟩, fun w' h => ?_⟩
            | refine qbody_cell_tmps 4 rfl st_G rfl rfl rfl rfl rfl ⟨_, ⟨⟨gw, i6, rfl⟩, rfl⟩, fun w' h => ?_⟩
          exact Cl.sub (by assumption) (by repeat (first | exact List.Sublist.slnil | exact List.Sublist.refl _ | apply List.Sublist.cons_cons | exact List.sublist_append_left _ _ | exact List.sublist_append_right _ _ | apply List.Sublist.cons))
        have heq : iand (part : Nat) (set : Nat) = 0 := by rw [hand, hdj]; rfl
        rw [if_pos hdj]
        repeat' (first | apply pwp_seq | apply pwp_region | (apply px_run; (first | (apply opv_len_str ty_str; rfl) | (apply opv_index_str ty_str; rfl; (first | rfl); (first | exact hj0)) | (apply opv_eql_k; rfl; rfl) | (apply opv_neq_k; rfl; rfl) | (apply opv_move; first | exact hid_int rfl | exact hid_bool rfl | rfl) | (apply opv_assign; first | exact hid_int rfl) | (apply opv_lss <;> rfl) | (apply opv_and <;> rfl) | (apply opv_pick_t <;> rfl) | (apply opv_pick_f <;> rfl) | (apply opv_add_in; rfl; rfl; omega) | (apply opv_load_str 0 st_G; rfl; rfl; rfl) | (apply opv_load_str 1 st_G; rfl; rfl; rfl) | (apply opv_extract; rfl; rfl)); rfl; rfl) | apply px_nil | apply qseq_normal | apply pwp_block | apply pwp_skip | (apply px_guard_dec; rfl; rfl; rfl; all_goals (intro hc; try (first | (exfalso; omega)))) | (apply pwp_cond_ndec; rfl; all_goals (intro hc; try (first | contradiction))) | (apply pwp_cond_dec; rfl; all_goals (intro hc; try (first | (exfalso; omega)))) | (apply px_givesU [2]; rfl; rfl; rfl; rfl; rfl; (exact fun w' ho' => kR w' ho'); rintro _ _ ⟨gx, hgx, rfl, rfl⟩) | (apply px_alloc st_G; rfl; rfl; rfl; intro bk) | (apply px_store_str 0 st_G; rfl; rfl; rfl; rfl; rfl; (intro w hw; (first | refine all2 rfl ?_ ?_) <;> (first | rfl | assumption)); rfl) | (apply px_store_str 3 st_G; rfl; rfl; rfl; rfl; rfl; (intro w hw; (first | refine all2 rfl ?_ ?_) <;> (first | rfl | assumption)); rfl))
        have hor : ior (set : Nat) (part : Nat) = ((set ||| part : Nat) : Int) := ior_nat (by omega) (by omega)
        have h42 : byteAt s (i + 1) = 42 := p3
        rw [h42]
        refine pwp_loop (τ := Nat × Value) [(14,15), (101,134)] (fun x => [(14, .int .i64 (x.1 : Nat))]) (fun x => Cl X w [.row 3 x.2 (ints (gRows n (prP set part Q' x.1 0))), .blk b5 [.int .i64 n, x.2], .blk b6 [.int .i64 0, .slice none 0 0]]) (fun x => x.1 ≤ n ∧ storable x.2 = true) (fun x => n - x.1) (0, gx)
          ⟨rfl, trivial⟩ ⟨Nat.zero_le _, hgx⟩ (fun w' h => by rw [prP_zero]; exact Cl.ofSel (by assumption) (by repeat (first | exact sel_nil | refine sel_cons 0 rfl ?_ | refine sel_cons 1 rfl ?_ | refine sel_cons 2 rfl ?_ | refine sel_cons 3 rfl ?_ | refine sel_cons 4 rfl ?_ | refine sel_cons 5 rfl ?_ | refine sel_cons 6 rfl ?_ | refine sel_cons 7 rfl ?_ | refine sel_cons 8 rfl ?_ | refine sel_cons 9 rfl ?_ | refine sel_cons 10 rfl ?_ | refine sel_cons 11 rfl ?_ | refine sel_cons 12 rfl ?_ | refine sel_cons 13 rfl ?_))) (fun J2 x2 hx2 => ?_)
        obtain ⟨v, gy⟩ := x2
        obtain ⟨v1, v2⟩ := hx2
        dsimp only at v1 v2 ⊢
        by_cases hvn : v < n
        · repeat' (first | apply pwp_seq | apply pwp_region | (apply px_run; (first | (apply opv_move; first | exact hid_int rfl | exact hid_bool rfl) | (apply opv_assign; first | exact hid_int rfl) | (apply opv_lss <;> rfl) | (apply opv_pick_t <;> rfl) | (apply opv_field fld_G0; rfl) | (apply opv_load_blk 1; (first | with_reducible exact sc_int); rfl; rfl; rfl)); rfl; rfl) | apply px_nil | apply qseq_normal | apply pwp_block | apply pwp_skip | (apply px_guard_dec; rfl; rfl; rfl; all_goals (intro hc; try (first | (exfalso; omega)))) | (apply pwp_cond_dec; rfl; all_goals (intro hc; try (first | contradiction))))
          refine pwp_loop (τ := Nat × Value) [(15,15), (110,134)] (fun x => [(15, .int .i64 (x.1 : Nat))]) (fun x => Cl X w [.row 3 x.2 (ints (gRows n (prP set part Q' v x.1))), .blk b5 [.int .i64 n, x.2], .blk b6 [.int .i64 0, .slice none 0 0]]) (fun x => x.1 ≤ n ∧ storable x.2 = true) (fun x => n - x.1) (0, gy)
            ⟨rfl, trivial⟩ ⟨Nat.zero_le _, v2⟩ (fun w' h => by exact Cl.ofSel (by assumption) (by repeat (first | exact sel_nil | refine sel_cons 0 rfl ?_ | refine sel_cons 1 rfl ?_ | refine sel_cons 2 rfl ?_ | refine sel_cons 3 rfl ?_ | refine sel_cons 4 rfl ?_ | refine sel_cons 5 rfl ?_ | refine sel_cons 6 rfl ?_ | refine sel_cons 7 rfl ?_ | refine sel_cons 8 rfl ?_ | refine sel_cons 9 rfl ?_ | refine sel_cons 10 rfl ?_ | refine sel_cons 11 rfl ?_ | refine sel_cons 12 rfl ?_ | refine sel_cons 13 rfl ?_))) (fun J3 x3 hx3 => ?_)
          obtain ⟨u, gz⟩ := x3
          obtain ⟨u1, u2⟩ := hx3
          dsimp only at u1 u2 ⊢
          by_cases hun : u < n
          · have t1 : set.testBit v = true ↔ iand (ishr (set : Nat) (v : Nat)) 1 = 1 := by rw [← hasB_nat (by omega) (by omega)]; exact hasB_iff
            have t2 : part.testBit u = true ↔ iand (ishr (part : Nat) (u : Nat)) 1 = 1 := by rw [← hasB_nat (by omega) (by omega)]; exact hasB_iff
            by_cases hcr : crS set part v u = true
            · have hcr2 : set.testBit v = true ∧ part.testBit u = true := by simpa [crS] using hcr
              have t3 := t1.1 hcr2.1
              have t4 := t2.1 hcr2.2
              have hvu : v ≠ u := fun e => by
                have := and_bit hdj v
                rw [e] at this hcr2
                rw [hcr2.1, hcr2.2] at this; cases this
              have kA := fun w' h => s_AddEdge3_c n gz (prP set part Q' v u) v u w' h h1 hn (prP_sym r1 v u) (prP_irr r2 hdj v u) hvn hun hvu
              rw [prP_add hcr] at kA
              repeat' (first | apply pwp_seq | apply pwp_region | (apply px_run; (first | (apply opv_move; first | exact hid_int rfl | exact hid_bool rfl | rfl) | (apply opv_assign; first | exact hid_int rfl) | (apply opv_lss <;> rfl) | (apply opv_eql <;> rfl) | (apply opv_and <;> rfl) | (apply opv_pick_t <;> rfl) | (apply opv_add_in; rfl; rfl; omega) | (apply opv_shr; rfl; rfl; omega) | (apply opv_field fld_G0; rfl) | (apply opv_load_blk 1; (first | with_reducible exact sc_int); rfl; rfl; rfl) | (apply opv_load_str 1 st_G; rfl; rfl; rfl) | (apply opv_extract; rfl; rfl)); rfl; rfl) | apply px_nil | apply qseq_normal | apply pwp_block | apply qblock_normal | apply pwp_skip | (apply px_guard_dec; rfl; rfl; rfl; all_goals (intro hc; try (first | contradiction))) | (apply pwp_cond_dec; rfl; all_goals (intro hc; try (first | contradiction | (exfalso; omega)))) | (apply px_store_str 2 st_G; rfl; rfl; rfl; rfl; rfl; (intro w hw; (first | refine all2 rfl ?_ ?_) <;> (first | rfl | assumption)); rfl) | (apply px_gives; rfl; rfl; rfl; rfl; rfl; exact fun w hw => kA _ (by first | exact hw.rowArr (k := 0) rfl); rintro _ _ ⟨sc, bb, hsc, rfl, rfl⟩))
              refine qround_normal ?_ ⟨(u + 1, sc), ⟨rfl, trivial⟩, ⟨by dsimp only; omega, hsc⟩, by dsimp only; omega, fun w' h => ?_⟩
              · repeat (first | exact same_refl | refine same_upd rfl ?_ | refine same_junk rfl ?_)
              · exact Cl.ofSel (by assumption) (by repeat (first | exact sel_nil | refine sel_cons 0 rfl ?_ | refine sel_cons 1 rfl ?_ | refine sel_cons 2 rfl ?_ | refine sel_cons 3 rfl ?_ | refine sel_cons 4 rfl ?_ | refine sel_cons 5 rfl ?_ | refine sel_cons 6 rfl ?_ | refine sel_cons 7 rfl ?_ | refine sel_cons 8 rfl ?_ | refine sel_cons 9 rfl ?_ | refine sel_cons 10 rfl ?_ | refine sel_cons 11 rfl ?_ | refine sel_cons 12 rfl ?_ | refine sel_cons 13 rfl ?_))
            · have hcf : crS set part v u = false := by simpa using hcr
              have hsk := prP_skip (P := Q') hcf
              have hno : ¬ iand (ishr (set : Nat) (v : Nat)) 1 = 1 ∨ ¬ iand (ishr (part : Nat) (u : Nat)) 1 = 1 := by
                rw [← t1, ← t2]
                cases h5 : set.testBit v with
                | false => exact .inl Bool.false_ne_true
                | true =>
                  cases h6 : part.testBit u with
                  | false => exact .inr Bool.false_ne_true
                  | true => exact absurd (by simp [crS, h5, h6]) hcr
              repeat' (first | apply pwp_seq | apply pwp_region | (apply px_run; (first | (apply opv_move; first | exact hid_int rfl | exact hid_bool rfl) | (apply opv_assign; first | exact hid_int rfl) | (apply opv_lss <;> rfl) | (apply opv_eql <;> rfl) | (apply opv_and <;> rfl) | (apply opv_pick_t <;> rfl) | (apply opv_pick_f <;> rfl) | (apply opv_add_in; rfl; rfl; omega) | (apply opv_shr; rfl; rfl; omega) | (apply opv_field fld_G0; rfl) | (apply opv_load_blk 1; (first | with_reducible exact sc_int); rfl; rfl; rfl)); rfl; rfl) | apply px_nil | (apply px_skip; rfl; rfl) | apply qseq_normal | apply pwp_block | apply qblock_normal | apply pwp_skip | (apply pwp_cond_f; rfl) | (apply px_guard_dec; rfl; rfl; rfl; all_goals (intro hc; try (first | fail))) | (apply pwp_cond_dec; rfl; all_goals (intro hc; try (first | (exfalso; omega)))))
              all_goals
                refine qround_normal ?_ ⟨(u + 1, gz), ⟨rfl, trivial⟩, ⟨by dsimp only; omega, u2⟩, by dsimp only; omega, fun w' h => ?_⟩
                · repeat (first | exact same_refl | refine same_upd rfl ?_ | refine same_junk rfl ?_)
                · dsimp only
                  rw [hsk]
                  exact Cl.ofSel (by assumption) (by repeat (first | exact sel_nil | refine sel_cons 0 rfl ?_ | refine sel_cons 1 rfl ?_ | refine sel_cons 2 rfl ?_ | refine sel_cons 3 rfl ?_ | refine sel_cons 4 rfl ?_ | refine sel_cons 5 rfl ?_ | refine sel_cons 6 rfl ?_ | refine sel_cons 7 rfl ?_ | refine sel_cons 8 rfl ?_ | refine sel_cons 9 rfl ?_ | refine sel_cons 10 rfl ?_ | refine sel_cons 11 rfl ?_ | refine sel_cons 12 rfl ?_ | refine sel_cons 13 rfl ?_))
          · obtain rfl : u = n := by omega
            repeat' (first | apply pwp_seq | apply pwp_region | (apply px_run; (first | (apply opv_move; first | exact hid_int rfl) | (apply opv_assign; first | exact hid_int rfl) | (apply opv_lss <;> rfl) | (apply opv_add_in; rfl; rfl; omega) | (apply opv_field fld_G0; rfl) | (apply opv_load_blk 1; (first | with_reducible exact sc_int); rfl; rfl; rfl)); rfl; rfl) | apply px_nil | apply qseq_normal | apply qseq_exit | apply qblock_normal | (apply qblock_exit_same; rfl) | apply pwp_exit | apply qround_exit | (apply pwp_cond_dec; rfl; all_goals (intro hc; try (first | (exfalso; omega)))))
            refine qround_normal ?_ ⟨(v + 1, gz), ⟨rfl, trivial⟩, ⟨by dsimp only; omega, u2⟩, by dsimp only; omega, fun w' h => ?_⟩
            · repeat (first | exact same_refl | refine same_upd rfl ?_ | refine same_junk rfl ?_)
            · dsimp only
              rw [← gRows_congr (fun x y hx hy => prP_row (P := Q') (set := set) (part := part) (v := v) hx hy)]
              exact Cl.ofSel (by assumption) (by repeat (first | exact sel_nil | refine sel_cons 0 rfl ?_ | refine sel_cons 1 rfl ?_ | refine sel_cons 2 rfl ?_ | refine sel_cons 3 rfl ?_ | refine sel_cons 4 rfl ?_ | refine sel_cons 5 rfl ?_ | refine sel_cons 6 rfl ?_ | refine sel_cons 7 rfl ?_ | refine sel_cons 8 rfl ?_ | refine sel_cons 9 rfl ?_ | refine sel_cons 10 rfl ?_ | refine sel_cons 11 rfl ?_ | refine sel_cons 12 rfl ?_ | refine sel_cons 13 rfl ?_))
        · obtain rfl : v = n := by omega
          repeat' (first | apply pwp_seq | apply pwp_region | (apply px_run; (first | (apply opv_move; first | exact hid_int rfl | exact hid_bool rfl) | (apply opv_assign; first | exact hid_int rfl) | (apply opv_lss <;> rfl) | (apply opv_or <;> rfl) | (apply opv_pick_f <;> rfl) | (apply opv_field fld_G0; rfl) | (apply opv_load_blk 1; (first | with_reducible exact sc_int); rfl; rfl; rfl)); rfl; rfl) | apply px_nil | (apply px_skip; rfl; rfl) | apply qseq_normal | apply qseq_exit | apply qblock_normal | (apply qblock_exit_same; rfl) | apply pwp_exit | apply qround_exit | (apply pwp_cond_f; rfl) | (apply px_guard_dec; rfl; rfl; rfl; all_goals (intro hc; try (first | (exfalso; omega)))))
          refine qround_normal ?_ ⟨(k', next, joinW 42 set part Q', set ||| part, gy), ⟨rfl, congrArg (Value.int .i64) hor, trivial⟩, ⟨by dsimp only; omega, r5, joinW_sym r1, joinW_irr r2 hdj, or_lt128 i5 r3, v2, by dsimp only; omega, rfl⟩, by dsimp only; omega, fun w' h => ?_⟩
          · repeat (first | exact same_refl | refine same_upd rfl ?_ | refine same_junk rfl ?_)
          · dsimp only
            rw [← gRows_congr (fun x y hx hy => prP_all (P := Q') (set := set) (part := part) hx hy)]
            exact Cl.ofSel (by assumption) (by repeat (first | exact sel_nil | refine sel_cons 0 rfl ?_ | refine sel_cons 1 rfl ?_ | refine sel_cons 2 rfl ?_ | refine sel_cons 3 rfl ?_ | refine sel_cons 4 rfl ?_ | refine sel_cons 5 rfl ?_ | refine sel_cons 6 rfl ?_ | refine sel_cons 7 rfl ?_ | refine sel_cons 8 rfl ?_ | refine sel_cons 9 rfl ?_ | refine sel_cons 10 rfl ?_ | refine sel_cons 11 rfl ?_ | refine sel_cons 12 rfl ?_ | refine sel_cons 13 rfl ?_))
end Go.Proofs.YthbhoofhenmbeaaDoor
