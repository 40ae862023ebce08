import Derived.Test.YtkbjcfabbapnpaaPwBool
import Derived.Test.YtkbjcfabbapnpaaPwTurn
import Derived.Test.YtkbjcfabbapnpaaAr
import Derived.Test.YtkbjcfabbapnpaaQt
import Derived.Test.YtkbjcfabbapnpaaCq
import Derived.Test.YtkbjcfabbapnpaaPwPor
import Derived.Test.YtkbjcfabbapnpaaPwOri
/- Structs of three slices, built. -/
namespace Go.Pw
open Go Go.RowKit
structure BuildT (P : Program) (t : TypeId) : Prop where
  one : ∀ ao l c, P.built t [(0, .slice ao l c)] = some #[.slice ao l c, .slice none 0 0, .slice none 0 0]
  nil : P.built t [] = some #[.slice none 0 0, .slice none 0 0, .slice none 0 0]
section
variable {P : Program} {C : Cls} {ρ : Operand → Value} {d : Option Tmp} {t t' ty : TypeId} {pos : String} {af : Array Edge} {g : Option (Nat × Bool)} {x y z : Operand} {m n : Int}
theorem opv_buildT1 {sv : Value} {vs : List Value} (hb : BuildT P t) (hx : ρ x = sv) (hr : Rd C sv vs) : Opv P C ρ ⟨d, .build t #[(0, x)], ty, pos, af, g⟩ (.agg [sv, .slice none 0 0, .slice none 0 0].toArray) :=
  opv_of_run fun w hw => by
    obtain ⟨ao, l, c, rfl⟩ := arr_slice (hr.out w hw)
    have := run_build (P := P) w t #[(0, .slice ao l c)] _ (hb.one ao l c)
    simp [execOp, hx, this]
theorem opv_buildT0 (hb : BuildT P t) : Opv P C ρ ⟨d, .build t #[], ty, pos, af, g⟩ (.agg [.slice none 0 0, .slice none 0 0, .slice none 0 0].toArray) :=
  opv_of_run fun w hw => by
    have := run_build (P := P) w t #[] _ hb.nil
    simp [execOp, this]
end
/-- Some of the objects, in another order (each number counts in what the ones before leave). -/
theorem Cl.pick {X : List Nat} {w0 w : World} {objs old rest : List Ob} (ks : List Nat) (h : Cl X w0 objs w) (hp : pull objs ks = some (old, rest)) : Cl X w0 old w :=
  (h.perm (pull_perm ks _ _ _ hp)).sub (List.sublist_append_left _ _)
end Go.Pw
/- Orientations found arc by arc: the program's and the reference's. -/
namespace Go.Proofs.Ytkbjcfabbapnpaa
open Go Go.RowKit Go.Pw
theorem fld_O0 : Fld Try.prog 29 0 0 := ⟨by obtain ⟨i, h1, _, h2, _⟩ := info_parts info_ints; exact ⟨_, _, i, Try.underlying29, rfl, rfl, h1, by omega⟩⟩
theorem st_O : StrT Try.prog 29 [.slice none 0 0] := ⟨⟨_, Try.underlying29⟩, by kernel_rfl⟩
theorem bl_O : BuildO Try.prog 29 := ⟨fun ao l c => by kernel_rfl, by kernel_rfl⟩
theorem en_s_RemoveEdge : Entry Try.prog 42 := ⟨_, Try.func42, by kernel_rfl, rfl⟩
set_option maxHeartbeats 1600000 in
theorem s_RemoveEdge_c (n : Nat) (gv : Value) (P : Nat → Nat → Bool) (v u : Nat) (w : World) (hr : Arr w gv (ints (gRows n P))) (h1 : 1 ≤ n) (hn : n ≤ 7) (hs : ∀ i u, P i u = P u i) (hi : ∀ i, P i i = false)
    (hv : v < n) (hu : u < n) (hvu : v ≠ u) :
    Gives Try.prog 42 #[.agg #[.int .i64 n, gv], .int .i64 v, .int .i64 u] w (fun x objs => ∃ sv', x = .tuple #[.agg #[.int .i64 n, sv'], .bool (P v u)] ∧ objs = [.row 3 sv' (ints (gRows n (remP P v u)))]) := by
  have hg := gRows_isG h1 hn hs hi
  have hlen : (gRows n P).length = n := gRows_length n P
  have hhas := gRows_has hn P hv hu
  have hvu' : (v : Int) ≠ u := by omega
  refine gives_enter (args := [_, _, _]) en_s_RemoveEdge Try.func42 rfl Try.ntmps42 rfl ?_
  cases hP : P v u with
  | true =>
    have hP2 : P u v = true := by rw [hs]; exact hP
    obtain ⟨p1, p2⟩ := gRows_del (P := P) hv hu hvu
    obtain ⟨_, m1⟩ := mask_del (f := P v) hn hu hP
    obtain ⟨_, m2⟩ := mask_del (f := P u) hn hv hP2
    have h7 : 2 ^ n ≤ 2 ^ 7 := Nat.pow_le_pow_right (by omega) hn
    have l1 := maskU_lt (fun x => P v x && !decide (x = u)) n
    have l2 := maskU_lt (fun x => P u x && !decide (x = v)) n
    have b1 : (gRows n P).getD v 0 - ishl 1 (u : Int) = ((maskU (fun x => P v x && !decide (x = u)) n : Nat) : Int) := by rw [gRows_get P hv]; exact m1
    have b2 : ((gRows n P).set v ((gRows n P).getD v 0 - ishl 1 (u : Int))).getD u 0 - ishl 1 (v : Int) = ((maskU (fun x => P u x && !decide (x = v)) n : Nat) : Int) := by rw [b1, p1]; exact m2
    repeat' (first | apply pwp_seq | apply pwp_region | (apply px_run; (first | (apply opv_move; first | exact hid_int rfl | exact hid_bool rfl) | (apply opv_assign; first | exact hid_bool rfl) | (apply opv_pick_f <;> rfl) | (apply opv_not <;> rfl) | (apply opv_sub_in; rfl; rfl; omega) | (apply opv_shl; rfl; rfl; omega) | (apply opv_field fld_G1; rfl) | (apply opv_load_blk 0; (first | with_reducible exact sc_int | with_reducible exact sc_ints); rfl; rfl; rfl) | (apply opv_load_ints sc_int; rfl; (first | exact rd_row 1 rfl); (first | omega | (simp only [List.length_set]; omega))) | (apply opv_index_nat (vs := ints _) el_int; (case hr => exact rd_row 1 rfl); (case hx => rfl); (case hy => rfl); (first | (simp only [ints_length]; omega) | (simp [ints]; omega))) | (apply opv_load_str 0 st_G; rfl; rfl; rfl) | (apply opv_load_str 1 st_G; rfl; rfl; rfl) | (apply opv_load_str 3 st_G; rfl; rfl; rfl) | (apply opv_call; rfl; rfl; exact Cl.stable _ _ _; exact fun w hw => s_l2Pair_c _ _ _ _ _ _ (by first | exact hw.arr (by assumption)) hg (by omega) (by omega) hvu') | (apply opv_call; rfl; rfl; exact Cl.stable _ _ _; exact fun w hw => s_l2Edge_c _ _ (gRows n P) _ _ _ (by first | exact hw.arr (by assumption)) (by omega) (by omega))); rfl; rfl) | apply px_nil | apply qseq_normal | apply qseq_ret | apply pwp_skip | apply pwp_ret | (apply pwp_region_any [0, 1, 2, 3, 4, 5, 6, 7, 8, 9, 10, 11] [12] 1 (Cl [] w [.blk _ [.int .i64 n, sc], .row 3 sc _, .blk _ _, .blk _ _]); kernel_rfl; decide +kernel; exact Cl.stable _ _ _; exact fun w h => h.sub (by repeat (first | exact List.Sublist.refl _))) | apply qlooks_normal | (apply qstep_out; decide +kernel) | (apply pxa_nil; decide +kernel) | (apply pxa_one 12; decide +kernel; rfl) | (apply pwp_cond_not; rfl; all_goals (intro hc; try (first | fail))) | (apply px_box; rfl; rfl; rfl; rfl; intro bk) | (apply px_alloc st_G; rfl; rfl; rfl; intro bk) | (apply px_store_str 0 st_G; rfl; rfl; rfl; rfl; rfl; (intro w hw; (first | refine all2 rfl ?_ ?_) <;> (first | rfl | exact stor_row 1 hw rfl)); rfl) | (apply px_store_str 2 st_G; rfl; rfl; rfl; rfl; rfl; (intro w hw; (first | refine all2 rfl ?_ ?_) <;> (first | rfl | exact stor_row 1 hw rfl)); rfl) | (apply px_store_int 1 co_int; rfl; rfl; rfl; (first | omega | (simp; omega)); rfl) | (apply px_gives; rfl; rfl; rfl; rfl; rfl; exact fun w hw => s_l2Copy_c _ _ (gRows n P) _ (by first | exact hw.arr (by assumption)) (by omega); rintro _ _ ⟨sc, rfl, rfl⟩))
    all_goals first
      | (exfalso; rw [show hasB ((gRows n P).getD (Int.toNat (v : Int)) 0) (u : Int) = P v u from hhas, hP] at hc; cases hc; done)
      | (refine qbody_cell_tmp 2 rfl st_G rfl rfl rfl rfl ⟨_, ⟨sc, rfl, rfl⟩, fun w' h => ?_⟩
         rw [b2, b1, p2] at h
         exact Cl.sub (by assumption) (by repeat (first | exact List.Sublist.slnil | exact List.Sublist.refl _ | apply List.Sublist.cons_cons | exact List.sublist_append_left _ _ | exact List.sublist_append_right _ _ | apply List.Sublist.cons)))
  | false =>
    have hk := gRows_keep (n := n) hP (by rw [hs]; exact hP)
    rw [← hk]
    repeat' (first | apply pwp_seq | apply pwp_region | (apply px_run; (first | (apply opv_move; first | exact hid_int rfl | exact hid_bool rfl) | (apply opv_assign; first | exact hid_bool rfl) | (apply opv_pick_f <;> rfl) | (apply opv_not <;> rfl) | (apply opv_shl; rfl; rfl; omega) | (apply opv_field fld_G1; rfl) | (apply opv_load_blk 0; (first | with_reducible exact sc_int | with_reducible exact sc_ints); rfl; rfl; rfl) | (apply opv_load_ints sc_int; rfl; (first | exact rd_row 1 rfl); (first | omega)) | (apply opv_index_nat (vs := ints _) el_int; rfl; rfl; (first | exact rd_row 1 rfl); (first | (simp only [ints_length]; omega))) | (apply opv_load_str 0 st_G; rfl; rfl; rfl) | (apply opv_load_str 1 st_G; rfl; rfl; rfl) | (apply opv_load_str 3 st_G; rfl; rfl; rfl) | (apply opv_call; rfl; rfl; exact Cl.stable _ _ _; exact fun w hw => s_l2Pair_c _ _ _ _ _ _ (by first | exact hw.arr (by assumption)) hg (by omega) (by omega) hvu') | (apply opv_call; rfl; rfl; exact Cl.stable _ _ _; exact fun w hw => s_l2Edge_c _ _ (gRows n P) _ _ _ (by first | exact hw.arr (by assumption)) (by omega) (by omega)) | (apply opv_sub <;> rfl)); rfl; rfl) | apply px_nil | apply qseq_normal | apply qseq_ret | apply pwp_skip | apply pwp_ret | (apply pwp_region_mix; kernel_rfl; decide +kernel; exact Cl.stable _ _ _) | (apply pwp_cond_not; rfl; all_goals (intro hc; try (first | fail))) | (apply px_box; rfl; rfl; rfl; rfl; intro bk) | (apply px_alloc st_G; rfl; rfl; rfl; intro bk) | (apply px_store_str 0 st_G; rfl; rfl; rfl; rfl; rfl; (intro w hw; (first | refine all2 rfl ?_ ?_) <;> (first | rfl | exact stor_row 1 hw rfl)); rfl) | (apply px_store_str 2 st_G; rfl; rfl; rfl; rfl; rfl; (intro w hw; (first | refine all2 rfl ?_ ?_) <;> (first | rfl | exact stor_row 1 hw rfl)); rfl) | (apply px_gives; rfl; rfl; rfl; rfl; rfl; exact fun w hw => s_l2Copy_c _ _ (gRows n P) _ (by first | exact hw.arr (by assumption)) (by omega); rintro _ _ ⟨sc, rfl, rfl⟩))
    all_goals first
      | (refine qbody_cell_tmp 2 rfl st_G rfl rfl rfl rfl ⟨_, ⟨sc, rfl, rfl⟩, fun w' h => ?_⟩
         exact Cl.sub (by assumption) (by repeat (first | exact List.Sublist.slnil | exact List.Sublist.refl _ | apply List.Sublist.cons_cons | exact List.sublist_append_left _ _ | exact List.sublist_append_right _ _ | apply List.Sublist.cons)))
      | (exfalso; rw [show hasB ((gRows n P).getD (Int.toNat (v : Int)) 0) (u : Int) = P v u from hhas, hP] at hc; cases hc; done)
theorem en_s_ForcedArcs : Entry Try.prog 24 := ⟨_, Try.func24, by kernel_rfl, rfl⟩
set_option maxRecDepth 100000 in
set_option maxHeartbeats 3200000 in
theorem s_ForcedArcs_c (size : Int) (gv : Value) (rows : List Int) (a b : Nat) (w : World) (hr : Arr w gv (ints rows)) (hg : IsG size rows) (ha : a < rows.length) (hb : b < rows.length) (hed : hasB (rows.getD a 0) (b : Nat) = true) :
    Gives Try.prog 24 #[.agg #[.int .i64 size, gv], .int .i64 (a : Int), .int .i64 (b : Int)] w (fun v objs => ∃ ps, lssOf ps = (forcedA rows a b).1 ∧ objs = .row 24 v (svsOf ps) :: rowsOb 3 ps) := by
  refine gives_enter (args := [_, _, _]) en_s_ForcedArcs Try.func24 rfl Try.ntmps24 rfl ?_
  obtain ⟨n, hn, hrl, hn1, hn7⟩ := isG_size hg
  have hab : arcN rows.length [(a : Int), (b : Int)] := ⟨a, b, rfl, ha, hb⟩
  have hE : ∀ k, k = (bfsA rows a b k).1.length → forcedA rows a b = bfsA rows a b k := fun k h => forcedA_end hab (by omega) h
  generalize forcedA rows a b = FA at hE ⊢
  have hep : edgeP size rows a b := ⟨hg, ⟨by omega, by omega⟩, ⟨by omega, by omega⟩, hed⟩
  repeat' (first | apply pwp_seq | apply pwp_region | (apply px_run; (first | (apply opv_move; first | exact hid_int rfl) | (apply opv_assign; first | exact hid_int rfl | rfl) | (apply opv_not_dec <;> rfl) | (apply opv_load_str 0 st_G; rfl; rfl; rfl) | (apply opv_call; rfl; rfl; exact Cl.stable _ _ _; exact fun w hw => s_HasEdge_c _ _ rows _ _ _ (by first | exact hw.arr (by assumption)))); rfl; rfl) | apply px_nil | apply qseq_normal | apply pwp_block | apply pwp_skip | (apply pwp_cond_ndec; rfl; all_goals (intro hc; try (first | contradiction))) | (apply px_box; rfl; rfl; rfl; rfl; intro bk) | (apply px_lit2 ez_int; rfl; (intro w hw; (first | rfl)); rfl; (intro w hw; (first | rfl)); rfl; rfl; rfl; intro sv) | (apply px_lit1 ez_intss; rfl; (intro w hw; (first | exact stor_row 0 hw rfl)); rfl; rfl; rfl; intro sv))
  rename_i e
  refine pwp_loop (τ := Nat × Value × Pairs) [(7,10), (21,68)] (fun x => [(8, .int .i64 (x.1 : Int)), (7, x.2.1)]) (fun x => Cl [] w (.row 24 x.2.1 (svsOf x.2.2) :: .blk bk [.int .i64 size, gv] :: rowsOb 3 x.2.2)) (fun x => x.1 ≤ (bfsA rows a b x.1).1.length ∧ lssOf x.2.2 = (bfsA rows a b x.1).1) (fun x => 49 - x.1) (0, sv, [(e, [(a : Int), (b : Int)])])
    ⟨rfl, rfl, trivial⟩ ⟨Nat.zero_le _, rfl⟩ (fun w' h => h.perm (List.Perm.cons _ (List.Perm.swap _ _ _))) (fun J x hx => ?_)
  obtain ⟨k, so, ps⟩ := x
  dsimp only at hx ⊢
  obtain ⟨hk, he⟩ := hx
  have hok := bfsA_ok hab k
  have hbd := hok.bound (by omega)
  have hpl : ps.length = (bfsA rows a b k).1.length := by rw [← he, lssOf_length]
  by_cases hlt : k < ps.length
  · have hbs : bfsA rows a b (k + 1) = stepA rows (bfsA rows a b k) k := by rw [bfsA, if_pos (by omega)]
    have hlk : (bfsA rows a b k).1.getD k [] = lsAt ps k := by rw [← he, lss_getD]
    obtain ⟨x, y, hxy, hx, hy⟩ := hok.arc (lsAt ps k) (by rw [← he]; exact lsAt_mem hlt)
    have hll : (lsAt ps k).length = 2 := by rw [hxy]; rfl
    have hmem : Ob.row 3 (svAt ps k) (ints (lsAt ps k)) ∈ rowsOb 3 ps := row_mem hlt
    have key : ∀ w', Arr w' gv (ints rows) → Gives Try.prog 56 #[.agg #[.int .i64 size, gv], .int .i64 ((lsAt ps k).getD 0 0), .int .i64 ((lsAt ps k).getD 1 0)] w' (fun v objs => ∃ qs, lssOf qs = nextA rows ((lsAt ps k).getD 0 0) ((lsAt ps k).getD 1 0) ∧ objs = .row 24 v (svsOf qs) :: rowsOb 3 qs) := fun w' h => by
      rw [hxy]; exact s_l13Next_c size gv rows x y w' h hg hx hy
    repeat' (first | apply pwp_seq | apply pwp_region | (apply px_run; (first | (apply opv_move; first | exact hid_int rfl | rfl) | (apply opv_assign; first | exact hid_int rfl | rfl) | (apply opv_lss <;> rfl) | (apply opv_load_ints sc_int; rfl; (first | exact rd_mem (by repeat (first | assumption | apply List.mem_cons_of_mem))); (first | omega)) | (apply opv_index_nat (k := 0) (vs := ints _) el_int; rfl; rfl; (first | exact rd_mem (by repeat (first | assumption | apply List.mem_cons_of_mem))); (first | (simp only [ints_length]; first | omega))) | (apply opv_index_nat (k := 1) (vs := ints _) el_int; rfl; rfl; (first | exact rd_mem (by repeat (first | assumption | apply List.mem_cons_of_mem))); (first | (simp only [ints_length]; first | omega))) | (apply opv_load_str 1 st_G; rfl; rfl; rfl) | (apply opv_load_svs sc_ints; rfl; (first | exact rd_row 0 rfl); omega) | (apply opv_index_nat (vs := svsOf _) el_intss; rfl; rfl; (first | exact rd_row 0 rfl); (simp only [svsOf_length]; omega)) | (apply opv_len_svs el_intss; rfl; (first | exact rd_row 0 rfl))); rfl; rfl) | apply px_nil | apply qseq_normal | apply pwp_block | apply pwp_skip | (apply pwp_region_mix; kernel_rfl; decide +kernel; exact Cl.stable _ _ _) | (apply pwp_cond_dec; rfl; all_goals (intro hc; try (first | (exfalso; omega)))) | (apply px_givesT; rfl; rfl; rfl; rfl; rfl; exact fun w hw => key _ (by first | exact hw.arr (by assumption)); rintro vf _ ⟨fs, hfs, rfl⟩; refine ⟨[_], _, rfl, ?_⟩))
    have hst : stepA rows (bfsA rows a b k) k = (lssOf fs).foldl (addA k) (bfsA rows a b k) := by rw [hfs]; unfold stepA; rw [hlk]
    have hfa : ∀ e ∈ lssOf fs, arcN rows.length e := by rw [hfs]; exact nextA_arc
    have hfl : fs.length ≤ 49 := by
      have h1 := nextU_length rows rows.length ((lsAt ps k).getD 0 0) ((lsAt ps k).getD 1 0) rows.length
      have h2 : rows.length * rows.length ≤ 7 * 7 := Nat.mul_le_mul (by omega) (by omega)
      have h3 := congrArg List.length hfs
      rw [lssOf_length] at h3
      unfold nextA at h3
      omega
    have hoj := fun j => foldU_ok hok hfa (k := k) (by omega) j
    generalize hs0 : bfsA rows a b k = s0 at *
    refine pwp_loop (τ := Nat × Value × Pairs) [(7,7), (10,10), (41,68)] (fun x => [(10, .int .i64 (x.1 : Int)), (7, x.2.1)]) (fun x => Cl [] w (.row 24 vf (svsOf fs) :: .row 24 x.2.1 (svsOf (ps ++ x.2.2)) :: .blk bk [.int .i64 size, gv] :: (rowsOb 3 ps ++ rowsOb 3 fs)))
      (fun x => x.1 ≤ fs.length ∧ List.Sublist x.2.2 (fs.take x.1) ∧ lssOf (ps ++ x.2.2) = (foldU k s0 (lssOf fs) x.1).1) (fun x => fs.length - x.1) (0, so, [])
      ⟨rfl, rfl, trivial⟩ ⟨Nat.zero_le _, List.nil_sublist _, by dsimp only; rw [List.append_nil]; exact he⟩ (fun w' h => by dsimp only; rw [List.append_nil]; exact h) (fun J2 x hx => ?_)
    obtain ⟨j, so2, qs⟩ := x
    dsimp only at hx ⊢
    obtain ⟨hj, hqs, he2⟩ := hx
    have hob := (hoj j).bound (by omega)
    have hol := (hoj j).len
    have hql : ps.length + qs.length = (foldU k s0 (lssOf fs) j).1.length := by rw [← he2, lssOf_length, List.length_append]
    by_cases hlj : j < fs.length
    · have hmf : Ob.row 3 (svAt fs j) (ints (lsAt fs j)) ∈ rowsOb 3 fs := row_mem hlj
      have hsub : List.Sublist (rowsOb 3 (ps ++ qs)) (rowsOb 3 ps ++ rowsOb 3 fs) := by
        rw [rowsOb_append]; exact (List.Sublist.refl _).append (rowsOb_sub (hqs.trans (List.take_sublist _ _)))
      have hfu := foldU_succ (k := (k : Int)) (s := s0) (L := lssOf fs) (j := j) (by rw [lssOf_length]; exact hlj)
      rw [lss_getD] at hfu
      have hsl : (svsOf (ps ++ qs)).length ≤ 49 := by rw [svsOf_length, List.length_append]; omega
      have hpa : ∀ w', Cl [] w (.row 24 vf (svsOf fs) :: .row 24 so2 (svsOf (ps ++ qs)) :: .blk bk [.int .i64 size, gv] :: (rowsOb 3 ps ++ rowsOb 3 fs)) w' →
          Pure Try.prog 41 #[so2, .int .i64 ((lsAt fs j).getD 0 0), .int .i64 ((lsAt fs j).getD 1 0)] w' (.int .i64 (placeA (foldU k s0 (lssOf fs) j).1 (lsAt fs j))) := fun w' hw => by
        have h2 := s_l13Find_c so2 (ps ++ qs) ((lsAt fs j).getD 0 0) ((lsAt fs j).getD 1 0) w' (hw.arrS 1 rfl fun o ho => List.mem_cons_of_mem _ (List.mem_cons_of_mem _ (List.mem_cons_of_mem _ (hsub.subset ho)))) (by rw [List.length_append]; omega)
          (fun i hi => by
            obtain ⟨x', y', h, _⟩ := (hoj j).arc (lsAt (ps ++ qs) i) (by rw [← he2]; exact lsAt_mem hi)
            rw [h]; rfl)
        rw [he2] at h2
        have h3 : [(lsAt fs j).getD 0 0, (lsAt fs j).getD 1 0] = lsAt fs j := by
          obtain ⟨x', y', h, _⟩ := hfa (lsAt fs j) (lsAt_mem hlj)
          rw [h]; rfl
        rw [h3] at h2
        exact h2
      have hl2 : (lsAt fs j).length = 2 := by
        obtain ⟨x', y', h, _⟩ := hfa (lsAt fs j) (lsAt_mem hlj)
        rw [h]; rfl
      repeat' (first | apply pwp_seq | apply pwp_region | (apply px_run; (first | (apply opv_move; first | exact hid_int rfl | rfl) | (apply opv_assign; first | exact hid_int rfl | rfl) | (apply opv_lss <;> rfl) | (apply opv_add_in; rfl; rfl; omega) | (apply opv_load_ints sc_int; rfl; (first | exact rd_mem (by repeat (first | assumption | apply List.mem_cons_of_mem | apply List.mem_append_right))); (first | omega)) | (apply opv_index_nat (k := 0) (vs := ints _) el_int; rfl; rfl; (first | exact rd_mem (by repeat (first | assumption | apply List.mem_cons_of_mem | apply List.mem_append_right))); (first | (simp only [ints_length]; first | omega))) | (apply opv_index_nat (k := 1) (vs := ints _) el_int; rfl; rfl; (first | exact rd_mem (by repeat (first | assumption | apply List.mem_cons_of_mem | apply List.mem_append_right))); (first | (simp only [ints_length]; first | omega))) | (apply opv_load_svs sc_ints; rfl; (first | exact rd_row 0 rfl); omega) | (apply opv_index_nat (vs := svsOf _) el_intss; rfl; rfl; (first | exact rd_row 0 rfl); (simp only [svsOf_length]; omega)) | (apply opv_len_svs el_intss; rfl; (first | exact rd_row 0 rfl)) | (apply opv_call; rfl; rfl; exact Cl.stable _ _ _; exact fun w hw => hpa _ hw)); rfl; rfl) | apply px_nil | apply qseq_normal | apply pwp_block | apply qblock_normal | apply pwp_skip | (apply pwp_region_mix; kernel_rfl; decide +kernel; exact Cl.stable _ _ _) | (apply pwp_cond_dec; rfl; all_goals (intro hc; try (first | (exfalso; omega)))) | (apply px_lit1 ez_intss; rfl; (intro w hw; (first | exact stor_mem hw (by repeat (first | assumption | apply List.mem_cons_of_mem | apply List.mem_append_right)))); rfl; rfl; rfl; intro sv) | (apply px_append 2 ez_intss; rfl; rfl; rfl; (first | exact rd_row 0 rfl); (intro w hw u hu; simp only [List.mem_singleton] at hu; subst hu; (first | exact stor_mem hw (by repeat (first | assumption | apply List.mem_cons_of_mem | apply List.mem_append_right)))); (simp; omega); decide; rfl; rfl; intro sv))
      · refine qround_normal ?_ ⟨(j + 1, sv, qs ++ [(svAt fs j, lsAt fs j)]), ⟨rfl, rfl, trivial⟩, ⟨by dsimp only; omega, ?_, ?_⟩, by dsimp only; omega, fun w' h => ?_⟩
        · repeat (first | exact same_refl | refine same_upd rfl ?_ | refine same_junk rfl ?_)
        · rw [ps_snoc hlj]; exact hqs.append (List.Sublist.refl _)
        · dsimp only; rw [hfu, addA_new hc, ← List.append_assoc, lssOf_snoc, he2]
        · dsimp only
          rw [← List.append_assoc, svsOf_snoc]
          exact Cl.sub (by assumption) (by repeat (first | exact List.Sublist.slnil | exact List.Sublist.refl _ | apply List.Sublist.cons_cons | exact List.sublist_append_left _ _ | exact List.sublist_append_right _ _ | apply List.Sublist.cons))
      · refine qround_normal ?_ ⟨(j + 1, so2, qs), ⟨rfl, rfl, trivial⟩, ⟨by dsimp only; omega, hqs.trans ?_, ?_⟩, by dsimp only; omega, fun w' h => ?_⟩
        · repeat (first | exact same_refl | refine same_upd rfl ?_ | refine same_junk rfl ?_)
        · rw [ps_snoc hlj]; exact List.sublist_append_left _ _
        · dsimp only; rw [hfu, addA_old hc]; exact he2
        · exact h
    · obtain rfl : j = fs.length := by omega
      have hfin : foldU k s0 (lssOf fs) fs.length = bfsA rows a b (k + 1) := by
        have := foldU_all (k : Int) s0 (lssOf fs)
        rw [lssOf_length] at this
        rw [this, hbs, hst]
      repeat' (first | apply pwp_seq | apply pwp_region | (apply px_run; (first | (apply opv_move; first | exact hid_int rfl | rfl) | (apply opv_assign; first | exact hid_int rfl) | (apply opv_lss <;> rfl) | (apply opv_add_in; rfl; rfl; omega) | (apply opv_len_svs el_intss; rfl; (first | exact rd_row 0 rfl))); rfl; rfl) | apply px_nil | apply qseq_normal | apply qseq_exit | apply qblock_normal | (apply qblock_exit_same; rfl) | apply pwp_exit | apply qround_exit | (apply pwp_cond_dec; rfl; all_goals (intro hc; try (first | (exfalso; omega)))))
      refine qround_normal ?_ ⟨(k + 1, so2, ps ++ qs), ⟨rfl, rfl, trivial⟩, ⟨?_, ?_⟩, by dsimp only; omega, fun w' h => ?_⟩
      · repeat (first | exact same_refl | refine same_upd rfl ?_ | refine same_junk rfl ?_)
      · dsimp only; rw [← hfin]; omega
      · dsimp only; rw [he2, hfin]
      · dsimp only
        rw [rowsOb_append]
        exact h.sub (List.Sublist.cons _ (List.Sublist.cons_cons _ (List.Sublist.cons_cons _ ((List.Sublist.refl _).append (rowsOb_sub (hqs.trans (List.take_sublist _ _)))))))
  · have hend := hE k (by omega)
    repeat' (first | apply pwp_seq | apply pwp_region | (apply px_run; (first | (apply opv_move; first | exact hid_int rfl | rfl) | (apply opv_assign; first | rfl) | (apply opv_lss <;> rfl) | (apply opv_len_svs el_intss; rfl; (first | exact rd_row 0 rfl))); rfl; rfl) | apply px_nil | apply qseq_normal | apply qseq_exit | (apply qblock_exit_same; rfl) | apply pwp_exit | apply pwp_ret | apply qround_exit | (apply pwp_cond_dec; rfl; all_goals (intro hc; try (first | (exfalso; omega)))))
    refine qbody_ret1 (v := so) rfl rfl ⟨_, ⟨ps, by rw [hend]; exact he, rfl⟩, fun w' h => ?_⟩
    exact Cl.sub (by assumption) (by repeat (first | exact List.Sublist.slnil | exact List.Sublist.refl _ | apply List.Sublist.cons_cons | exact List.sublist_append_left _ _ | exact List.sublist_append_right _ _ | apply List.Sublist.cons))
end Go.Proofs.Ytkbjcfabbapnpaa
