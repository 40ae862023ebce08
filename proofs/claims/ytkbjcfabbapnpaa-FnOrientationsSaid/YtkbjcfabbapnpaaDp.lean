import Derived.Test.YtkbjcfabbapnpaaOr
import Derived.Test.YtkbjcfabbapnpaaPwPpm
import Derived.Test.YtkbjcfabbapnpaaDt
import Derived.Test.YtkbjcfabbapnpaaDf
import Derived.Test.YtkbjcfabbapnpaaLk
import Derived.Test.YtkbjcfabbapnpaaPwBool
import Derived.Test.YtkbjcfabbapnpaaPwPsv
import Derived.Test.YtkbjcfabbapnpaaPwStx
import Derived.Test.YtkbjcfabbapnpaaPwPpe
import Derived.Test.YtkbjcfabbapnpaaCq
import Derived.Test.YtkbjcfabbapnpaaPwPld
import Derived.Test.YtkbjcfabbapnpaaKd
import Derived.Test.YtkbjcfabbapnpaaPwLit
import Derived.Test.YtkbjcfabbapnpaaPwDrop
import Derived.Test.YtkbjcfabbapnpaaQt
import Derived.Test.YtkbjcfabbapnpaaOi
import Derived.Test.YtkbjcfabbapnpaaOs
import Derived.Test.YtkbjcfabbapnpaaPwPpg
/- Permutation models out of two orientations: orders. -/
namespace Go.Proofs.Ytkbjcfabbapnpaa
open Go Go.RowKit Go.Pw
theorem opv_min_left {P : Program} {C : Cls} {ρ : Operand → Value} {d : Option Tmp} {ty : TypeId} {pos : String} {af : Array Edge} {g : Option (Nat × Bool)} {x y : Operand} {m n : Int} {ats : Array TypeId} (hx : ρ x = .int .i64 m) (hy : ρ y = .int .i64 n) (h : m ≤ n) : Opv P C ρ ⟨d, .call { callee := .builtin .min, args := #[x, y], argTypes := ats }, ty, pos, af, g⟩ (.int .i64 m) := by
  have := opv_min (P := P) (C := C) (d := d) (ty := ty) (pos := pos) (af := af) (g := g) (ats := ats) hx hy
  rwa [Int.min_eq_left h] at this
end Go.Proofs.Ytkbjcfabbapnpaa
/- Clique numbers by the reference, comparability; the draws of the law on permutations. -/
namespace Go.Proofs.Ytkbjcfabbapnpaa
open Go Go.RowKit Go.Pw
/-- Some graph of at most seven rows beside the cursor. -/
def AnyL (cv : Value) (l : List Int) (cb : Nat) (v : Value) (new : List Ob) : Prop := ∃ n gv rows i h, rows.length ≤ 7 ∧ v = .agg #[.int .i64 n, gv] ∧ (0 ≤ i ∧ i ≤ (l.length : Int)) ∧ new = [.row 3 gv (ints rows), .blk cb (cells3 cv i h)]
theorem cnt_nat {s : Nat} (h : s < 128) : cntS (s : Int) = (cntN s : Nat) := by
  unfold cntS
  rw [(listS_facts h).2.2.2]
theorem en_s_LargestClique : Entry Try.prog 51 := ⟨_, Try.func51, by kernel_rfl, rfl⟩
theorem s_LargestClique_c (n : Nat) (gv : Value) (rows : List Int) (w : World) (hr : Arr w gv (ints rows)) (hg : IsG n rows) :
    Pure Try.prog 51 #[.agg #[.int .i64 n, gv]] w (.int .i64 (bestN (fun s => decide (cliqueP n rows (s : Int))) (2 ^ n))) := by
  refine pure_enter (args := [_]) en_s_LargestClique Try.func51 rfl Try.ntmps51 rfl ?_
  obtain ⟨m, hm, hrl, hn1, hn7⟩ := isG_size hg
  have hnm : n = m := by omega
  subst hnm
  have h7 := pow_le7 hn7
  have hpos : 1 < 2 ^ n := Nat.one_lt_two_pow (by omega)
  have hN : ishl 1 (n : Int) = ((2 ^ n : Nat) : Int) := by rw [ishl_one_nat (by omega)]
  have kG := fun sv w' h => s_IsGraph_c n sv rows w' h
  rw [decide_eq_true hg] at kG
  have h1 : bestN (fun s => decide (cliqueP n rows (s : Int))) 1 = 0 := by simp [bestN]
  repeat' (first | apply pwp_seq | apply pwp_region | (apply px_run; (first | (apply opv_assign; first | exact hid_int rfl)); rfl; rfl) | apply px_nil | apply qseq_normal | apply pwp_block | (apply px_box; rfl; rfl; rfl; rfl; intro bk))
  refine pwp_loop (τ := Nat) [(3,26)] (fun k => [(4, .int .i64 (k : Int)), (3, .int .i64 (bestN (fun s => decide (cliqueP n rows (s : Int))) k))]) (fun _ => Cl [] w [.blk bk [.int .i64 n, gv]]) (fun k => 1 ≤ k ∧ k ≤ 2 ^ n) (fun k => 2 ^ n - k) 1
    ⟨rfl, by rw [h1]; rfl, trivial⟩ ⟨Nat.le_refl _, by omega⟩ (fun _ h => h) (fun J k hk => ?_)
  obtain ⟨k1, k2⟩ := hk
  by_cases hlt : k < 2 ^ n
  · have hb := bestN_lt (fun s => decide (cliqueP n rows (s : Int))) k
    have c1 : ∀ w', Pure Try.prog 50 #[.int .i64 (k : Int)] w' (.int .i64 (cntN k : Nat)) := fun w' => by rw [← cnt_nat (by omega)]; exact s_CountSet_c _ w'
    have c2 : ∀ w', Pure Try.prog 50 #[.int .i64 (bestN (fun s => decide (cliqueP n rows (s : Int))) k : Int)] w' (.int .i64 (cntN (bestN (fun s => decide (cliqueP n rows (s : Int))) k) : Nat)) := fun w' => by rw [← cnt_nat (by omega)]; exact s_CountSet_c _ w'
    have hs : bestN (fun s => decide (cliqueP n rows (s : Int))) (k + 1) = if cntN (bestN (fun s => decide (cliqueP n rows (s : Int))) k) < cntN k ∧ decide (cliqueP n rows (k : Int)) = true then k else bestN (fun s => decide (cliqueP n rows (s : Int))) k := rfl
    repeat' (first | apply pwp_seq | apply pwp_region | (apply px_run; (first | (apply opv_move; first | exact hid_int rfl | exact hid_bool rfl) | (apply opv_assign; first | exact hid_int rfl) | (apply opv_lss <;> rfl) | (apply opv_gtr <;> rfl) | (apply opv_pick_t <;> rfl) | (apply opv_pick_f <;> rfl) | (apply opv_add_in; rfl; rfl; omega) | (apply opv_shl; rfl; rfl; omega) | (apply opv_field fld_G0; rfl) | (apply opv_load_blk 0; (first | with_reducible exact sc_int); rfl; rfl; rfl) | (apply opv_load_str 0 st_G; rfl; rfl; rfl) | (apply opv_call; rfl; rfl; exact Cl.stable _ _ _; exact fun w hw => kG _ _ (by first | exact hw.arr (by assumption))) | (apply opv_call; rfl; rfl; exact Cl.stable _ _ _; exact fun w hw => c1 _) | (apply opv_call; rfl; rfl; exact Cl.stable _ _ _; exact fun w hw => c2 _) | (apply opv_call; rfl; rfl; exact Cl.stable _ _ _; exact fun w hw => s_IsClique_c _ _ rows _ _ (by first | exact hw.arr (by assumption)))); rfl; rfl) | apply px_nil | (apply px_skip; rfl; rfl) | apply qseq_normal | apply pwp_block | apply qblock_normal | apply pwp_skip | (apply pwp_cond_f; rfl) | (apply px_guard_dec; rfl; rfl; rfl; all_goals (intro hc; try (first | fail))) | (apply pwp_cond_dec; rfl; all_goals (intro hc; try (first | (exfalso; omega)))))
    all_goals (refine qround_normal ?_ ⟨k + 1, ⟨rfl, ?_, trivial⟩, ⟨by omega, by omega⟩, by omega, fun _ h => h⟩)
    all_goals first
      | (show Value.int .i64 _ = .int .i64 ((bestN _ (k + 1) : Nat) : Int); rw [hs]; first | (rw [if_pos ⟨by omega, decide_eq_true (by assumption)⟩]; done) | (rw [if_neg (fun hq => by have := hq.1; omega)]; done) | (rw [if_neg (fun hq => absurd (of_decide_eq_true hq.2) (by assumption))]; done))
      | skip
    all_goals (repeat (first | exact same_refl | refine same_upd rfl ?_ | refine same_junk rfl ?_))
  · obtain rfl : k = 2 ^ n := by omega
    repeat' (first | apply pwp_seq | apply pwp_region | (apply px_run; (first | (apply opv_move; first | exact hid_int rfl | exact hid_bool rfl) | (apply opv_assign; first | exact hid_int rfl) | (apply opv_lss <;> rfl) | (apply opv_pick_t <;> rfl) | (apply opv_shl; rfl; rfl; omega) | (apply opv_field fld_G0; rfl) | (apply opv_load_blk 0; (first | with_reducible exact sc_int); rfl; rfl; rfl) | (apply opv_load_str 0 st_G; rfl; rfl; rfl) | (apply opv_call; rfl; rfl; exact Cl.stable _ _ _; exact fun w hw => kG _ _ (by first | exact hw.arr (by assumption)))); rfl; rfl) | apply px_nil | apply qseq_normal | apply qseq_exit | (apply qblock_exit_same; rfl) | apply pwp_exit | apply pwp_ret | apply qround_exit | (apply pwp_cond_dec; rfl; all_goals (intro hc; try (first | (exfalso; omega)))))
    refine qbody_ret1 (v := .int _ _) rfl rfl ⟨rfl, fun _ h => h.below⟩
theorem en_s_CliqueNumber : Entry Try.prog 17 := ⟨_, Try.func17, by kernel_rfl, rfl⟩
theorem s_CliqueNumber_c (n : Nat) (gv : Value) (rows : List Int) (w : World) (hr : Arr w gv (ints rows)) (hg : IsG n rows) :
    Pure Try.prog 17 #[.agg #[.int .i64 n, gv]] w (.int .i64 (cntN (bestN (fun s => decide (cliqueP n rows (s : Int))) (2 ^ n)) : Nat)) := by
  refine pure_enter (args := [_]) en_s_CliqueNumber Try.func17 rfl Try.ntmps17 rfl ?_
  obtain ⟨m, hm, hrl, hn1, hn7⟩ := isG_size hg
  have hnm : n = m := by omega
  subst hnm
  have h7 := pow_le7 hn7
  have kG := fun sv w' h => s_IsGraph_c n sv rows w' h
  rw [decide_eq_true hg] at kG
  obtain ⟨b1, _⟩ := bestN_spec (fun s => decide (cliqueP n rows (s : Int))) (2 ^ n)
  have hb : bestN (fun s => decide (cliqueP n rows (s : Int))) (2 ^ n) < 128 := by
    rcases b1 with b1 | b1
    · omega
    · omega
  have c2 : ∀ w', Pure Try.prog 50 #[.int .i64 (bestN (fun s => decide (cliqueP n rows (s : Int))) (2 ^ n) : Int)] w' (.int .i64 (cntN (bestN (fun s => decide (cliqueP n rows (s : Int))) (2 ^ n)) : Nat)) := fun w' => by rw [← cnt_nat hb]; exact s_CountSet_c _ w'
  repeat' (first | apply pwp_seq | apply pwp_region | (apply px_run; (first | (apply opv_assign; first | exact hid_int rfl) | (apply opv_not <;> rfl) | (apply opv_load_str 0 st_G; rfl; rfl; rfl) | (apply opv_call; rfl; rfl; exact Cl.stable _ _ _; exact fun w hw => kG _ _ (by first | exact hw.arr (by assumption))) | (apply opv_call; rfl; rfl; exact Cl.stable _ _ _; exact fun w hw => s_LargestClique_c _ _ rows _ (by first | exact hw.arr (by assumption)) hg) | (apply opv_call; rfl; rfl; exact Cl.stable _ _ _; exact fun w hw => c2 _)); rfl; rfl) | apply px_nil | apply qseq_normal | apply pwp_skip | apply pwp_ret | (apply pwp_cond_f; rfl) | (apply px_box; rfl; rfl; rfl; rfl; intro bk))
  refine qbody_ret1 (v := .int _ _) rfl rfl ⟨rfl, fun _ h => h.below⟩
end Go.Proofs.Ytkbjcfabbapnpaa
