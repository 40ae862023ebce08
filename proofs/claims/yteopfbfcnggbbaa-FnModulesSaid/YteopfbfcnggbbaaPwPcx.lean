/- No induced path of four found: no three edges in a row without the others. -/
import Derived.Test.YteopfbfcnggbbaaPwPcw
import Derived.Test.YteopfbfcnggbbaaPwPfl
import Derived.Test.YteopfbfcnggbbaaPwPkd
namespace Go.Pw
open Go
theorem getD_pre {l m : List Int} {i : Nat} (hi : i < l.length) : (l ++ m).getD i 0 = l.getD i 0 := by
  simp [List.getD, hi, List.getElem?_append_left]
theorem path_pre {size : Int} {rows l m : List Int} (h : pathP size rows (l ++ m)) (h1 : 1 ≤ l.length) : pathP size rows l := by
  obtain ⟨_, ⟨hg, hin, hap⟩, hj⟩ := h
  have hle : ∀ i, i < l.length → i < (l ++ m).length := fun i hi => by rw [List.length_append]; omega
  refine ⟨h1, ⟨hg, fun i hi => ?_, fun i hi j hj' => ?_⟩, fun k hk i hi => ?_⟩
  · have := hin i (hle i hi); rwa [getD_pre hi] at this
  · have := hap i (hle i hi) j hj'
    rwa [getD_pre hi, getD_pre (by omega)] at this
  · have := hj k (hle k hk) i hi
    unfold joinQ at this ⊢
    rwa [getD_pre hk, getD_pre (by omega)] at this
theorem firstG_none {N : Nat} {ok : List Int → Int → Bool} {fin : List Int → Bool} {d : Nat} {l : List Int} (h : firstG N ok fin (d + 1) l = none) {v : Nat} (hv : v < N) (ho : ok l (v : Int) = true) : firstG N ok fin d (l ++ [(v : Int)]) = none := by
  rw [firstG, List.findSome?_eq_none_iff] at h
  have := h v (List.mem_range.2 hv)
  rwa [if_pos ho] at this
theorem eN_lt {r : Nat → Nat} {n : Nat} (hr : NG n r) {x y : Nat} (h : eN r x y = true) : y < n := has_lt (hr.lt x) h
theorem eN_sym {size : Int} {rows : List Int} {n : Nat} (hg : IsG size rows) (hn : size = n) (x y : Nat) : eN (rowN rows) x y = eN (rowN rows) y x := by
  have hr := ng_of hg hn
  have hrl : rows.length = n := by obtain ⟨m, hm, hl, _, _⟩ := isG_size hg; omega
  have key : ∀ a b, eN (rowN rows) a b = true → eN (rowN rows) b a = true := fun a b h => by
    have hb := eN_lt hr h
    have ha : a < n := by
      refine Classical.byContradiction fun hna => ?_
      unfold eN rowN at h
      have : rows.getD a 0 = 0 := by simp [List.getD, List.getElem?_eq_none (by omega : rows.length ≤ a)]
      rw [this] at h; simp at h
    unfold eN at h ⊢
    rw [hr.sym b a hb ha]; exact h
  rw [Bool.eq_iff_iff]
  exact ⟨key x y, key y x⟩
theorem path_none {size : Int} {rows : List Int} {n : Nat} (hg : IsG size rows) (hn : size = n) (h : pathX size rows 4 = none) : P4f (eN (rowN rows)) := by
  intro a b c d hab hbc hcd hac had hbd
  have hr := ng_of hg hn
  have hs := eN_sym hg hn
  have hirr : ∀ x, eN (rowN rows) x x = false := fun x => by
    cases hx : eN (rowN rows) x x with
    | false => rfl
    | true =>
      have hlt := eN_lt hr hx
      have := hr.irr x hlt
      unfold eN at hx; rw [this] at hx; cases hx
  have la : a < n := eN_lt hr (by rw [hs]; exact hab)
  have lb : b < n := eN_lt hr hab
  have lc : c < n := eN_lt hr hbc
  have ld : d < n := eN_lt hr hcd
  have nab : a ≠ b := fun e => by subst e; rw [hirr] at hab; cases hab
  have nbc : b ≠ c := fun e => by subst e; rw [hirr] at hbc; cases hbc
  have ncd : c ≠ d := fun e => by subst e; rw [hirr] at hcd; cases hcd
  have nac : a ≠ c := fun e => by subst e; rw [had] at hcd; cases hcd
  have nad : a ≠ d := fun e => by subst e; rw [hs] at hcd; rw [hac] at hcd; cases hcd
  have nbd : b ≠ d := fun e => by subst e; rw [had] at hab; cases hab
  obtain ⟨m, hm, hrl, _, hm7⟩ := isG_size hg
  have h4 : 4 ≤ n := by omega
  have hbit : ∀ x y : Nat, y < n → hasB (rows.getD x 0) (y : Int) = eN (rowN rows) x y := fun x y hy => by
    have h7 := pow_le7 hr.le
    have := hr.lt x
    rw [rowN_eq hg x, hasB_nat (by omega) (by have := hr.le; omega)]; rfl
  have hP : pathP size rows [(a : Int), b, c, d] := by
    refine ⟨by simp, ⟨hg, fun i hi => ?_, fun i hi j hj => ?_⟩, fun k hk i hi => ?_⟩
    · have : i = 0 ∨ i = 1 ∨ i = 2 ∨ i = 3 := by simp at hi; omega
      rcases this with rfl | rfl | rfl | rfl <;> simp <;> omega
    · have hi' : i < 4 := by simpa using hi
      have : (j = 0 ∧ i = 1) ∨ (j = 0 ∧ i = 2) ∨ (j = 0 ∧ i = 3) ∨ (j = 1 ∧ i = 2) ∨ (j = 1 ∧ i = 3) ∨ (j = 2 ∧ i = 3) := by omega
      rcases this with ⟨rfl, rfl⟩ | ⟨rfl, rfl⟩ | ⟨rfl, rfl⟩ | ⟨rfl, rfl⟩ | ⟨rfl, rfl⟩ | ⟨rfl, rfl⟩ <;> simp <;> omega
    · have hk' : k < 4 := by simpa using hk
      have : (i = 0 ∧ k = 1) ∨ (i = 0 ∧ k = 2) ∨ (i = 0 ∧ k = 3) ∨ (i = 1 ∧ k = 2) ∨ (i = 1 ∧ k = 3) ∨ (i = 2 ∧ k = 3) := by omega
      unfold joinQ
      rcases this with ⟨rfl, rfl⟩ | ⟨rfl, rfl⟩ | ⟨rfl, rfl⟩ | ⟨rfl, rfl⟩ | ⟨rfl, rfl⟩ | ⟨rfl, rfl⟩
      · show hasB (rows.getD a 0) (b : Int) = true; rw [hbit a b lb]; exact hab
      · show hasB (rows.getD a 0) (c : Int) = false; rw [hbit a c lc]; exact hac
      · show hasB (rows.getD a 0) (d : Int) = false; rw [hbit a d ld]; exact had
      · show hasB (rows.getD b 0) (c : Int) = true; rw [hbit b c lc]; exact hbc
      · show hasB (rows.getD b 0) (d : Int) = false; rw [hbit b d ld]; exact hbd
      · show hasB (rows.getD c 0) (d : Int) = true; rw [hbit c d ld]; exact hcd
  have hN : size.toNat = n := by omega
  unfold pathX at h
  rw [if_pos ⟨hg, by omega, by omega⟩, show (4 : Int).toNat = 3 + 1 from rfl, hN] at h
  have g1 := firstG_none h la (decide_eq_true (path_pre (l := [(a : Int)]) (m := [(b : Int), c, d]) hP (by simp)))
  have g2 := firstG_none g1 lb (decide_eq_true (path_pre (l := [(a : Int), b]) (m := [(c : Int), d]) hP (by simp)))
  have g3 := firstG_none g2 lc (decide_eq_true (path_pre (l := [(a : Int), b, c]) (m := [(d : Int)]) hP (by simp)))
  have g4 := firstG_none g3 ld (decide_eq_true hP)
  simp [firstG] at g4
def bestN (P : Nat → Bool) : Nat → Nat
  | 0 => 0
  | k + 1 => if cntN (bestN P k) < cntN k ∧ P k = true then k else bestN P k
theorem bestN_lt (P : Nat → Bool) : ∀ k, bestN P k < k + 1
  | 0 => by simp [bestN]
  | k + 1 => by have := bestN_lt P k; rw [bestN]; split <;> omega
theorem bestN_spec (P : Nat → Bool) : ∀ k, (bestN P k = 0 ∨ (bestN P k < k ∧ P (bestN P k) = true)) ∧ ∀ C, C < k → P C = true → cntN C ≤ cntN (bestN P k)
  | 0 => ⟨.inl rfl, fun C h => by omega⟩
  | k + 1 => by
    obtain ⟨h1, h2⟩ := bestN_spec P k
    rw [bestN]
    split
    · rename_i h
      refine ⟨.inr ⟨by omega, h.2⟩, fun C hC hP => ?_⟩
      by_cases e : C = k
      · rw [e]; exact Nat.le_refl _
      · have := h2 C (by omega) hP; omega
    · rename_i h
      refine ⟨h1.imp id fun h => ⟨by omega, h.2⟩, fun C hC hP => ?_⟩
      by_cases e : C = k
      · subst e
        have : ¬ cntN (bestN P C) < cntN C := fun hlt => h ⟨hlt, hP⟩
        omega
      · exact h2 C (by omega) hP
theorem best_om {P : Nat → Bool} {E : Nat → Nat → Bool} {n : Nat} (hn : n ≤ 7) (h : ∀ C, C < 2 ^ n → (P C = true ↔ clqM E C)) : cntN (bestN P (2 ^ n)) = omM E (2 ^ n - 1) := by
  have h7 := pow_le7 hn
  have hpos := Nat.two_pow_pos n
  obtain ⟨h1, h2⟩ := bestN_spec P (2 ^ n)
  have hall : ∀ C, SubN C (2 ^ n - 1) ↔ C < 2 ^ n := fun C => by
    constructor
    · intro hC; exact lt_of_sub hC (by omega)
    · intro hC i hi
      rw [Nat.testBit_two_pow_sub_one]
      exact decide_eq_true (has_lt hC hi)
  refine (omM_eq ⟨?_, fun C h3 h4 h5 => ?_⟩).symm
  · rcases h1 with h1 | ⟨h1, h3⟩
    · exact ⟨0, by omega, (hall 0).2 hpos, fun x y hx => by simp at hx, by rw [h1]⟩
    · exact ⟨_, by omega, (hall _).2 h1, (h _ h1).1 h3, rfl⟩
  · exact h2 C ((hall C).1 h4) ((h C ((hall C).1 h4)).2 h5)
theorem clique_om {rows : List Int} {n C : Nat} (hg : IsG n rows) (hC : C < 2 ^ n) : decide (cliqueP n rows (C : Int)) = true ↔ clqM (eN (rowN rows)) C := by
  have hr := ng_of hg rfl
  have h7 := pow_le7 hr.le
  have hrl : rows.length = n := by obtain ⟨m, hm, hl, _, _⟩ := isG_size hg; omega
  have hn := hr.le
  have hS : (0 : Int) ≤ (C : Int) ∧ (C : Int) < ishl 1 (n : Int) := by rw [ishl_one_nat (by omega)]; omega
  have key : ∀ v, v < n → (iandnot (C : Int) (rows.getD v 0) = ishl 1 (v : Int) ↔ ∀ i, (C.testBit i && !(rowN rows v).testBit i) = decide (v = i)) := fun v hv => by
    rw [rowN_eq hg v, iandnot_nat (by omega), ishl_one_nat (by omega), Int.ofNat_inj]
    constructor
    · intro h i
      have := congrArg (fun x => Nat.testBit x i) h
      simp only [Nat.testBit_xor, Nat.testBit_and, Nat.testBit_two_pow] at this
      rw [← this]
      cases C.testBit i <;> cases (rowN rows v).testBit i <;> rfl
    · intro h
      apply Nat.eq_of_testBit_eq
      intro i
      rw [Nat.testBit_xor, Nat.testBit_and, Nat.testBit_two_pow, ← h i]
      cases C.testBit i <;> cases (rowN rows v).testBit i <;> rfl
  rw [decide_eq_true_iff]
  constructor
  · rintro ⟨_, h⟩ x y hx hy hne
    have hxn := has_lt hC hx
    have := (key x hxn).1 (h x (by omega) (by rw [hasB_nat (by omega) (by omega)]; exact hx)) y
    rw [hy, decide_eq_false hne] at this
    unfold eN
    simpa using this
  · intro h
    refine ⟨⟨hg, hS⟩, fun v hv hb => ?_⟩
    have hvn : v < n := by omega
    rw [hasB_nat (by omega) (by omega)] at hb
    refine (key v hvn).2 fun i => ?_
    by_cases e : v = i
    · subst e; rw [hb, hr.irr v hvn]; simp
    · rw [decide_eq_false e]
      cases hi : C.testBit i with
      | false => rfl
      | true => have := h v i hb hi e; unfold eN at this; rw [this]; rfl
theorem indep_om {rows : List Int} {n C : Nat} (hg : IsG n rows) (hC : C < 2 ^ n) : decide (indepP n rows (C : Int)) = true ↔ clqM (coE (eN (rowN rows))) C := by
  have hr := ng_of hg rfl
  have h7 := pow_le7 hr.le
  have hrl : rows.length = n := by obtain ⟨m, hm, hl, _, _⟩ := isG_size hg; omega
  have hn := hr.le
  have hS : (0 : Int) ≤ (C : Int) ∧ (C : Int) < ishl 1 (n : Int) := by rw [ishl_one_nat (by omega)]; omega
  have key : ∀ v, v < n → (iand (rows.getD v 0) (C : Int) = 0 ↔ ∀ i, C.testBit i = true → (rowN rows v).testBit i = false) := fun v hv => by
    have hlt := hr.lt v
    rw [rowN_eq hg v, iand_nat (by omega) (by omega), show (0 : Int) = ((0 : Nat) : Int) from rfl, Int.ofNat_inj]
    constructor
    · intro h i hi
      have := congrArg (fun x => Nat.testBit x i) h
      simp only [Nat.testBit_and, Nat.zero_testBit, hi, Bool.and_true] at this
      exact this
    · intro h
      apply Nat.eq_of_testBit_eq
      intro i
      rw [Nat.testBit_and, Nat.zero_testBit]
      cases hi : C.testBit i with
      | false => simp
      | true => rw [h i hi]; rfl
  rw [decide_eq_true_iff]
  constructor
  · rintro ⟨_, _, h⟩ x y hx hy hne
    have hxn := has_lt hC hx
    exact coE_true.2 ⟨(key x hxn).1 (h x (by omega) (by rw [hasB_nat (by omega) (by omega)]; exact hx)) y hy, hne⟩
  · intro h
    refine ⟨hg, hS, fun v hv hb => ?_⟩
    have hvn : v < n := by omega
    rw [hasB_nat (by omega) (by omega)] at hb
    refine (key v hvn).2 fun i hi => ?_
    by_cases e : v = i
    · subst e; exact hr.irr v hvn
    · exact (coE_true.1 (h v i hb hi e)).1
theorem bar_eN {size : Int} {rows : List Int} {n : Nat} (hg : IsG size rows) (hn : size = n) {x y : Nat} (hx : x < n) (hy : y < n) : eN (rowN (barL size rows)) x y = coE (eN (rowN rows)) x y := by
  have hrl : rows.length = n := by obtain ⟨m, hm, hl, _, _⟩ := isG_size hg; omega
  obtain ⟨f1, _, _, f4, _⟩ := barF_nat hg hn hx
  unfold eN coE
  rw [show rowN (barL size rows) x = 2 ^ n - 1 - rowN rows x - 2 ^ x by unfold rowN at f1 ⊢; rw [barL_get hg (by omega), f1]; rfl, f4]
  simp [hy]
/-- The folds over the parts of the complement. -/
theorem bar_om {size : Int} {rows : List Int} {n set : Nat} (hg : IsG size rows) (hn : size = n) (hset : set < 2 ^ n) : omM (eN (rowN (barL size rows))) set = omM (coE (eN (rowN rows))) set ∧ omM (coE (eN (rowN (barL size rows)))) set = omM (eN (rowN rows)) set := by
  constructor
  · exact om_congr fun x y hx hy _ => bar_eN hg hn (has_lt hset hx) (has_lt hset hy)
  · refine om_congr fun x y hx hy hne => ?_
    have := bar_eN hg hn (has_lt hset hx) (has_lt hset hy)
    unfold coE at this ⊢
    rw [this]; simp [hne]
theorem om_single {E : Nat → Nat → Bool} {S : Nat} (hS : S < 128) (h1 : cntN S = 1) : omM E S = 1 := by
  refine omM_eq ⟨⟨S, hS, SubN.refl _, fun x y hx hy hne => ?_, h1⟩, fun C _ hC _ => ?_⟩
  · exfalso
    have hne2 : 2 ^ x ≠ S := fun e => by
      rw [← e, Nat.testBit_two_pow] at hy
      exact hne (by simpa using hy)
    have h2 := cnt_lt hS (pow_sub hx) hne2
    have hx7 : x < 7 := has_lt (by omega : S < 2 ^ 7) hx
    have : ∀ v : Fin 7, cntN (2 ^ v.val) = 1 := by decide
    have := this ⟨x, hx7⟩
    dsimp only at this; omega
  · by_cases e : C = S
    · rw [e, h1]; exact Nat.le_refl _
    · have := cnt_lt hS hC e; omega
theorem fold_take {f : Nat → Nat → Nat} {g : Nat → Nat} {L : List Nat} {i : Nat} (h : i < L.length) (a : Nat) : ((L.take (i + 1)).map g).foldl f a = f (((L.take i).map g).foldl f a) (g (L.getD i 0)) := by
  rw [List.take_add_one, List.map_append, List.foldl_append]
  simp [List.getD, h]
/-- The parts' numbers, folded, are the whole's: at once for both colours. -/
theorem whole_om {r : Nat → Nat} {n set : Nat} (hr : NG n r) (hset : set < 2 ^ n) : ((partsN r n set 128 set).map (omM (eN r))).foldl max 0 = omM (eN r) set ∧ ((partsN r n set 128 set).map (omM (coE (eN r)))).foldl (· + ·) 0 = omM (coE (eN r)) set := by
  have := cntN_le7 set
  have := parts_om hr hset 128 set ⟨SubN.refl _, fun _ _ _ h _ => h⟩ (by omega) 0 0
  rw [this.1, this.2]; exact ⟨by omega, by omega⟩
def pairL (a b : Nat) : List Int := [(a : Int), (b : Int)]
theorem pairL_len (a b : Nat) : (pairL a b).length = 2 := rfl
theorem pairL_0 (a b : Nat) : (pairL a b).getD 0 0 = a := rfl
theorem pairL_1 (a b : Nat) : (pairL a b).getD 1 0 = b := rfl
theorem sum_le7 {g : Nat → Nat} (h : ∀ x, g x ≤ 7) : ∀ (L : List Nat) (a : Nat), (L.map g).foldl (· + ·) a ≤ a + 7 * L.length
  | [], a => by simp
  | x :: L, a => by
    have := sum_le7 h L (a + g x)
    have := h x
    simp only [List.map_cons, List.foldl_cons, List.length_cons]
    omega
end Go.Pw
