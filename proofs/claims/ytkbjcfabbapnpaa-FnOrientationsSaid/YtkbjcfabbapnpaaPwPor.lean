/- The plain mathematics of orientations found arc by arc. -/
import Derived.Test.YtkbjcfabbapnpaaPwPar
import Derived.Test.YtkbjcfabbapnpaaPwPqg
import Derived.Test.YtkbjcfabbapnpaaPwPmo
namespace Go.Pw
open Go
def remP (P : Nat → Nat → Bool) (a b : Nat) : Nat → Nat → Bool := fun i u => P i u && !(decide (i = a ∧ u = b) || decide (i = b ∧ u = a))
def addQ (Q : Nat → Nat → Bool) (a b : Nat) : Nat → Nat → Bool := fun i u => Q i u || decide (i = a ∧ u = b)
def remE (P : Nat → Nat → Bool) (e : List Int) : Nat → Nat → Bool := remP P (e.getD 0 0).toNat (e.getD 1 0).toNat
def addE (Q : Nat → Nat → Bool) (e : List Int) : Nat → Nat → Bool := addQ Q (e.getD 0 0).toNat (e.getD 1 0).toNat
def remU (P : Nat → Nat → Bool) (L : List (List Int)) (j : Nat) : Nat → Nat → Bool := (L.take j).foldl remE P
def orU (Q : Nat → Nat → Bool) (L : List (List Int)) (j : Nat) : Nat → Nat → Bool := (L.take j).foldl addE Q
theorem remU_succ {P : Nat → Nat → Bool} {L : List (List Int)} {j : Nat} (h : j < L.length) : remU P L (j + 1) = remE (remU P L j) (L.getD j []) := by
  unfold remU; rw [List.take_add_one, List.foldl_append]; simp [List.getD, h]
theorem orU_succ {Q : Nat → Nat → Bool} {L : List (List Int)} {j : Nat} (h : j < L.length) : orU Q L (j + 1) = addE (orU Q L j) (L.getD j []) := by
  unfold orU; rw [List.take_add_one, List.foldl_append]; simp [List.getD, h]
theorem remP_sub {P : Nat → Nat → Bool} {a b i u : Nat} (h : remP P a b i u = true) : P i u = true := by
  unfold remP at h; simp only [Bool.and_eq_true] at h; exact h.1
theorem remP_sym {P : Nat → Nat → Bool} (hs : ∀ i u, P i u = P u i) (a b i u : Nat) : remP P a b i u = remP P a b u i := by
  unfold remP
  rw [hs i u, Bool.or_comm]
  congr 3
  · exact decide_eq_decide.2 And.comm
  · exact decide_eq_decide.2 And.comm
theorem remF_sub : ∀ (L : List (List Int)) (P : Nat → Nat → Bool) {i u : Nat}, L.foldl remE P i u = true → P i u = true
  | [], _, _, _, h => h
  | e :: L, P, _, _, h => remP_sub (remF_sub L (remE P e) h)
theorem remF_sym : ∀ (L : List (List Int)) {P : Nat → Nat → Bool} (_ : ∀ i u, P i u = P u i) (i u : Nat), L.foldl remE P i u = L.foldl remE P u i
  | [], _, hs, i, u => hs i u
  | e :: L, _, hs, i, u => remF_sym L (P := remE _ e) (fun i u => remP_sym hs _ _ i u) i u
theorem remF_irr {L : List (List Int)} {P : Nat → Nat → Bool} (hi : ∀ i, P i i = false) (i : Nat) : L.foldl remE P i i = false := by
  cases h : L.foldl remE P i i with
  | false => rfl
  | true => have := remF_sub L P h; rw [hi] at this; cases this
theorem remF_gone : ∀ (L : List (List Int)) (P : Nat → Nat → Bool) {e : List Int}, e ∈ L → L.foldl remE P (e.getD 0 0).toNat (e.getD 1 0).toNat = false
  | x :: L, P, e, h => by
    rcases List.mem_cons.1 h with rfl | h
    · cases hc : (e :: L).foldl remE P (e.getD 0 0).toNat (e.getD 1 0).toNat with
      | false => rfl
      | true =>
        have := remF_sub L (remE P e) hc
        unfold remE remP at this
        simp at this
    · exact remF_gone L (remE P x) h
theorem addF_irr : ∀ (L : List (List Int)) {Q : Nat → Nat → Bool} (_ : ∀ i, Q i i = false) (_ : ∀ e ∈ L, (e.getD 0 0).toNat ≠ (e.getD 1 0).toNat) (i : Nat), L.foldl addE Q i i = false
  | [], _, hi, _, i => hi i
  | e :: L, Q, hi, h, i => addF_irr L (Q := addE Q e) (fun i => by
      have := h e (List.mem_cons_self ..)
      unfold addE addQ
      rw [hi i, Bool.false_or]
      exact decide_eq_false fun hh => this (hh.1.symm.trans hh.2)) (fun x hx => h x (List.mem_cons_of_mem _ hx)) i
/-- Rows as masks. -/
theorem rows_gRows {size : Int} {rows : List Int} {n : Nat} (hg : IsG size rows) (hn : size = n) : rows = gRows n (fun i u => hasB (rows.getD i 0) (u : Nat)) := by
  obtain ⟨n', hn', hrl, _, hn7⟩ := isG_size hg
  obtain rfl : n' = n := by omega
  apply List.ext_getElem
  · rw [gRows_length]; exact hrl
  · intro i h1 h2
    have hi : i < n' := by omega
    have ee : ∀ (L : List Int) (h : i < L.length), L[i] = L.getD i 0 := fun L h => by simp [List.getD, h]
    rw [ee rows h1, ee _ h2, gRows_get _ hi]
    obtain ⟨R, hR, hR1, hR2⟩ := row_nat hg hn' i
    rw [hR]
    congr 1
    apply Nat.eq_of_testBit_eq
    intro u
    rw [maskU_bit]
    by_cases hu : u < n'
    · rw [hasB_nat (by omega) (by omega)]; simp [hu]
    · have : R.testBit u = false := by
        cases hb : R.testBit u with
        | false => rfl
        | true => exact absurd (has_lt hR1 hb) hu
      rw [this]; simp [hu]
theorem bit_or : ∀ m : Fin 128, ∀ w : Fin 7, m.val ||| 2 ^ w.val < 128 := by decide +kernel
theorem mask_or {f : Nat → Bool} {n w : Nat} (hn : n ≤ 7) (hw : w < n) : ior ((maskU f n : Nat) : Int) (ishl 1 w) = ((maskU (fun u => f u || decide (u = w)) n : Nat) : Int) := by
  have h7 : 2 ^ n ≤ 2 ^ 7 := Nat.pow_le_pow_right (by omega) hn
  have hl := maskU_lt f n
  have hpw : 2 ^ w < 2 ^ 7 := Nat.pow_lt_pow_right (by omega) (by omega)
  rw [ishl_one_nat (by omega), ior_nat (by omega) (by omega)]
  congr 1
  apply Nat.eq_of_testBit_eq
  intro i
  rw [Nat.testBit_or, maskU_bit, maskU_bit, Nat.testBit_two_pow]
  by_cases hi : i = w
  · subst hi; simp [hw]
  · have : ¬ w = i := fun e => hi e.symm
    simp [hi, this]
theorem bit_del : ∀ m : Fin 128, ∀ w : Fin 7, m.val.testBit w.val = true → m.val ^^^ 2 ^ w.val = m.val - 2 ^ w.val ∧ 2 ^ w.val ≤ m.val := by decide +kernel
theorem mask_del {f : Nat → Bool} {n w : Nat} (hn : n ≤ 7) (hw : w < n) (hf : f w = true) :
    ixor ((maskU f n : Nat) : Int) (ishl 1 w) = ((maskU (fun u => f u && !decide (u = w)) n : Nat) : Int) ∧ ((maskU f n : Nat) : Int) - ishl 1 w = ((maskU (fun u => f u && !decide (u = w)) n : Nat) : Int) := by
  have h7 : 2 ^ n ≤ 2 ^ 7 := Nat.pow_le_pow_right (by omega) hn
  have hl := maskU_lt f n
  have hpw : 2 ^ w < 2 ^ 7 := Nat.pow_lt_pow_right (by omega) (by omega)
  have hb : (maskU f n).testBit w = true := by rw [maskU_bit, hf]; simp [hw]
  have h1 := bit_del ⟨maskU f n, by omega⟩ ⟨w, by omega⟩ hb
  dsimp only at h1
  have h2 : maskU f n ^^^ 2 ^ w = maskU (fun u => f u && !decide (u = w)) n := by
    apply Nat.eq_of_testBit_eq
    intro i
    rw [Nat.testBit_xor, maskU_bit, maskU_bit, Nat.testBit_two_pow]
    by_cases hi : i = w
    · subst hi; simp [hw, hf]
    · have : ¬ w = i := fun e => hi e.symm
      simp [hi, this]
  rw [ishl_one_nat (by omega), ixor_nat (by omega) (by omega), h2]
  refine ⟨rfl, ?_⟩
  rw [← h2, h1.1]
  omega
/-- An arc added. -/
theorem gRows_or {n a b : Nat} (Q : Nat → Nat → Bool) (hn : n ≤ 7) (ha : a < n) (hb : b < n) : (gRows n Q).set a (ior ((gRows n Q).getD a 0) (ishl 1 (b : Int))) = gRows n (addQ Q a b) := by
  rw [gRows_get Q ha, mask_or hn hb, gRows_set ha]
  refine gRows_congr fun i u _ _ => ?_
  unfold addQ
  by_cases h : i = a
  · subst h; simp
  · rw [if_neg h]; simp [h]
/-- An edge taken away. -/
theorem gRows_del {n v w : Nat} {P : Nat → Nat → Bool} (hv : v < n) (hw : w < n) (hvw : v ≠ w) :
    ((gRows n P).set v ((maskU (fun u => P v u && !decide (u = w)) n : Nat) : Int)).getD w 0 = ((maskU (P w) n : Nat) : Int) ∧
    ((gRows n P).set v ((maskU (fun u => P v u && !decide (u = w)) n : Nat) : Int)).set w ((maskU (fun u => P w u && !decide (u = v)) n : Nat) : Int) = gRows n (remP P v w) := by
  rw [gRows_set hv, gRows_get _ hw, if_neg (fun e => hvw e.symm), gRows_set hw]
  refine ⟨rfl, gRows_congr fun i u hi hu => ?_⟩
  unfold remP
  by_cases hiw : i = w
  · subst hiw
    have : ¬ i = v := fun e => hvw e.symm
    simp [this]
  · rw [if_neg hiw]
    by_cases hiv : i = v
    · subst hiv; simp [hiw]
    · simp [hiw, hiv]
theorem gRows_keep {n v w : Nat} {P : Nat → Nat → Bool} (h1 : P v w = false) (h2 : P w v = false) : gRows n P = gRows n (remP P v w) := by
  refine gRows_congr fun i u _ _ => ?_
  unfold remP
  by_cases c1 : i = v ∧ u = w
  · obtain ⟨rfl, rfl⟩ := c1; rw [h1]; rfl
  · by_cases c2 : i = w ∧ u = v
    · obtain ⟨rfl, rfl⟩ := c2; rw [h2]; rfl
    · rw [decide_eq_false c1, decide_eq_false c2]; simp
/-- How many arcs are left. -/
def cntP (n : Nat) (P : Nat → Nat → Bool) : Nat := ((List.range (n * n)).filter fun x => P (x / n) (x % n)).length
theorem cntP_le (n : Nat) (P : Nat → Nat → Bool) : cntP n P ≤ n * n := by
  unfold cntP
  exact Nat.le_trans (List.length_filter_le _ _) (by simp)
theorem cntP_lt {n a b : Nat} {P P' : Nat → Nat → Bool} (h : ∀ i u, P' i u = true → P i u = true) (ha : a < n) (hb : b < n) (h1 : P a b = true) (h2 : P' a b = false) : cntP n P' < cntP n P := by
  unfold cntP
  have e1 : (a * n + b) / n = a := by rw [Nat.mul_comm, Nat.mul_add_div (by omega), Nat.div_eq_of_lt hb]; omega
  have e2 : (a * n + b) % n = b := by rw [Nat.mul_comm, Nat.mul_add_mod, Nat.mod_eq_of_lt hb]
  refine filter_lt _ _ _ (fun x _ hx => h _ _ hx) ⟨a * n + b, List.mem_range.2 ?_, by rw [e1, e2]; exact h1, by rw [e1, e2]; exact h2⟩
  have : a * n + n ≤ n * n := by
    have := Nat.mul_le_mul_right n (show a + 1 ≤ n by omega)
    rw [Nat.add_mul] at this; omega
  omega
/-- What a search by breadth finds. -/
theorem addA_mem {k : Int} {s : List (List Int) × List Int} {e x : List Int} (h : x ∈ (addA k s e).1) : x ∈ s.1 ∨ x = e := by
  unfold addA at h
  split at h
  · exact .inl h
  · rcases List.mem_append.1 h with h | h
    · exact .inl h
    · exact .inr (List.mem_singleton.1 h)
theorem addA_old_mem {k : Int} {s : List (List Int) × List Int} {e x : List Int} (h : x ∈ s.1) : x ∈ (addA k s e).1 := by
  unfold addA
  split
  · exact h
  · exact List.mem_append_left _ h
theorem fold_mem {k : Int} : ∀ (L : List (List Int)) {s : List (List Int) × List Int} {x : List Int}, x ∈ (L.foldl (addA k) s).1 → x ∈ s.1 ∨ x ∈ L
  | [], _, _, h => .inl h
  | e :: L, s, x, h => by
    rcases fold_mem L h with h | h
    · rcases addA_mem h with h | h
      · exact .inl h
      · exact .inr (by rw [h]; exact List.mem_cons_self ..)
    · exact .inr (List.mem_cons_of_mem _ h)
theorem fold_old {k : Int} : ∀ (L : List (List Int)) {s : List (List Int) × List Int} {x : List Int}, x ∈ s.1 → x ∈ (L.foldl (addA k) s).1
  | [], _, _, h => h
  | _ :: L, _, _, h => fold_old L (addA_old_mem h)
def edgeE (rows : List Int) (e : List Int) : Prop := hasB (rows.getD (e.getD 0 0).toNat 0) (e.getD 1 0) = true
theorem bfsA_edge {rows : List Int} {a b : Int} (h : edgeE rows [a, b]) : ∀ k, ∀ e ∈ (bfsA rows a b k).1, edgeE rows e
  | 0, e, he => by obtain rfl := List.mem_singleton.1 he; exact h
  | k + 1, e, he => by
    unfold bfsA at he
    split at he
    · unfold stepA at he
      rcases fold_mem _ he with he | he
      · exact bfsA_edge h k e he
      · obtain ⟨v, u, rfl, _, _, hb⟩ := nextA_mem he
        exact (nextB_iff.1 hb).1
    · exact bfsA_edge h k e he
theorem bfsA_first {rows : List Int} {a b : Int} : ∀ k, [a, b] ∈ (bfsA rows a b k).1
  | 0 => List.mem_singleton_self _
  | k + 1 => by
    unfold bfsA
    split
    · unfold stepA; exact fold_old _ (bfsA_first k)
    · exact bfsA_first k
theorem forcedA_first (rows : List Int) (a b : Int) : [a, b] ∈ (forcedA rows a b).1 := by
  have h := bfsA_first (rows := rows) (a := a) (b := b)
  unfold forcedA
  generalize 49 = m
  exact h m
theorem forcedA_edge {rows : List Int} {a b : Int} (h : edgeE rows [a, b]) : ∀ e ∈ (forcedA rows a b).1, edgeE rows e := by
  have h2 := bfsA_edge h
  unfold forcedA
  generalize 49 = m
  exact h2 m
/-- Orientations. -/
def oriF (n : Nat) : Nat → (Nat → Nat → Bool) → (Nat → Nat → Bool) → Option (Nat → Nat → Bool)
  | 0, _, _ => none
  | f + 1, P, Q => match edgesL n (gRows n P) with
    | [] => some Q
    | e :: _ => if [e.getD 1 0, e.getD 0 0] ∈ (forcedA (gRows n P) (e.getD 0 0) (e.getD 1 0)).1 then none
      else oriF n f ((forcedA (gRows n P) (e.getD 0 0) (e.getD 1 0)).1.foldl remE P) ((forcedA (gRows n P) (e.getD 0 0) (e.getD 1 0)).1.foldl addE Q)
def bitsP (rows : List Int) : Nat → Nat → Bool := fun i u => decide (i < rows.length ∧ u < rows.length) && hasB (rows.getD i 0) (u : Nat)
def oriX (size : Int) (rows : List Int) : Option (Nat → Nat → Bool) := if IsG size rows then oriF rows.length 50 (bitsP rows) (fun _ _ => false) else none
def oriL (size : Int) (rows : List Int) : List Int := ((oriX size rows).map (gRows rows.length)).getD []
theorem oriL_len (size : Int) (rows : List Int) : (oriL size rows).length ≤ 7 := by
  unfold oriL oriX
  by_cases h : IsG size rows
  · obtain ⟨n, _, hrl, _, hn7⟩ := isG_size h
    cases hx : oriF rows.length 50 (bitsP rows) (fun _ _ => false) with
    | none => rw [if_pos h]; simp
    | some Q => rw [if_pos h]; simp; omega
  · rw [if_neg h]; simp
theorem bits_rows {size : Int} {rows : List Int} (hg : IsG size rows) : rows = gRows rows.length (bitsP rows) := by
  obtain ⟨n, hn, hrl, _, _⟩ := isG_size hg
  have h := rows_gRows hg hn
  rw [hrl]
  rw [gRows_congr (Q := bitsP rows) (fun i u hi hu => by unfold bitsP; rw [decide_eq_true ⟨by omega, by omega⟩]; rfl)] at h
  exact h
theorem bits_sym {size : Int} {rows : List Int} (hg : IsG size rows) (i u : Nat) : bitsP rows i u = bitsP rows u i := by
  unfold bitsP
  by_cases h : i < rows.length ∧ u < rows.length
  · rw [decide_eq_true h, decide_eq_true (And.comm.1 h), edge_sym hg h.1 h.2]
  · rw [decide_eq_false h, decide_eq_false (fun hh => h (And.comm.1 hh)), Bool.false_and, Bool.false_and]
theorem bits_irr {size : Int} {rows : List Int} (hg : IsG size rows) (i : Nat) : bitsP rows i i = false := by
  unfold bitsP
  by_cases h : i < rows.length ∧ i < rows.length
  · rw [(hg.2.2.1 i h.1).2, Bool.and_false]
  · rw [decide_eq_false h, Bool.false_and]
/-- One round. -/
structure RoundO (n : Nat) (P : Nat → Nat → Bool) (e : List Int) : Prop where
  arc : ∃ v u : Nat, e = [(v : Int), (u : Int)] ∧ v < u ∧ u < n
  edge : P (e.getD 0 0).toNat (e.getD 1 0).toNat = true
  forced : ∀ x ∈ (forcedA (gRows n P) (e.getD 0 0) (e.getD 1 0)).1, arcN n x ∧ (x.getD 0 0).toNat ≠ (x.getD 1 0).toNat
  ok : OkA n (forcedA (gRows n P) (e.getD 0 0) (e.getD 1 0))
  less : cntP n ((forcedA (gRows n P) (e.getD 0 0) (e.getD 1 0)).1.foldl remE P) < cntP n P
theorem roundO {n : Nat} {P : Nat → Nat → Bool} {e : List Int} (h1 : 1 ≤ n) (hn : n ≤ 7) (hi : ∀ i, P i i = false) (he : e ∈ edgesL n (gRows n P)) : RoundO n P e := by
  obtain ⟨v, u, rfl, hvu, hu, _, hb⟩ := edges_mem he
  rw [gRows_length] at hu
  have hl := gRows_length n P
  have hb' := hb
  rw [gRows_has hn P (by omega) hu] at hb'
  have hab : arcN (gRows n P).length [(v : Int), (u : Int)] := ⟨v, u, rfl, by omega, by omega⟩
  have hok := forcedA_ok hab
  rw [hl] at hok
  have hed : edgeE (gRows n P) [(v : Int), (u : Int)] := hb
  refine ⟨⟨v, u, rfl, hvu, hu⟩, hb', fun x hx => ?_, hok, ?_⟩
  · have h2 := hok.arc x hx
    refine ⟨h2, fun e => ?_⟩
    have h3 := forcedA_edge hed x hx
    obtain ⟨i, j, rfl, hi2, hj2⟩ := h2
    have h4 : hasB ((gRows n P).getD i 0) (j : Int) = true := h3
    rw [gRows_has hn P hi2 hj2] at h4
    have e' : i = j := e
    rw [e', hi] at h4
    cases h4
  · refine cntP_lt (a := v) (b := u) (fun i j h => remF_sub _ P h) (by omega) hu hb' ?_
    exact remF_gone _ P (e := [(v : Int), (u : Int)]) (forcedA_first _ _ _)
theorem oriF_irr {n : Nat} (h1 : 1 ≤ n) (hn : n ≤ 7) : ∀ (f : Nat) {P Q R : Nat → Nat → Bool}, (∀ i, P i i = false) → (∀ i, Q i i = false) → oriF n f P Q = some R → ∀ i, R i i = false
  | 0, _, _, _, _, _, h => by cases h
  | f + 1, P, Q, R, hP, hQ, h => by
    unfold oriF at h
    cases he : edgesL n (gRows n P) with
    | nil => rw [he] at h; injection h with h; subst h; exact hQ
    | cons e r =>
      rw [he] at h
      dsimp only at h
      have hr := roundO h1 hn hP (e := e) (by rw [he]; exact List.mem_cons_self ..)
      split at h
      · cases h
      · exact oriF_irr h1 hn f (remF_irr hP) (addF_irr _ hQ fun x hx => (hr.forced x hx).2) h
end Go.Pw
