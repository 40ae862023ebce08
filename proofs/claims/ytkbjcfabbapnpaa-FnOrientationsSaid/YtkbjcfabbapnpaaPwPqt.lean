/- The plain mathematics of quotients. -/
import Derived.Test.YtkbjcfabbapnpaaPwPcc
import Derived.Test.YtkbjcfabbapnpaaPwPqg
namespace Go.Pw
open Go
/-- Between two disjoint modules all are joined or none. -/
theorem between_nat {n : Nat} {r : Nat → Nat} (hg : NG n r) {A B : Nat} (hA : ModN n r A) (hB : ModN n r B) (hAn : A < 2 ^ n) (hBn : B < 2 ^ n) (h0 : A &&& B = 0) {a b : Nat} (ha : A.testBit a = true) (hb : B.testBit b = true) :
    nbN r A n &&& B ≠ 0 ↔ (r a).testBit b = true := by
  have lt : ∀ {S x : Nat}, S < 2 ^ n → S.testBit x = true → x < n := fun {S x} hS hx => by
    rcases Nat.lt_or_ge x n with h | h
    · exact h
    · rw [Nat.testBit_lt_two_pow (Nat.lt_of_lt_of_le hS (Nat.pow_le_pow_right (by omega) h))] at hx; cases hx
  have dis : ∀ x, A.testBit x = true → B.testBit x = true → False := fun x h1 h2 => by
    have : (A &&& B).testBit x = true := by rw [Nat.testBit_and, h1, h2]; rfl
    rw [h0, Nat.zero_testBit] at this; cases this
  have an := lt hAn ha
  have bn := lt hBn hb
  have notA : ∀ x, B.testBit x = true → A.testBit x = false := fun x hx => by
    cases h : A.testBit x with
    | false => rfl
    | true => exact (dis x h hx).elim
  have notB : B.testBit a = false := by
    cases h : B.testBit a with
    | false => rfl
    | true => exact (dis a ha h).elim
  constructor
  · intro h
    obtain ⟨x, hx1, hx2⟩ := and_ne_zero h
    obtain ⟨v, hv, hvA, hvx⟩ := (nbN_bit r A x n).1 hx1
    have xn := lt hBn hx2
    have h1 : (r a).testBit x = true := by rw [hA.2 a v ha hvA x xn (notA x hx2)]; exact hvx
    rw [hg.sym a x an xn] at h1
    rw [hB.2 x b hx2 hb a an notB] at h1
    rw [hg.sym a b an bn]; exact h1
  · intro h e
    have h1 : (nbN r A n).testBit b = true := (nbN_bit r A b n).2 ⟨a, an, ha, h⟩
    have : (nbN r A n &&& B).testBit b = true := by rw [Nat.testBit_and, h1, hb]; rfl
    rw [e, Nat.zero_testBit] at this; cases this
/-- Parts taken one after another: modules, none met before. -/
def qGo (size : Int) (rows : List Int) : Int → List Int → Option Int
  | S, [] => some S
  | S, p :: l => if modP size rows p ∧ iand S p = 0 then qGo size rows (ior S p) l else none
theorem qGo_spec {size : Int} {rows : List Int} {n : Nat} (hg : IsG size rows) (hn : size = n) : ∀ (l : List Int) (S : Nat), S < 2 ^ n → ∀ X, qGo size rows (S : Int) l = some X →
    (∀ p ∈ l, modP size rows p ∧ iand (S : Int) p = 0) ∧ l.Pairwise (fun p q => iand p q = 0) ∧ l.length + cntN S ≤ 7 := by
  obtain ⟨n', hn', _, _, hn7⟩ := isG_size hg
  obtain rfl : n' = n := by omega
  have h7 : 2 ^ n' ≤ 2 ^ 7 := Nat.pow_le_pow_right (by omega) hn7
  intro l
  induction l with
  | nil =>
    intro S hS X _
    refine ⟨fun p hp => (List.not_mem_nil hp).elim, .nil, ?_⟩
    have := cnt_le ⟨n', by omega⟩ ⟨S, by omega⟩ hS
    dsimp only at this
    simp; omega
  | cons p l ih =>
    intro S hS X h
    unfold qGo at h
    split at h
    · rename_i hp
      obtain ⟨M, rfl, hM, _⟩ := set_nat hn hn7 hp.1.1.2
      have hM0 : M ≠ 0 := fun e => hp.1.2.1 (by rw [e]; rfl)
      have hSM : S &&& M = 0 := by have := hp.2; rw [iand_nat (by omega) (by omega)] at this; omega
      rw [ior_nat (by omega) (by omega)] at h
      have hor : S ||| M < 2 ^ n' := Nat.or_lt_two_pow hS hM
      obtain ⟨i1, i2, i3⟩ := ih (S ||| M) hor X h
      have key : ∀ q ∈ l, iand (S : Int) q = 0 ∧ iand (M : Int) q = 0 := fun q hq => by
        obtain ⟨hq1, hq2⟩ := i1 q hq
        obtain ⟨Q, rfl, hQ, _⟩ := set_nat hn hn7 hq1.1.2
        rw [iand_nat (by omega) (by omega)] at hq2
        have h0 : (S ||| M) &&& Q = 0 := by omega
        rw [Nat.and_or_distrib_right] at h0
        have h1 : S &&& Q = 0 := by have := @Nat.left_le_or (S &&& Q) (M &&& Q); omega
        have h2 : M &&& Q = 0 := by have := @Nat.right_le_or (S &&& Q) (M &&& Q); omega
        rw [iand_nat (by omega) (by omega), iand_nat (by omega) (by omega), h1, h2]
        exact ⟨rfl, rfl⟩
      refine ⟨fun q hq => ?_, List.pairwise_cons.2 ⟨fun q hq => (key q hq).2, i2⟩, ?_⟩
      · rcases List.mem_cons.1 hq with rfl | hq
        · exact hp
        · exact ⟨(i1 q hq).1, (key q hq).1⟩
      · have hlt : cntN S < cntN (S ||| M) := cnt_lt (by omega) (fun i hi => by rw [Nat.testBit_or, hi]; rfl) fun e => by
          have : M &&& M = 0 := by
            have h1 : (S ||| M) &&& M = M := by
              apply Nat.eq_of_testBit_eq
              intro i
              rw [Nat.testBit_and, Nat.testBit_or]
              cases S.testBit i <;> cases M.testBit i <;> rfl
            rw [← e, hSM] at h1
            rw [← h1]; rfl
          rw [Nat.and_self] at this
          exact hM0 this
        simp only [List.length_cons]; omega
    · cases h
def qOkP (size : Int) (rows parts : List Int) : Prop := IsG size rows ∧ qGo size rows 0 parts = some (ishl 1 size - 1)
instance (size : Int) (rows parts : List Int) : Decidable (qOkP size rows parts) := by unfold qOkP; infer_instance
def qJ (rows parts : List Int) (v u : Nat) : Bool := decide (iand (nbr rows (parts.getD v 0)) (parts.getD u 0) ≠ 0)
def qZ (size : Int) (rows parts : List Int) : Int := if qOkP size rows parts then parts.length else 0
def qL (size : Int) (rows parts : List Int) : List Int := if qOkP size rows parts then gRows parts.length (seenP (qJ rows parts) parts.length 0) else []
theorem drop_getD {l : List Int} {k : Nat} (h : k < l.length) : l.drop k = l.getD k 0 :: l.drop (k + 1) := by
  rw [List.drop_eq_getElem_cons h]; simp [List.getD, h]
theorem qGo_step {size : Int} {rows parts : List Int} {S : Int} {k : Nat} (h : k < parts.length) (h1 : modP size rows (parts.getD k 0)) (h2 : iand S (parts.getD k 0) = 0) :
    qGo size rows S (parts.drop k) = qGo size rows (ior S (parts.getD k 0)) (parts.drop (k + 1)) := by
  rw [drop_getD h]; unfold qGo; rw [if_pos ⟨h1, h2⟩]; cases parts.drop (k + 1) <;> rfl
theorem qGo_stop {size : Int} {rows parts : List Int} {S : Int} {k : Nat} (h : k < parts.length) (h1 : ¬ (modP size rows (parts.getD k 0) ∧ iand S (parts.getD k 0) = 0)) : qGo size rows S (parts.drop k) = none := by
  rw [drop_getD h]; unfold qGo; rw [if_neg h1]
theorem qOk_no {size : Int} {rows parts : List Int} (h : qGo size rows 0 parts = none) : ¬ qOkP size rows parts := fun hq => by rw [hq.2] at h; cases h
/-- One of the parts that were taken. -/
theorem q_part {size : Int} {rows parts : List Int} {n : Nat} (hg : IsG size rows) (hn : size = n) {X : Int} (h : qGo size rows 0 parts = some X) {i : Nat} (hi : i < parts.length) :
    ∃ A : Nat, parts.getD i 0 = A ∧ A < 2 ^ n ∧ A < 128 ∧ ModN n (rowN rows) A ∧ (listS (parts.getD i 0)).getD 0 0 = (lowN A : Nat) ∧ lowN A < n ∧ A.testBit (lowN A) = true ∧ 0 < (listS (parts.getD i 0)).length := by
  obtain ⟨n', hn', _, _, hn7⟩ := isG_size hg
  obtain rfl : n' = n := by omega
  obtain ⟨h1, _, _⟩ := qGo_spec hg hn parts 0 (Nat.two_pow_pos _) X h
  have hm := (h1 _ (getD_mem hi)).1
  obtain ⟨A, hA, hA1, hA2⟩ := set_nat hn hn7 hm.1.2
  rw [hA] at hm ⊢
  have hM := (modQ_iff hg hn hA1).1 hm.2
  obtain ⟨l1, l2, _⟩ := low_spec ⟨A, hA2⟩ hM.1
  refine ⟨A, rfl, hA1, hA2, hM, low_list hA2, has_lt hA1 l1, l1, ?_⟩
  have : ((lowN A : Nat) : Int) ∈ listS (A : Int) := mem_listS.2 ⟨⟨by omega, by omega⟩, lowN A, rfl, l2, by rw [hasB_nat (by omega) (by dsimp only at l2; omega)]; exact l1⟩
  exact List.length_pos_of_mem this
theorem q_edge {size : Int} {rows parts : List Int} {n : Nat} (hg : IsG size rows) (hn : size = n) {X : Int} (h : qGo size rows 0 parts = some X) {i k : Nat} (hi : i < parts.length) (hk : k < i) :
    hasB (rows.getD ((listS (parts.getD i 0)).getD 0 0).toNat 0) ((listS (parts.getD k 0)).getD 0 0) = qJ rows parts k i := by
  obtain ⟨n', hn', _, _, hn7⟩ := isG_size hg
  obtain rfl : n' = n := by omega
  obtain ⟨A, a1, a2, a3, a4, a5, a6, a7, _⟩ := q_part hg hn h hi
  obtain ⟨B, b1, b2, b3, b4, b5, b6, b7, _⟩ := q_part hg hn h (i := k) (by omega)
  obtain ⟨_, hp, _⟩ := qGo_spec hg hn parts 0 (Nat.two_pow_pos _) X h
  have hd : iand (parts.getD k 0) (parts.getD i 0) = 0 := by
    have := List.pairwise_iff_getElem.1 hp k i (by omega) hi hk
    simpa [List.getD, hi, show k < parts.length by omega] using this
  have ng := ng_of hg hn
  rw [a1, b1, iand_nat (by omega) (by omega)] at hd
  have hd' : B &&& A = 0 := by omega
  have hb := between_nat ng b4 a4 b2 a2 hd' b7 a7
  have hlt := nbN_lt ng.lt B n'
  have h7 := pow_le7 hn7
  unfold qJ
  rw [a5, b5, b1, a1, nbr_nat hg hn b2, iand_nat (by omega) (by omega), Int.toNat_natCast, rowN_eq hg, hasB_nat (by have := ng.lt (lowN A); omega) (by omega), ng.sym _ _ a6 b6]
  rw [Bool.eq_iff_iff, ← hb, decide_eq_true_iff]
  constructor
  · intro h e; exact h (by omega)
  · intro h e; exact h (by omega)
theorem qOk_len {size : Int} {rows parts : List Int} (h : qOkP size rows parts) : 1 ≤ parts.length ∧ parts.length ≤ 7 := by
  obtain ⟨n, hn, _, hn1, hn7⟩ := isG_size h.1
  obtain ⟨_, _, h3⟩ := qGo_spec h.1 hn parts 0 (Nat.two_pow_pos _) _ h.2
  refine ⟨?_, by omega⟩
  cases parts with
  | nil =>
    have := h.2
    unfold qGo at this
    have h1 := (shl1 (n := size) ⟨by omega, by omega⟩)
    have h2 : 2 ^ 1 ≤ 2 ^ n := Nat.pow_le_pow_right (by omega) hn1
    rw [hn, ishl_one_nat (by omega)] at this
    injection this with this
    omega
  | cons => simp
theorem q_sym (J : Nat → Nat → Bool) {w v : Nat} (i u : Nat) : pairAdd (seenP J w v) w v i u = pairAdd (seenP J w v) v w i u := by
  unfold pairAdd; rw [Bool.or_comm (decide (i = w ∧ u = v))]
theorem qL_length (size : Int) (rows parts : List Int) : (qL size rows parts).length ≤ 7 := by
  unfold qL
  split
  · rename_i h; rw [gRows_length]; exact (qOk_len h).2
  · simp
end Go.Pw
