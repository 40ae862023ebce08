import Derived.Test.YtoejpckfeflkaaaGreatDoorPwPcc
import Derived.Test.YtoejpckfeflkaaaGreatDoorPwPqg
import Derived.Test.YtoejpckfeflkaaaGreatDoorPwPct
import Derived.Test.YtoejpckfeflkaaaGreatDoorKd
import Derived.Test.YtoejpckfeflkaaaGreatDoorPwRdr
/- The plain mathematics of quotients. -/
namespace Go.Pw
open Go
/-- Between two disjoint modules all are joined or none. -/
theorem between_nat {n : Nat} {r : Nat → Nat} (hg : NG n r) {A B : Nat} (hA : ModN n r A) (hB : ModN n r B) (hAn : A < 2 ^ n) (hBn : B < 2 ^ n) (h0 : A &&& B = 0) {a b : Nat} (ha : A.testBit a = true) (hb : B.testBit b = true) :
    nbN r A n &&& B ≠ 0 ↔ (r a).testBit b = true := by
  have lt : ∀ {S x : Nat}, S < 2 ^ n → S.testBit x = true → x < n := fun {S x} hS hx => by
    rcases Nat.lt_or_ge x n with h | h
    · exact h
    · rw [Nat.testBit_lt_two_pow (Nat.lt_of_lt_of_le hS (Nat.pow_le_pow_right (by omega) h))] at hx; cases hx
  have dis : ∀ x, A.testBit x = true → B.testBit x = true → False := fun x h1 h2 => by
    have : (A &&& B).testBit x = true := by rw [Nat.testBit_and, h1, h2]; rfl
    rw [h0, Nat.zero_testBit] at this; cases this
  have an := lt hAn ha
  have bn := lt hBn hb
  have notA : ∀ x, B.testBit x = true → A.testBit x = false := fun x hx => by
    cases h : A.testBit x with
    | false => rfl
    | true => exact (dis x h hx).elim
  have notB : B.testBit a = false := by
    cases h : B.testBit a with
    | false => rfl
    | true => exact (dis a ha h).elim
  constructor
  · intro h
    obtain ⟨x, hx1, hx2⟩ := and_ne_zero h
    obtain ⟨v, hv, hvA, hvx⟩ := (nbN_bit r A x n).1 hx1
    have xn := lt hBn hx2
    have h1 : (r a).testBit x = true := by rw [hA.2 a v ha hvA x xn (notA x hx2)]; exact hvx
    rw [hg.sym a x an xn] at h1
    rw [hB.2 x b hx2 hb a an notB] at h1
    rw [hg.sym a b an bn]; exact h1
  · intro h e
    have h1 : (nbN r A n).testBit b = true := (nbN_bit r A b n).2 ⟨a, an, ha, h⟩
    have : (nbN r A n &&& B).testBit b = true := by rw [Nat.testBit_and, h1, hb]; rfl
    rw [e, Nat.zero_testBit] at this; cases this
/-- Parts taken one after another: modules, none met before. -/
def qGo (size : Int) (rows : List Int) : Int → List Int → Option Int
  | S, [] => some S
  | S, p :: l => if modP size rows p ∧ iand S p = 0 then qGo size rows (ior S p) l else none
theorem qGo_spec {size : Int} {rows : List Int} {n : Nat} (hg : IsG size rows) (hn : size = n) : ∀ (l : List Int) (S : Nat), S < 2 ^ n → ∀ X, qGo size rows (S : Int) l = some X →
    (∀ p ∈ l, modP size rows p ∧ iand (S : Int) p = 0) ∧ l.Pairwise (fun p q => iand p q = 0) ∧ l.length + cntN S ≤ 7 := by
  obtain ⟨n', hn', _, _, hn7⟩ := isG_size hg
  obtain rfl : n' = n := by omega
  have h7 : 2 ^ n' ≤ 2 ^ 7 := Nat.pow_le_pow_right (by omega) hn7
  intro l
  induction l with
  | nil =>
    intro S hS X _
    refine ⟨fun p hp => (List.not_mem_nil hp).elim, .nil, ?_⟩
    have := cnt_le ⟨n', by omega⟩ ⟨S, by omega⟩ hS
    dsimp only at this
    simp; omega
  | cons p l ih =>
    intro S hS X h
    unfold qGo at h
    split at h
    · rename_i hp
      obtain ⟨M, rfl, hM, _⟩ := set_nat hn hn7 hp.1.1.2
      have hM0 : M ≠ 0 := fun e => hp.1.2.1 (by rw [e]; rfl)
      have hSM : S &&& M = 0 := by have := hp.2; rw [iand_nat (by omega) (by omega)] at this; omega
      rw [ior_nat (by omega) (by omega)] at h
      have hor : S ||| M < 2 ^ n' := Nat.or_lt_two_pow hS hM
      obtain ⟨i1, i2, i3⟩ := ih (S ||| M) hor X h
      have key : ∀ q ∈ l, iand (S : Int) q = 0 ∧ iand (M : Int) q = 0 := fun q hq => by
        obtain ⟨hq1, hq2⟩ := i1 q hq
        obtain ⟨Q, rfl, hQ, _⟩ := set_nat hn hn7 hq1.1.2
        rw [iand_nat (by omega) (by omega)] at hq2
        have h0 : (S ||| M) &&& Q = 0 := by omega
        rw [Nat.and_or_distrib_right] at h0
        have h1 : S &&& Q = 0 := by have := @Nat.left_le_or (S &&& Q) (M &&& Q); omega
        have h2 : M &&& Q = 0 := by have := @Nat.right_le_or (S &&& Q) (M &&& Q); omega
        rw [iand_nat (by omega) (by omega), iand_nat (by omega) (by omega), h1, h2]
        exact ⟨rfl, rfl⟩
      refine ⟨fun q hq => ?_, List.pairwise_cons.2 ⟨fun q hq => (key q hq).2, i2⟩, ?_⟩
      · rcases List.mem_cons.1 hq with rfl | hq
        · exact hp
        · exact ⟨(i1 q hq).1, (key q hq).1⟩
      · have hlt : cntN S < cntN (S ||| M) := cnt_lt (by omega) (fun i hi => by rw [Nat.testBit_or, hi]; rfl) fun e => by
          have : M &&& M = 0 := by
            have h1 : (S ||| M) &&& M = M := by
              apply Nat.eq_of_testBit_eq
              intro i
              rw [Nat.testBit_and, Nat.testBit_or]
              cases S.testBit i <;> cases M.testBit i <;> rfl
            rw [← e, hSM] at h1
            rw [← h1]; rfl
          rw [Nat.and_self] at this
          exact hM0 this
        simp only [List.length_cons]; omega
    · cases h
def qOkP (size : Int) (rows parts : List Int) : Prop := IsG size rows ∧ qGo size rows 0 parts = some (ishl 1 size - 1)
instance (size : Int) (rows parts : List Int) : Decidable (qOkP size rows parts) := by unfold qOkP; infer_instance
def qJ (rows parts : List Int) (v u : Nat) : Bool := decide (iand (nbr rows (parts.getD v 0)) (parts.getD u 0) ≠ 0)
def qZ (size : Int) (rows parts : List Int) : Int := if qOkP size rows parts then parts.length else 0
def qL (size : Int) (rows parts : List Int) : List Int := if qOkP size rows parts then gRows parts.length (seenP (qJ rows parts) parts.length 0) else []
theorem drop_getD {l : List Int} {k : Nat} (h : k < l.length) : l.drop k = l.getD k 0 :: l.drop (k + 1) := by
  rw [List.drop_eq_getElem_cons h]; simp [List.getD, h]
theorem qGo_step {size : Int} {rows parts : List Int} {S : Int} {k : Nat} (h : k < parts.length) (h1 : modP size rows (parts.getD k 0)) (h2 : iand S (parts.getD k 0) = 0) :
    qGo size rows S (parts.drop k) = qGo size rows (ior S (parts.getD k 0)) (parts.drop (k + 1)) := by
  rw [drop_getD h]; unfold qGo; rw [if_pos ⟨h1, h2⟩]; cases parts.drop (k + 1) <;> rfl
theorem qGo_stop {size : Int} {rows parts : List Int} {S : Int} {k : Nat} (h : k < parts.length) (h1 : ¬ (modP size rows (parts.getD k 0) ∧ iand S (parts.getD k 0) = 0)) : qGo size rows S (parts.drop k) = none := by
  rw [drop_getD h]; unfold qGo; rw [if_neg h1]
theorem qOk_no {size : Int} {rows parts : List Int} (h : qGo size rows 0 parts = none) : ¬ qOkP size rows parts := fun hq => by rw [hq.2] at h; cases h
/-- One of the parts that were taken. -/
theorem q_part {size : Int} {rows parts : List Int} {n : Nat} (hg : IsG size rows) (hn : size = n) {X : Int} (h : qGo size rows 0 parts = some X) {i : Nat} (hi : i < parts.length) :
    ∃ A : Nat, parts.getD i 0 = A ∧ A < 2 ^ n ∧ A < 128 ∧ ModN n (rowN rows) A ∧ (listS (parts.getD i 0)).getD 0 0 = (lowN A : Nat) ∧ lowN A < n ∧ A.testBit (lowN A) = true ∧ 0 < (listS (parts.getD i 0)).length := by
  obtain ⟨n', hn', _, _, hn7⟩ := isG_size hg
  obtain rfl : n' = n := by omega
  obtain ⟨h1, _, _⟩ := qGo_spec hg hn parts 0 (Nat.two_pow_pos _) X h
  have hm := (h1 _ (getD_mem hi)).1
  obtain ⟨A, hA, hA1, hA2⟩ := set_nat hn hn7 hm.1.2
  rw [hA] at hm ⊢
  have hM := (modQ_iff hg hn hA1).1 hm.2
  obtain ⟨l1, l2, _⟩ := low_spec ⟨A, hA2⟩ hM.1
  refine ⟨A, rfl, hA1, hA2, hM, low_list hA2, has_lt hA1 l1, l1, ?_⟩
  have : ((lowN A : Nat) : Int) ∈ listS (A : Int) := mem_listS.2 ⟨⟨by omega, by omega⟩, lowN A, rfl, l2, by rw [hasB_nat (by omega) (by dsimp only at l2; omega)]; exact l1⟩
  exact List.length_pos_of_mem this
theorem q_edge {size : Int} {rows parts : List Int} {n : Nat} (hg : IsG size rows) (hn : size = n) {X : Int} (h : qGo size rows 0 parts = some X) {i k : Nat} (hi : i < parts.length) (hk : k < i) :
    hasB (rows.getD ((listS (parts.getD i 0)).getD 0 0).toNat 0) ((listS (parts.getD k 0)).getD 0 0) = qJ rows parts k i := by
  obtain ⟨n', hn', _, _, hn7⟩ := isG_size hg
  obtain rfl : n' = n := by omega
  obtain ⟨A, a1, a2, a3, a4, a5, a6, a7, _⟩ := q_part hg hn h hi
  obtain ⟨B, b1, b2, b3, b4, b5, b6, b7, _⟩ := q_part hg hn h (i := k) (by omega)
  obtain ⟨_, hp, _⟩ := qGo_spec hg hn parts 0 (Nat.two_pow_pos _) X h
  have hd : iand (parts.getD k 0) (parts.getD i 0) = 0 := by
    have := List.pairwise_iff_getElem.1 hp k i (by omega) hi hk
    simpa [List.getD, hi, show k < parts.length by omega] using this
  have ng := ng_of hg hn
  rw [a1, b1, iand_nat (by omega) (by omega)] at hd
  have hd' : B &&& A = 0 := by omega
  have hb := between_nat ng b4 a4 b2 a2 hd' b7 a7
  have hlt := nbN_lt ng.lt B n'
  have h7 := pow_le7 hn7
  unfold qJ
  rw [a5, b5, b1, a1, nbr_nat hg hn b2, iand_nat (by omega) (by omega), Int.toNat_natCast, rowN_eq hg, hasB_nat (by have := ng.lt (lowN A); omega) (by omega), ng.sym _ _ a6 b6]
  rw [Bool.eq_iff_iff, ← hb, decide_eq_true_iff]
  constructor
  · intro h e; exact h (by omega)
  · intro h e; exact h (by omega)
theorem qOk_len {size : Int} {rows parts : List Int} (h : qOkP size rows parts) : 1 ≤ parts.length ∧ parts.length ≤ 7 := by
  obtain ⟨n, hn, _, hn1, hn7⟩ := isG_size h.1
  obtain ⟨_, _, h3⟩ := qGo_spec h.1 hn parts 0 (Nat.two_pow_pos _) _ h.2
  refine ⟨?_, by omega⟩
  cases parts with
  | nil =>
    have := h.2
    unfold qGo at this
    have h1 := (shl1 (n := size) ⟨by omega, by omega⟩)
    have h2 : 2 ^ 1 ≤ 2 ^ n := Nat.pow_le_pow_right (by omega) hn1
    rw [hn, ishl_one_nat (by omega)] at this
    injection this with this
    omega
  | cons => simp
theorem q_sym (J : Nat → Nat → Bool) {w v : Nat} (i u : Nat) : pairAdd (seenP J w v) w v i u = pairAdd (seenP J w v) v w i u := by
  unfold pairAdd; rw [Bool.or_comm (decide (i = w ∧ u = v))]
theorem qL_length (size : Int) (rows parts : List Int) : (qL size rows parts).length ≤ 7 := by
  unfold qL
  split
  · rename_i h; rw [gRows_length]; exact (qOk_len h).2
  · simp
end Go.Pw
/- The readers of a cograph's tree, as functions: the program's. -/
namespace Go.Pw
open Go Go.RowKit
def byteAt (s : ByteArray) (i : Nat) : Nat := (s.data.toList.getD i 0).toNat
theorem byteAt_lt (s : ByteArray) (i : Nat) : byteAt s i < 256 := UInt8.toNat_lt _
theorem byteAt_get {s : ByteArray} {i : Nat} (h : i < s.size) : s[i]? = some (s.data.toList.getD i 0) := by
  have h1 : i < s.data.toList.length := h
  have h2 : s[i]? = some (s[i]'h) := by simp [h]
  rw [h2]
  congr 1
  have h3 : i < s.data.size := h
  simp only [List.getD, ByteArray.getElem_eq_getElem_data, Array.getElem?_toList]
  rw [Array.getElem?_eq_getElem h3]; rfl
abbrev RSt := Nat × (Nat → Nat) × Bool
def cellsR (s : ByteArray) (st : RSt) : List Value := [.string s, .int .i64 (st.1 : Int), .int .i64 (st.2.1 0 : Nat), .int .i64 (st.2.1 1 : Nat), .int .i64 (st.2.1 2 : Nat), .int .i64 (st.2.1 3 : Nat), .int .i64 (st.2.1 4 : Nat), .int .i64 (st.2.1 5 : Nat), .int .i64 (st.2.1 6 : Nat), .bool st.2.2]
theorem cellsR_row {s : ByteArray} {st : RSt} {v : Nat} (h : v < 7) : (cellsR s st)[2 + v]? = some (.int .i64 (st.2.1 v : Nat)) := by
  have : v = 0 ∨ v = 1 ∨ v = 2 ∨ v = 3 ∨ v = 4 ∨ v = 5 ∨ v = 6 := by omega
  rcases this with rfl | rfl | rfl | rfl | rfl | rfl | rfl <;> rfl
def updR (r : Nat → Nat) (v x : Nat) : Nat → Nat := fun j => if j = v then x else r j
theorem cellsR_set {s : ByteArray} {a : Nat} {r : Nat → Nat} {b : Bool} {v x : Nat} (h : v < 7) : (cellsR s (a, r, b)).set (2 + v) (.int .i64 (x : Nat)) = cellsR s (a, updR r v x, b) := by
  have : v = 0 ∨ v = 1 ∨ v = 2 ∨ v = 3 ∨ v = 4 ∨ v = 5 ∨ v = 6 := by omega
  rcases this with rfl | rfl | rfl | rfl | rfl | rfl | rfl <;> rfl
theorem cellsR_or1 {s : ByteArray} {a : Nat} {r : Nat → Nat} {b : Bool} {v x : Nat} (h : v < 7) (hr : ∀ v, r v < 128) (hx : x < 128) : (cellsR s (a, r, b)).set (2 + v) (.int .i64 (ior (r v : Nat) (x : Nat))) = cellsR s (a, updR r v (r v ||| x), b) := by
  have := hr v
  rw [ior_nat (by omega) (by omega)]; exact cellsR_set h
theorem or_lt128 {a b : Nat} (ha : a < 128) (hb : b < 128) : a ||| b < 128 := Nat.or_lt_two_pow (n := 7) ha hb
theorem cellsR_or2 {s : ByteArray} {a : Nat} {r : Nat → Nat} {b : Bool} {v x y : Nat} (h : v < 7) (hr : ∀ v, r v < 128) (hx : x < 128) (hy : y < 128) : ((cellsR s (a, r, b)).set (2 + v) (.int .i64 (ior (r v : Nat) (x : Nat)))).set (2 + v) (.int .i64 (ior (ior (r v : Nat) (x : Nat)) (y : Nat))) = cellsR s (a, updR r v (r v ||| x ||| y), b) := by
  have h1 := hr v
  have h2 := or_lt128 h1 hx
  rw [ior_nat (by omega) (by omega), ior_nat (by omega) (by omega), List.set_set]; exact cellsR_set h
def nextI (s : ByteArray) (st : RSt) : Nat × RSt := if st.1 = s.size then (0, (st.1, st.2.1, true)) else (byteAt s st.1, (st.1 + 1, st.2.1, st.2.2))
theorem nextI_end {s : ByteArray} {st : RSt} (h : st.1 = s.size) : nextI s st = (0, (st.1, st.2.1, true)) := if_pos h
theorem nextI_in {s : ByteArray} {st : RSt} (h : st.1 ≠ s.size) : nextI s st = (byteAt s st.1, (st.1 + 1, st.2.1, st.2.2)) := if_neg h
theorem nextI_pos (s : ByteArray) (st : RSt) (h : (nextI s st).1 ≠ 0) : st.1 ≠ s.size ∧ (nextI s st).2.1 = st.1 + 1 := by
  by_cases he : st.1 = s.size
  · rw [nextI_end he] at h; exact absurd rfl h
  · rw [nextI_in he]; exact ⟨he, rfl⟩
def joinK (sign out part : Nat) (r : Nat → Nat) (k : Nat) : Nat → Nat := fun v => if v < k ∧ sign = 42 then r v ||| (if part.testBit v then out else 0) ||| (if out.testBit v then part else 0) else r v
theorem joinK_zero (sign out part : Nat) (r : Nat → Nat) : joinK sign out part r 0 = r := by
  funext v; unfold joinK; rw [if_neg (by omega)]
theorem joinK_no {sign : Nat} (h : sign ≠ 42) (out part : Nat) (r : Nat → Nat) (k : Nat) : joinK sign out part r k = r := by
  funext v; unfold joinK; rw [if_neg (fun hh => h hh.2)]
theorem joinK_succ (out part : Nat) (r : Nat → Nat) (k : Nat) : joinK 42 out part r (k + 1) = updR (joinK 42 out part r k) k (r k ||| (if part.testBit k then out else 0) ||| (if out.testBit k then part else 0)) := by
  funext v
  unfold updR joinK
  by_cases h : v = k
  · subst h
    have c1 : v < v + 1 ∧ 42 = 42 := ⟨by omega, rfl⟩
    rw [if_pos c1, if_pos rfl]
  · have c3 : ¬ v = k := h
    rw [if_neg c3]
    by_cases h2 : v < k
    · have c1 : v < k + 1 ∧ 42 = 42 := ⟨by omega, rfl⟩
      have c2 : v < k ∧ 42 = 42 := ⟨h2, rfl⟩
      rw [if_pos c1, if_pos c2]
    · have c1 : ¬ (v < k + 1 ∧ 42 = 42) := fun hh => by omega
      have c2 : ¬ (v < k ∧ 42 = 42) := fun hh => h2 hh.1
      rw [if_neg c1, if_neg c2]
theorem joinK_at (sign out part : Nat) (r : Nat → Nat) (k : Nat) : joinK sign out part r k k = r k := by
  unfold joinK; rw [if_neg (by omega)]
theorem updR_self (r : Nat → Nat) (k : Nat) : updR r k (r k) = r := by
  funext v; unfold updR; split
  · rename_i h; rw [h]
  · rfl
def loopI (s : ByteArray) (g : RSt → Nat × RSt) (sign : Nat) : Nat → RSt → Nat → Nat × RSt
  | 0, st, out => (out, st)
  | k + 1, st, out => if st.2.2 = true then (out, st) else
      if (nextI s st).1 = 32 then loopI s g sign k ((g (nextI s st).2).2.1, joinK sign out (g (nextI s st).2).1 (g (nextI s st).2).2.2.1 7, (g (nextI s st).2).2.2.2) (out ||| (g (nextI s st).2).1)
      else (out, (nextI s st).2)
def setI (s : ByteArray) : Nat → RSt → Nat × RSt
  | 0, st => (0, st)
  | f + 1, st => if (nextI s st).1 = 40 then loopI s (setI s f) (nextI s (nextI s st).2).1 (s.size + 1) (nextI s (nextI s st).2).2 0
      else if (nextI s st).2.2.2 = true ∨ ¬ (48 ≤ (nextI s st).1 ∧ (nextI s st).1 ≤ 54) then (0, ((nextI s st).2.1, (nextI s st).2.2.1, true)) else (2 ^ ((nextI s st).1 - 48), (nextI s st).2)
def BdR (st : RSt) : Prop := ∀ v, st.2.1 v < 128
theorem nextI_ok {s : ByteArray} {st : RSt} (h : st.1 ≤ s.size) (hb : BdR st) : st.1 ≤ (nextI s st).2.1 ∧ (nextI s st).2.1 ≤ s.size ∧ BdR (nextI s st).2 ∧ (nextI s st).1 < 256 := by
  by_cases he : st.1 = s.size
  · rw [nextI_end he]; exact ⟨Nat.le_refl _, h, hb, by show 0 < 256; omega⟩
  · rw [nextI_in he]; exact ⟨by dsimp only; omega, by dsimp only; omega, hb, byteAt_lt _ _⟩
theorem joinK_lt {sign out part : Nat} {r : Nat → Nat} {k : Nat} (ho : out < 128) (hp : part < 128) (hr : ∀ v, r v < 128) : ∀ v, joinK sign out part r k v < 128 := fun v => by
  unfold joinK
  split
  · refine or_lt128 (or_lt128 (hr v) ?_) ?_
    · split <;> omega
    · split <;> omega
  · exact hr v
def OkG (s : ByteArray) (g : RSt → Nat × RSt) : Prop := ∀ st, st.1 ≤ s.size → BdR st → st.1 ≤ (g st).2.1 ∧ (g st).2.1 ≤ s.size ∧ BdR (g st).2 ∧ (g st).1 < 128
theorem loopI_ok {s : ByteArray} {g : RSt → Nat × RSt} (hg : OkG s g) (sign : Nat) : ∀ k st out, st.1 ≤ s.size → BdR st → out < 128 → st.1 ≤ (loopI s g sign k st out).2.1 ∧ (loopI s g sign k st out).2.1 ≤ s.size ∧ BdR (loopI s g sign k st out).2 ∧ (loopI s g sign k st out).1 < 128 := by
  intro k
  induction k with
  | zero => intro st out h1 h2 h3; exact ⟨Nat.le_refl _, h1, h2, h3⟩
  | succ k ih =>
    intro st out h1 h2 h3
    unfold loopI
    split
    · exact ⟨Nat.le_refl _, h1, h2, h3⟩
    · obtain ⟨n1, n2, n3, n4⟩ := nextI_ok h1 h2
      split
      · obtain ⟨g1, g2, g3, g4⟩ := hg _ n2 n3
        obtain ⟨i1, i2, i3, i4⟩ := ih ((g (nextI s st).2).2.1, joinK sign out (g (nextI s st).2).1 (g (nextI s st).2).2.2.1 7, (g (nextI s st).2).2.2.2) (out ||| (g (nextI s st).2).1) g2 (joinK_lt h3 g4 g3) (or_lt128 h3 g4)
        exact ⟨by dsimp only at i1; omega, i2, i3, i4⟩
      · exact ⟨n1, n2, n3, h3⟩
theorem setI_ok (s : ByteArray) : ∀ f, OkG s (setI s f) := by
  intro f
  induction f with
  | zero => intro st h1 h2; exact ⟨Nat.le_refl _, h1, h2, by show 0 < 128; omega⟩
  | succ f ih =>
    intro st h1 h2
    obtain ⟨n1, n2, n3, n4⟩ := nextI_ok h1 h2
    unfold setI
    split
    · obtain ⟨m1, m2, m3, m4⟩ := nextI_ok n2 n3
      obtain ⟨i1, i2, i3, i4⟩ := loopI_ok ih (nextI s (nextI s st).2).1 (s.size + 1) (nextI s (nextI s st).2).2 0 m2 m3 (by omega)
      exact ⟨by omega, i2, i3, i4⟩
    · split
      · exact ⟨n1, n2, n3, by show 0 < 128; omega⟩
      · rename_i hh
        refine ⟨n1, n2, n3, ?_⟩
        have : (nextI s st).1 - 48 ≤ 6 := by omega
        exact Nat.lt_of_le_of_lt (Nat.pow_le_pow_right (by omega) this) (by decide)
def rowsI (n : Nat) (r : Nat → Nat) : List Int := (List.range n).map fun v => (r v : Int)
theorem rowsI_length (n : Nat) (r : Nat → Nat) : (rowsI n r).length = n := by simp [rowsI]
theorem toList_beq (a b : ByteArray) : (a.toList == b.toList) = decide (a = b) := by
  rw [ByteArray.toList_eq, ByteArray.toList_eq]
  by_cases h : a = b
  · subst h; simp
  · rw [decide_eq_false h, beq_eq_false_iff_ne]
    exact fun hh => h (Go.WideShapes.bytes_inj hh)
def cogb (size : Int) (rows : List Int) : Bool := decide (IsG size rows ∧ pathX size rows 4 = none)
def gocA (s : ByteArray) : Nat × RSt := setI s 101 (0, fun _ => 0, false)
def gocN (s : ByteArray) : Nat := cntN (gocA s).1
def gocR (s : ByteArray) : List Int := rowsI (gocN s) (gocA s).2.2.1
def gocB (s : ByteArray) : Bool := decide (s.size ≤ 100) && (!(gocA s).2.2.2 && (cogb (gocN s) (gocR s) && decide (cotX (gocN s) (gocR s) = s)))
def gocZ (s : ByteArray) : Int := if gocB s = true then gocN s else 0
def gocL (s : ByteArray) : List Int := if gocB s = true then gocR s else []
theorem gocA_ok (s : ByteArray) : (gocA s).2.1 ≤ s.size ∧ BdR (gocA s).2 ∧ (gocA s).1 < 128 := by
  obtain ⟨_, h1, h2, h3⟩ := setI_ok s 101 (0, fun _ => 0, false) (Nat.zero_le _) (fun v => by show 0 < 128; omega)
  exact ⟨h1, h2, h3⟩
end Go.Pw
/- Graphs of pairs; quotients. -/
namespace Go.Proofs.YtoejpckfeflkaaaGreatDoor
open Go Go.RowKit Go.Pw
def flipL (R : List Int) (v w : Nat) : List Int :=
  let R1 := R.set v (ixor (R.getD v 0) (ishl 1 w))
  R1.set w (ixor (R1.getD w 0) (ishl 1 v))
theorem en_s_l2Copy : Entry Tryz.prog 93 := ⟨_, Tryz.func93, by kernel_rfl, rfl⟩
set_option maxHeartbeats 800000 in
theorem s_l2Copy_c (size : Int) (gv : Value) (rows : List Int) (w : World) (hr : Arr w gv (ints rows)) (hlen : rows.length ≤ 1048576) :
    Gives Tryz.prog 93 #[.agg #[.int .i64 size, gv]] w (fun v objs => ∃ sv', v = .agg #[.int .i64 size, sv'] ∧ objs = [.row 3 sv' (ints rows)]) := by
  refine gives_enter (args := [_]) en_s_l2Copy Tryz.func93 rfl Tryz.ntmps93 rfl ?_
  repeat' (first | apply pwp_seq | apply pwp_region | (apply px_run; (first | (apply opv_field fld_G0; rfl) | (apply opv_field fld_G1; rfl) | (apply opv_load_blk 0; (first | with_reducible exact sc_int | with_reducible exact sc_ints); rfl; rfl; rfl) | (apply opv_build2 bl_G; rfl; rfl; (first | exact rd_row 0 rfl))); rfl; rfl) | apply px_nil | apply qseq_normal | apply pwp_ret | (apply pwp_region_any [0, 1, 3, 4] [] 4 (Cl [] w [.blk _ [.int .i64 size, gv]]); kernel_rfl; decide +kernel; exact Cl.stable _ _ _; exact fun w h => h.sub (by repeat (first | exact List.Sublist.refl _ | apply List.Sublist.cons))) | apply qlooks_normal | (apply qstep_in; exact fun w h => h.sub (by repeat (first | exact List.Sublist.refl _ | apply List.Sublist.cons))) | (apply pxa_nil; decide +kernel) | (apply pxa_one 2; decide +kernel; rfl) | (apply pxa_one 5; decide +kernel; rfl) | (apply pxa_one 6; decide +kernel; rfl) | (apply pxa_one 7; decide +kernel; rfl) | (apply px_box; rfl; rfl; rfl; rfl; intro bk) | (apply px_alloc st_G; rfl; rfl; rfl; intro bk) | (apply px_store_str 1 st_G; rfl; rfl; rfl; rfl; rfl; (intro w hw; (first | refine all2 rfl ?_ ?_) <;> (first | rfl | exact stor_row 0 hw rfl)); rfl) | (apply px_lit0 ez_int; rfl; rfl; rfl; intro sv) | (apply px_append 0 ez_int; rfl; rfl; rfl; (first | exact rd_old (by assumption)); (first | exact fun _ _ => stor_ints); (simp [ints]; omega); decide; rfl; rfl; intro sv))
  refine qbody_cell 1 rfl st_G rfl rfl rfl ⟨_, ⟨_, rfl, rfl⟩, fun w' h => ?_⟩
  exact Cl.sub (by assumption) (by repeat (first | exact List.Sublist.slnil | exact List.Sublist.refl _ | apply List.Sublist.cons_cons | exact List.sublist_append_left _ _ | exact List.sublist_append_right _ _ | apply List.Sublist.cons))
theorem en_s_l2Pair : Entry Tryz.prog 94 := ⟨_, Tryz.func94, by kernel_rfl, rfl⟩
theorem s_l2Pair_c (size : Int) (sv : Value) (rows : List Int) (v u : Int) (w : World) (hr : Arr w sv (ints rows)) (hg : IsG size rows) (hv : 0 ≤ v ∧ v < size) (hu : 0 ≤ u ∧ u < size) (hvu : v ≠ u) :
    Pure Tryz.prog 94 #[.agg #[.int .i64 size, sv], .int .i64 v, .int .i64 u] w (.bool true) := by
  refine pure_enter (args := [_, _, _]) en_s_l2Pair Tryz.func94 rfl Tryz.ntmps94 rfl ?_
  repeat' (first | apply pwp_seq | apply pwp_region | (apply px_run; (first | (apply opv_move; first | exact hid_int rfl | exact hid_bool rfl) | (apply opv_assign; first | exact hid_bool rfl) | (apply opv_lss <;> rfl) | (apply opv_geq <;> rfl) | (apply opv_neq <;> rfl) | (apply opv_pick_t <;> rfl) | (apply opv_field fld_G0; rfl) | (apply opv_load_blk 0; (first | with_reducible exact sc_int); rfl; rfl; rfl) | (apply opv_load_str 0 st_G; rfl; rfl; rfl) | (apply opv_call; rfl; rfl; exact Cl.stable _ _ _; exact fun w hw => s_IsGraph_c _ _ rows _ (by first | exact hw.arr (by assumption)))); rfl; rfl) | apply px_nil | apply qseq_normal | apply pwp_ret | (apply px_guard_dec; rfl; rfl; rfl; all_goals (intro hc; try (first | contradiction | (exfalso; omega)))) | (apply px_box; rfl; rfl; rfl; rfl; intro bk))
  all_goals first
    | exact absurd hg (by assumption)
    | refine qbody_ret1 (v := .bool _) rfl rfl ⟨by first | rfl | (congr 1; simp_all), fun _ h => h.below⟩
theorem en_s_AddEdge : Entry Tryz.prog 82 := ⟨_, Tryz.func82, by kernel_rfl, rfl⟩
set_option maxHeartbeats 1000000 in
theorem s_AddEdge_c (n : Nat) (gv : Value) (P : Nat → Nat → Bool) (v u : Nat) (w : World) (hr : Arr w gv (ints (gRows n P))) (h1 : 1 ≤ n) (hn : n ≤ 7) (hs : ∀ i u, P i u = P u i) (hi : ∀ i, P i i = false)
    (hv : v < n) (hu : u < n) (hvu : v ≠ u) (hP : P v u = false) :
    Gives Tryz.prog 82 #[.agg #[.int .i64 n, gv], .int .i64 v, .int .i64 u] w (fun x objs => ∃ sv', x = .tuple #[.agg #[.int .i64 n, sv'], .bool true] ∧ objs = [.row 3 sv' (ints (gRows n (pairAdd P v u)))]) := by
  have hg := gRows_isG h1 hn hs hi
  have hlen : (gRows n P).length = n := gRows_length n P
  have hhas := gRows_has hn P hv hu
  have hvu' : (v : Int) ≠ u := by omega
  obtain ⟨p1, p2⟩ := gRows_pair hn hv hu hvu hP (by rw [hs]; exact hP)
  obtain ⟨_, m1⟩ := mask_new hn hu hP
  obtain ⟨_, m2⟩ := mask_new (f := P u) hn hv (by rw [hs]; exact hP)
  have h7 : 2 ^ n ≤ 2 ^ 7 := Nat.pow_le_pow_right (by omega) hn
  have l1 := maskU_lt (fun x => P v x || decide (x = u)) n
  have l2 := maskU_lt (fun x => P u x || decide (x = v)) n
  have b1 : (gRows n P).getD v 0 + ishl 1 (u : Int) = ((maskU (fun x => P v x || decide (x = u)) n : Nat) : Int) := by rw [gRows_get P hv]; exact m1
  have b2 : ((gRows n P).set v ((gRows n P).getD v 0 + ishl 1 (u : Int))).getD u 0 + ishl 1 (v : Int) = ((maskU (fun x => P u x || decide (x = v)) n : Nat) : Int) := by rw [b1, p1]; exact m2
  refine gives_enter (args := [_, _, _]) en_s_AddEdge Tryz.func82 rfl Tryz.ntmps82 rfl ?_
  repeat' (first | apply pwp_seq | apply pwp_region | (apply px_run; (first | (apply opv_move; first | exact hid_int rfl | exact hid_bool rfl) | (apply opv_assign; first | exact hid_bool rfl) | (apply opv_pick_f <;> rfl) | (apply opv_not <;> rfl) | (apply opv_add_in; rfl; rfl; omega) | (apply opv_shl; rfl; rfl; omega) | (apply opv_field fld_G1; rfl) | (apply opv_load_blk 0; (first | with_reducible exact sc_int | with_reducible exact sc_ints); rfl; rfl; rfl) | (apply opv_load_ints sc_int; rfl; (first | exact rd_row 1 rfl); (first | omega | (simp only [List.length_set]; omega))) | (apply opv_index_nat (vs := ints _) el_int; (case hr => exact rd_row 1 rfl); (case hx => rfl); (case hy => rfl); (first | (simp only [ints_length]; omega) | (simp [ints]; omega))) | (apply opv_load_str 0 st_G; rfl; rfl; rfl) | (apply opv_load_str 1 st_G; rfl; rfl; rfl) | (apply opv_load_str 3 st_G; rfl; rfl; rfl) | (apply opv_call; rfl; rfl; exact Cl.stable _ _ _; exact fun w hw => s_l2Pair_c _ _ _ _ _ _ (by first | exact hw.arr (by assumption)) hg (by omega) (by omega) hvu') | (apply opv_call; rfl; rfl; exact Cl.stable _ _ _; exact fun w hw => s_l2Edge_c _ _ (gRows n P) _ _ _ (by first | exact hw.arr (by assumption)) (by omega) (by omega))); rfl; rfl) | apply px_nil | apply qseq_normal | apply qseq_ret | apply pwp_skip | apply pwp_ret | (apply pwp_region_any [0, 1, 2, 3, 4, 5, 6, 7, 8, 9, 10, 11] [12] 1 (Cl [] w [.blk _ [.int .i64 n, sc], .row 3 sc _, .blk _ _, .blk _ _]); kernel_rfl; decide +kernel; exact Cl.stable _ _ _; exact fun w h => h.sub (by repeat (first | exact List.Sublist.refl _))) | apply qlooks_normal | (apply qstep_out; decide +kernel) | (apply pxa_nil; decide +kernel) | (apply pxa_one 12; decide +kernel; rfl) | (apply pwp_cond; rfl; all_goals (intro hc; try (first | fail))) | (apply px_box; rfl; rfl; rfl; rfl; intro bk) | (apply px_alloc st_G; rfl; rfl; rfl; intro bk) | (apply px_store_str 0 st_G; rfl; rfl; rfl; rfl; rfl; (intro w hw; (first | refine all2 rfl ?_ ?_) <;> (first | rfl | exact stor_row 1 hw rfl)); rfl) | (apply px_store_str 2 st_G; rfl; rfl; rfl; rfl; rfl; (intro w hw; (first | refine all2 rfl ?_ ?_) <;> (first | rfl | exact stor_row 1 hw rfl)); rfl) | (apply px_store_int 1 co_int; rfl; rfl; rfl; (first | omega | (simp; omega)); rfl) | (apply px_gives; rfl; rfl; rfl; rfl; rfl; exact fun w hw => s_l2Copy_c _ _ (gRows n P) _ (by first | exact hw.arr (by assumption)) (by omega); rintro _ _ ⟨sc, rfl, rfl⟩))
  · exact absurd hc (by rw [show hasB ((gRows n P).getD (Int.toNat (v : Int)) 0) (u : Int) = P v u from hhas, hP]; exact Bool.false_ne_true)
  · refine qbody_cell_tmp 2 rfl st_G rfl rfl rfl rfl ⟨_, ⟨sc, rfl, rfl⟩, fun w' h => ?_⟩
    rw [b2, b1, p2] at h
    exact Cl.sub (by assumption) (by repeat (first | exact List.Sublist.slnil | exact List.Sublist.refl _ | apply List.Sublist.cons_cons | exact List.sublist_append_left _ _ | exact List.sublist_append_right _ _ | apply List.Sublist.cons))
end Go.Proofs.YtoejpckfeflkaaaGreatDoor
/- The readers of a cograph's tree, as functions: the reference's. -/
namespace Go.Pw
open Go Go.RowKit
abbrev Rel := Nat → Nat → Bool
def SymP (P : Rel) : Prop := ∀ x y, P x y = P y x
def IrrP (P : Rel) : Prop := ∀ x, P x x = false
def crS (set part x y : Nat) : Bool := set.testBit x && part.testBit y
def joinW (sign set part : Nat) (P : Rel) : Rel := fun x y => P x y || (decide (sign = 42) && (crS set part x y || crS set part y x))
theorem joinW_no {sign : Nat} (h : sign ≠ 42) (set part : Nat) (P : Rel) : joinW sign set part P = P := by
  funext x y; unfold joinW; rw [decide_eq_false h]; simp
def loopS (s : ByteArray) (g : Nat → Rel → Option (Rel × Nat × Nat)) (sign : Nat) : Nat → Nat → Rel → Nat → Option (Rel × Nat × Nat)
  | 0, _, _, _ => none
  | k + 1, i, P, set => if i < s.size ∧ byteAt s i = 32 then
      match g (i + 1) P with
      | none => none
      | some (P', part, next) => if part &&& set = 0 then loopS s g sign k next (joinW sign set part P') (set ||| part) else none
      else if i < s.size ∧ byteAt s i = 41 then some (P, set, i + 1) else none
def rdS (s : ByteArray) : Nat → Nat → Rel → Option (Rel × Nat × Nat)
  | 0, _, _ => none
  | f + 1, i, P => if s.size ≤ i then none
      else if 48 ≤ byteAt s i ∧ byteAt s i ≤ 54 then some (P, 2 ^ (byteAt s i - 48), i + 1)
      else if byteAt s i = 40 ∧ i + 1 < s.size ∧ (byteAt s (i + 1) = 43 ∨ byteAt s (i + 1) = 42) then loopS s (rdS s f) (byteAt s (i + 1)) (s.size + 1) (i + 2) P 0
      else none
theorem and_bit {a b : Nat} (h : a &&& b = 0) (x : Nat) : (a.testBit x && b.testBit x) = false := by
  have := congrArg (fun z => z.testBit x) h
  simpa [Nat.testBit_and] using this
theorem joinW_sym {sign set part : Nat} {P : Rel} (h : SymP P) : SymP (joinW sign set part P) := fun x y => by
  unfold joinW; rw [h x y, Bool.or_comm (crS set part x y)]
theorem joinW_irr {sign set part : Nat} {P : Rel} (h : IrrP P) (hd : part &&& set = 0) : IrrP (joinW sign set part P) := fun x => by
  have := and_bit hd x
  unfold joinW crS
  rw [h x, Bool.and_comm (set.testBit x), this]; simp
def OkR (s : ByteArray) (g : Nat → Rel → Option (Rel × Nat × Nat)) : Prop := ∀ i P r, SymP P → IrrP P → g i P = some r → SymP r.1 ∧ IrrP r.1 ∧ r.2.1 < 128 ∧ i < r.2.2 ∧ r.2.2 ≤ s.size
theorem loopS_ok {s : ByteArray} {g : Nat → Rel → Option (Rel × Nat × Nat)} (hg : OkR s g) (sign : Nat) : ∀ k i P set r, SymP P → IrrP P → set < 128 → loopS s g sign k i P set = some r → SymP r.1 ∧ IrrP r.1 ∧ r.2.1 < 128 ∧ i < r.2.2 ∧ r.2.2 ≤ s.size := by
  intro k
  induction k with
  | zero => intro i P set r _ _ _ h; cases h
  | succ k ih =>
    intro i P set r h1 h2 h3 h
    unfold loopS at h
    split at h
    · split at h
      · cases h
      · rename_i P' part next he
        obtain ⟨g1, g2, g3, g4, g5⟩ := hg _ _ _ h1 h2 he
        dsimp only at g1 g2 g3 g4 g5
        split at h
        · rename_i hd
          obtain ⟨a1, a2, a3, a4, a5⟩ := ih next _ _ r (joinW_sym g1) (joinW_irr g2 hd) (or_lt128 h3 g3) h
          exact ⟨a1, a2, a3, by omega, a5⟩
        · cases h
    · split at h
      · rename_i hc
        obtain rfl := Option.some.inj h
        exact ⟨h1, h2, h3, by dsimp only; omega, by dsimp only; omega⟩
      · cases h
theorem rdS_ok (s : ByteArray) : ∀ f, OkR s (rdS s f) := by
  intro f
  induction f with
  | zero => intro i P r _ _ h; cases h
  | succ f ih =>
    intro i P r h1 h2 h
    unfold rdS at h
    split at h
    · cases h
    · split at h
      · rename_i hl hd
        obtain rfl := Option.some.inj h
        refine ⟨h1, h2, ?_, by dsimp only; omega, by dsimp only; omega⟩
        exact Nat.lt_of_le_of_lt (Nat.pow_le_pow_right (by omega) (show byteAt s i - 48 ≤ 6 by omega)) (by decide)
      · split at h
        · obtain ⟨a1, a2, a3, a4, a5⟩ := loopS_ok ih _ _ _ _ _ r h1 h2 (by omega) h
          exact ⟨a1, a2, a3, by omega, a5⟩
        · cases h
def befP (v w x y : Nat) : Bool := decide (x < v ∨ x = v ∧ y < w)
def prP (set part : Nat) (P : Rel) (v w : Nat) : Rel := fun x y => P x y || ((crS set part x y && befP v w x y) || (crS set part y x && befP v w y x))
theorem prP_sym {set part : Nat} {P : Rel} (h : SymP P) (v w : Nat) : SymP (prP set part P v w) := fun x y => by
  unfold prP; rw [h x y, Bool.or_comm (crS set part x y && befP v w x y)]
theorem prP_irr {set part : Nat} {P : Rel} (h : IrrP P) (hd : part &&& set = 0) (v w : Nat) : IrrP (prP set part P v w) := fun x => by
  have := and_bit hd x
  unfold prP crS
  rw [h x, Bool.and_comm (set.testBit x), this]; simp
theorem prP_zero (set part : Nat) (P : Rel) : prP set part P 0 0 = P := by
  funext x y; simp [prP, befP]
theorem befP_succ (v u x y : Nat) : befP v (u + 1) x y = (befP v u x y || decide (x = v ∧ y = u)) := by
  unfold befP
  rw [← Bool.decide_or]
  apply decide_eq_decide.2
  omega
theorem prP_add {set part : Nat} {P : Rel} {v u : Nat} (h : crS set part v u = true) : pairAdd (prP set part P v u) v u = prP set part P v (u + 1) := by
  funext x y
  unfold pairAdd prP
  rw [befP_succ, befP_succ]
  by_cases h1 : x = v ∧ y = u
  · obtain ⟨rfl, rfl⟩ := h1
    rw [h]; simp
  · by_cases h2 : x = u ∧ y = v
    · obtain ⟨rfl, rfl⟩ := h2
      rw [h]; simp
    · have h3 : ¬ (y = v ∧ x = u) := fun hh => h2 ⟨hh.2, hh.1⟩
      simp [h1, h2, h3]
theorem prP_skip {set part : Nat} {P : Rel} {v u : Nat} (h : crS set part v u = false) : prP set part P v (u + 1) = prP set part P v u := by
  funext x y
  unfold prP
  rw [befP_succ, befP_succ]
  by_cases h1 : x = v ∧ y = u
  · obtain ⟨rfl, rfl⟩ := h1
    rw [h]
    by_cases h2 : y = x
    · subst h2; rw [h]; simp
    · simp [h2]
  · by_cases h2 : y = v ∧ x = u
    · obtain ⟨rfl, rfl⟩ := h2
      rw [h]; simp [h1]
    · simp [h1, h2]
theorem prP_row {set part : Nat} {P : Rel} {v n : Nat} {x y : Nat} (hx : x < n) (hy : y < n) : prP set part P v n x y = prP set part P (v + 1) 0 x y := by
  have b : ∀ a b, b < n → befP v n a b = befP (v + 1) 0 a b := fun a b hb => by
    unfold befP; apply decide_eq_decide.2; omega
  unfold prP
  rw [b x y hy, b y x hx]
theorem prP_all {set part : Nat} {P : Rel} {n : Nat} {x y : Nat} (hx : x < n) (hy : y < n) : prP set part P n 0 x y = joinW 42 set part P x y := by
  have b : ∀ a b, a < n → befP n 0 a b = true := fun a b ha => by unfold befP; exact decide_eq_true (.inl ha)
  unfold prP joinW
  rw [b x y hx, b y x hy]; simp
end Go.Pw
/- AddEdge, whether the edge is there or not. -/
namespace Go.Proofs.YtoejpckfeflkaaaGreatDoor
open Go Go.RowKit Go.Pw
set_option maxHeartbeats 1000000 in
theorem s_AddEdge2_c (n : Nat) (gv : Value) (P : Nat → Nat → Bool) (v u : Nat) (w : World) (hr : Arr w gv (ints (gRows n P))) (h1 : 1 ≤ n) (hn : n ≤ 7) (hs : SymP P) (hi : IrrP P)
    (hv : v < n) (hu : u < n) (hvu : v ≠ u) :
    Gives Tryz.prog 82 #[.agg #[.int .i64 n, gv], .int .i64 v, .int .i64 u] w (fun x objs => ∃ sv' bb, x = .tuple #[.agg #[.int .i64 n, sv'], .bool bb] ∧ objs = [.row 3 sv' (ints (gRows n (pairAdd P v u)))]) := by
  by_cases hP : P v u = false
  · have := s_AddEdge_c n gv P v u w hr h1 hn hs hi hv hu hvu hP
    exact ⟨this.entry, this.out.mono fun e w' ⟨x, objs, he, ⟨sv', hx, ho⟩, hc⟩ => ⟨x, objs, he, ⟨sv', true, hx, ho⟩, hc⟩⟩
  have hP' : P v u = true := by simpa using hP
  have hg := gRows_isG h1 hn hs hi
  have hlen : (gRows n P).length = n := gRows_length n P
  have hhas := gRows_has hn P hv hu
  have hvu' : (v : Int) ≠ u := by omega
  have he : gRows n (pairAdd P v u) = gRows n P := gRows_congr fun i j _ _ => by
    unfold pairAdd
    by_cases h3 : i = v ∧ j = u
    · obtain ⟨rfl, rfl⟩ := h3; rw [hP']; rfl
    · by_cases h4 : i = u ∧ j = v
      · obtain ⟨rfl, rfl⟩ := h4; rw [hs, hP']; rfl
      · simp [h3, h4]
  rw [he]
  have kE : ∀ sv w', Arr w' sv (ints (gRows n P)) → Pure Tryz.prog 95 #[.agg #[.int .i64 n, sv], .int .i64 v, .int .i64 u] w' (.bool true) := fun sv w' h => by
    have := s_l2Edge_c n sv (gRows n P) v u w' h (by omega) (by omega)
    rw [show hasB ((gRows n P).getD (Int.toNat (v : Int)) 0) (u : Int) = P v u from hhas, hP'] at this; exact this
  refine gives_enter (args := [_, _, _]) en_s_AddEdge Tryz.func82 rfl Tryz.ntmps82 rfl ?_
  repeat' (first | apply pwp_seq | apply pwp_region | (apply px_run; (first | (apply opv_move; first | exact hid_int rfl | exact hid_bool rfl) | (apply opv_assign; first | exact hid_bool rfl) | (apply opv_pick_f <;> rfl) | (apply opv_not <;> rfl) | (apply opv_load_str 0 st_G; rfl; rfl; rfl) | (apply opv_load_str 1 st_G; rfl; rfl; rfl) | (apply opv_load_str 3 st_G; rfl; rfl; rfl) | (apply opv_call; rfl; rfl; exact Cl.stable _ _ _; exact fun w hw => s_l2Pair_c _ _ _ _ _ _ (by first | exact hw.arr (by assumption)) hg (by omega) (by omega) hvu') | (apply opv_call; rfl; rfl; exact Cl.stable _ _ _; exact fun w hw => kE _ _ (by first | exact hw.arr (by assumption)))); rfl; rfl) | apply px_nil | apply qseq_normal | apply qseq_ret | apply pwp_ret | (apply pwp_cond_t; rfl) | (apply px_box; rfl; rfl; rfl; rfl; intro bk) | (apply px_alloc st_G; rfl; rfl; rfl; intro bk) | (apply px_store_str 0 st_G; rfl; rfl; rfl; rfl; rfl; (intro w hw; (first | refine all2 rfl ?_ ?_) <;> (first | rfl | exact stor_row 1 hw rfl)); rfl) | (apply px_store_str 2 st_G; rfl; rfl; rfl; rfl; rfl; (intro w hw; (first | refine all2 rfl ?_ ?_) <;> (first | rfl | exact stor_row 1 hw rfl)); rfl) | (apply px_gives; rfl; rfl; rfl; rfl; rfl; exact fun w hw => s_l2Copy_c _ _ (gRows n P) _ (by first | exact hw.arr (by assumption)) (by omega); rintro _ _ ⟨sc, rfl, rfl⟩))
  refine qbody_cell_tmp 2 rfl st_G rfl rfl rfl rfl ⟨_, ⟨sc, false, rfl, rfl⟩, fun w' h => ?_⟩
  exact Cl.sub (by assumption) (by repeat (first | exact List.Sublist.slnil | exact List.Sublist.refl _ | apply List.Sublist.cons_cons | exact List.sublist_append_left _ _ | exact List.sublist_append_right _ _ | apply List.Sublist.cons))
theorem s_AddEdge3_c (n : Nat) (gv : Value) (P : Nat → Nat → Bool) (v u : Nat) (w : World) (hr : Arr w gv (ints (gRows n P))) (h1 : 1 ≤ n) (hn : n ≤ 7) (hs : SymP P) (hi : IrrP P)
    (hv : v < n) (hu : u < n) (hvu : v ≠ u) :
    Gives Tryz.prog 82 #[.agg #[.int .i64 n, gv], .int .i64 v, .int .i64 u] w (fun x objs => ∃ sv' bb, storable sv' = true ∧ x = .tuple #[.agg #[.int .i64 n, sv'], .bool bb] ∧ objs = [.row 3 sv' (ints (gRows n (pairAdd P v u)))]) := by
  have := s_AddEdge2_c n gv P v u w hr h1 hn hs hi hv hu hvu
  refine ⟨this.entry, this.out.mono fun e w' ⟨x, objs, he, ⟨sv', bb, hx, ho⟩, hc⟩ => ⟨x, objs, he, ⟨sv', bb, ?_, hx, ho⟩, hc⟩⟩
  subst ho
  exact stor_arr (arr_of_row (hc.holds _ (List.mem_singleton_self _)))
theorem s_l2PairNo_c (size : Int) (sv : Value) (rows : List Int) (v : Int) (w : World) (hr : Arr w sv (ints rows)) :
    Pure Tryz.prog 94 #[.agg #[.int .i64 size, sv], .int .i64 v, .int .i64 v] w (.bool false) := by
  refine pure_enter (args := [_, _, _]) en_s_l2Pair Tryz.func94 rfl Tryz.ntmps94 rfl ?_
  repeat' (first | apply pwp_seq | apply pwp_region | (apply px_run; (first | (apply opv_move; first | exact hid_int rfl | exact hid_bool rfl) | (apply opv_assign; first | exact hid_bool rfl) | (apply opv_lss <;> rfl) | (apply opv_geq <;> rfl) | (apply opv_neq <;> rfl) | (apply opv_pick_t <;> rfl) | (apply opv_pick_f <;> rfl) | (apply opv_field fld_G0; rfl) | (apply opv_load_blk 0; (first | with_reducible exact sc_int); rfl; rfl; rfl) | (apply opv_load_str 0 st_G; rfl; rfl; rfl) | (apply opv_call; rfl; rfl; exact Cl.stable _ _ _; exact fun w hw => s_IsGraph_c _ _ rows _ (by first | exact hw.arr (by assumption)))); rfl; rfl) | apply px_nil | (apply px_skip; rfl; rfl) | apply qseq_normal | apply pwp_ret | (apply px_guard_dec; rfl; rfl; rfl; all_goals (intro hc; try (first | contradiction))) | (apply px_box; rfl; rfl; rfl; rfl; intro bk))
  all_goals refine qbody_ret1 (v := .bool _) rfl rfl ⟨by first | rfl | (congr 1; simp_all), fun _ h => h.below⟩
theorem s_AddEdge4_c (n : Nat) (gv : Value) (P : Nat → Nat → Bool) (v u : Int) (w : World) (hr : Arr w gv (ints (gRows n P))) (h1 : 1 ≤ n) (hn : n ≤ 7) (hs : SymP P) (hi : IrrP P)
    (hv : 0 ≤ v ∧ v < n) (hu : 0 ≤ u ∧ u < n) :
    Gives Tryz.prog 82 #[.agg #[.int .i64 n, gv], .int .i64 v, .int .i64 u] w (fun x objs => ∃ sv' bb P', (SymP P' ∧ IrrP P') ∧ storable sv' = true ∧ x = .tuple #[.agg #[.int .i64 n, sv'], .bool bb] ∧ objs = [.row 3 sv' (ints (gRows n P'))]) := by
  obtain ⟨a, rfl⟩ : ∃ a : Nat, v = (a : Int) := ⟨v.toNat, by omega⟩
  obtain ⟨b, rfl⟩ : ∃ b : Nat, u = (b : Int) := ⟨u.toNat, by omega⟩
  by_cases hab : a = b
  case neg =>
    have := s_AddEdge3_c n gv P a b w hr h1 hn hs hi (by omega) (by omega) hab
    refine ⟨this.entry, this.out.mono fun e w' ⟨x, objs, he, ⟨sv', bb, h3, hx, ho⟩, hc⟩ => ⟨x, objs, he, ⟨sv', bb, pairAdd P a b, ⟨fun x y => ?_, fun x => ?_⟩, h3, hx, ho⟩, hc⟩⟩
    · unfold pairAdd
      rw [hs x y]
      congr 1
      rw [Bool.or_comm]
      congr 1
      · exact decide_eq_decide.2 ⟨fun h => ⟨h.2, h.1⟩, fun h => ⟨h.2, h.1⟩⟩
      · exact decide_eq_decide.2 ⟨fun h => ⟨h.2, h.1⟩, fun h => ⟨h.2, h.1⟩⟩
    · unfold pairAdd
      rw [hi x, decide_eq_false (fun h => hab (by omega)), decide_eq_false (fun h => hab (by omega))]; rfl
  subst hab
  have hlen : (gRows n P).length = n := gRows_length n P
  have key : Gives Tryz.prog 82 #[.agg #[.int .i64 n, gv], .int .i64 a, .int .i64 a] w (fun x objs => ∃ sv', x = .tuple #[.agg #[.int .i64 n, sv'], .bool false] ∧ objs = [.row 3 sv' (ints (gRows n P))]) := by
    refine gives_enter (args := [_, _, _]) en_s_AddEdge Tryz.func82 rfl Tryz.ntmps82 rfl ?_
    repeat' (first | apply pwp_seq | apply pwp_region | (apply px_run; (first | (apply opv_move; first | exact hid_int rfl | exact hid_bool rfl) | (apply opv_assign; first | exact hid_bool rfl) | (apply opv_pick_t <;> rfl) | (apply opv_not <;> rfl) | (apply opv_load_str 0 st_G; rfl; rfl; rfl) | (apply opv_load_str 1 st_G; rfl; rfl; rfl) | (apply opv_load_str 3 st_G; rfl; rfl; rfl) | (apply opv_call; rfl; rfl; exact Cl.stable _ _ _; exact fun w hw => s_l2PairNo_c _ _ (gRows n P) _ _ (by first | exact hw.arr (by assumption)))); rfl; rfl) | apply px_nil | (apply px_skip; rfl; rfl) | apply qseq_normal | apply qseq_ret | apply pwp_ret | (apply pwp_cond_t; rfl) | (apply px_box; rfl; rfl; rfl; rfl; intro bk) | (apply px_alloc st_G; rfl; rfl; rfl; intro bk) | (apply px_store_str 0 st_G; rfl; rfl; rfl; rfl; rfl; (intro w hw; (first | refine all2 rfl ?_ ?_) <;> (first | rfl | exact stor_row 1 hw rfl)); rfl) | (apply px_store_str 2 st_G; rfl; rfl; rfl; rfl; rfl; (intro w hw; (first | refine all2 rfl ?_ ?_) <;> (first | rfl | exact stor_row 1 hw rfl)); rfl) | (apply px_gives; rfl; rfl; rfl; rfl; rfl; exact fun w hw => s_l2Copy_c _ _ (gRows n P) _ (by first | exact hw.arr (by assumption)) (by omega); rintro _ _ ⟨sc, rfl, rfl⟩))
    refine qbody_cell_tmp 2 rfl st_G rfl rfl rfl rfl ⟨_, ⟨sc, rfl, rfl⟩, fun w' h => ?_⟩
    exact Cl.sub (by assumption) (by repeat (first | exact List.Sublist.slnil | exact List.Sublist.refl _ | apply List.Sublist.cons_cons | exact List.sublist_append_left _ _ | exact List.sublist_append_right _ _ | apply List.Sublist.cons))
  refine ⟨key.entry, key.out.mono fun e w' ⟨x, objs, he, ⟨sv', hx, ho⟩, hc⟩ => ⟨x, objs, he, ⟨sv', false, P, ⟨hs, hi⟩, ?_, hx, ho⟩, hc⟩⟩
  subst ho
  exact stor_arr (arr_of_row (hc.holds _ (List.mem_singleton_self _)))
end Go.Proofs.YtoejpckfeflkaaaGreatDoor
