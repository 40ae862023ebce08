import Derived.Test.YthbhoofhenmbeaaDoorPwPgc
import Derived.Test.YthbhoofhenmbeaaDoorPwPor
/- The program's reader reads a cograph's text as the cograph; the two answers are one. -/
namespace Go.Pw
open Go Go.RowKit
def relR (r : Nat → Nat) : Rel := fun x y => (r x).testBit y
theorem bit_big {D x : Nat} (hD : D < 128) (hx : ¬ x < 7) : D.testBit x = false :=
  Nat.testBit_lt_two_pow (Nat.lt_of_lt_of_le hD (Nat.pow_le_pow_right (n := 2) (i := 7) (by omega) (by omega)))
theorem joinK_rel {sign D p : Nat} {r : Nat → Nat} (hD : D < 128) (hp : p < 128) (x y : Nat) : relR (joinK sign D p r 7) x y = joinW sign D p (relR r) x y := by
  unfold relR joinK joinW crS
  by_cases hs : sign = 42
  · by_cases hx : x < 7
    · rw [if_pos ⟨hx, hs⟩, Nat.testBit_or, Nat.testBit_or, decide_eq_true hs]
      cases hpx : p.testBit x <;> cases hdx : D.testBit x <;> cases hdy : D.testBit y <;> cases hpy : p.testBit y <;> simp [hdy, hpy]
    · rw [if_neg (fun h => hx h.1), bit_big hD hx, bit_big hp hx]; simp
  · rw [if_neg (fun h => hs h.2), decide_eq_false hs]; simp
theorem loopI_text {s : ByteArray} {g : RSt → Nat × RSt} {T : Nat → ByteArray} {E P0 : Rel} {sign : Nat} : ∀ (L : List Nat) (k j : Nat) (r : Nat → Nat) (D : Nat), GoodL (decide (sign = 42)) E D L →
    (∀ p ∈ L, p < 128 ∧ ∀ i r, AtT s i (T p) → ∃ r', g (i, r, false) = (p, (i + (T p).size, r', false)) ∧ ∀ x y, relR r' x y = (relR r x y || (E x y && (p.testBit x && p.testBit y)))) →
    (∀ x y, relR r x y = onE E P0 D x y) → D < 128 → L.length < k → AtT s j (foldT T L ByteArray.empty ++ rparB) →
    ∃ r', loopI s g sign k (j, r, false) D = (unionL D L, (j + (foldT T L ByteArray.empty).size + 1, r', false)) ∧ ∀ x y, relR r' x y = onE E P0 (unionL D L) x y := by
  intro L
  induction L with
  | nil =>
    intro k j r D _ _ hP _ hk hA
    obtain ⟨k', rfl⟩ : ∃ k', k = k' + 1 := ⟨k - 1, by simp at hk; omega⟩
    have h1 := hA.right.one
    have e0 : (foldT T [] ByteArray.empty).size = 0 := rfl
    rw [e0, Nat.add_zero] at h1
    refine ⟨r, ?_, hP⟩
    have h41 : byteAt s j = 41 := h1.2
    have hn : nextI s (j, r, false) = (byteAt s j, (j + 1, r, false)) := nextI_in (st := (j, r, false)) (by dsimp only; omega)
    rw [loopI, if_neg Bool.false_ne_true, hn, e0]
    dsimp only
    rw [if_neg (by omega)]
    rfl
  | cons p L ih =>
    intro k j r D hG hg hP hD hk hA
    obtain ⟨k', rfl⟩ : ∃ k', k = k' + 1 := ⟨k - 1, by simp at hk; omega⟩
    obtain ⟨hp0, hd, hc, hG'⟩ := hG
    rw [foldT_cons, ByteArray.append_assoc] at hA
    have h1 := hA.left.one
    have hA2 := hA.right
    have es : spB.size = 1 := rfl
    rw [es, ByteArray.append_assoc] at hA2
    obtain ⟨hp7, hgp⟩ := hg p (List.mem_cons_self ..)
    obtain ⟨r1, hg1, hP1⟩ := hgp (j + 1) r hA2.left
    have hA3 := hA2.right
    have hP2 := onE_join (P1 := relR r1) (P0 := P0) hd hc (fun x y => by rw [hP1, hP])
    obtain ⟨r', h2, h3⟩ := ih k' (j + 1 + (T p).size) (joinK sign D p r1 7) (D ||| p) hG' (fun q hq => hg q (List.mem_cons_of_mem _ hq)) (fun x y => by rw [joinK_rel hD hp7, hP2]) (or_lt128 hD hp7) (by simp at hk; omega) hA3
    have h32 : byteAt s j = 32 := h1.2
    have hn : nextI s (j, r, false) = (byteAt s j, (j + 1, r, false)) := nextI_in (st := (j, r, false)) (by dsimp only; omega)
    refine ⟨r', ?_, h3⟩
    rw [loopI, if_neg Bool.false_ne_true, hn]
    dsimp only
    rw [if_pos h32, hg1]
    dsimp only
    have e4 : j + (foldT T (p :: L) ByteArray.empty).size + 1 = j + 1 + (T p).size + (foldT T L ByteArray.empty).size + 1 := by
      rw [foldT_cons, size_cat, size_cat, es]; omega
    rw [h2, e4]
    rfl
theorem setI_text {rows : List Int} {n : Nat} (hg : IsG n rows) (hp : P4f (eN (rowN rows))) (s : ByteArray) : ∀ (c set f i : Nat) (r : Nat → Nat), c ≤ f → cntN set ≤ c → set ≠ 0 → set < 2 ^ n → AtT s i (cotT (rowN rows) (rowN (barL n rows)) n c set) →
    ∃ r', setI s f (i, r, false) = (set, (i + (cotT (rowN rows) (rowN (barL n rows)) n c set).size, r', false)) ∧ ∀ x y, relR r' x y = (relR r x y || (eN (rowN rows) x y && (set.testBit x && set.testBit y))) := by
  have hgr := ng_of hg rfl
  have hbg := bar_isG hg
  have hgs := ng_of hbg rfl
  have h7 := pow_le7 hgr.le
  intro c
  induction c with
  | zero =>
    intro set f i r _ hc h0 hset _
    have := (cnt_pos ⟨set, by omega⟩).2 h0
    dsimp only at this; omega
  | succ c ih =>
    intro set f i r hf hc h0 hset hA
    obtain ⟨f', rfl⟩ : ∃ f', f = f' + 1 := ⟨f - 1, by omega⟩
    have hpos := (cnt_pos ⟨set, by omega⟩).2 h0
    dsimp only at hpos
    rw [cotT] at hA ⊢
    by_cases h1 : cntN set = 1
    · rw [if_pos h1] at hA ⊢
      obtain ⟨a1, a2, a3⟩ := leaf_at (by omega) h1 hA
      obtain ⟨e, _, hl7⟩ := single_set set (by omega) h1
      have hn : nextI s (i, r, false) = (byteAt s i, (i + 1, r, false)) := nextI_in (st := (i, r, false)) (by dsimp only; omega)
      refine ⟨r, ?_, leaf_rel hgr hset h1 (relR r)⟩
      rw [setI, hn]
      dsimp only
      rw [if_neg (by omega), if_neg (fun h => by rcases h with h | h; exact Bool.false_ne_true h; omega), a2, a3, show 48 + lowN set - 48 = lowN set by omega, ← e]
    · rw [if_neg h1] at hA ⊢
      have hcog := cog_parts hgr hgs (fun x y hx hy => bar_eN hg rfl hx hy) hp (eN_sym hg rfl) hset (by omega)
      have key : ∀ (b : Bool) (q : Nat → Nat) (o : UInt8), NG n q → b = decide (o.toNat = 42) → GoodL b (eN (rowN rows)) 0 (partsN q n set 128 set) → (∀ p ∈ partsN q n set 128 set, cntN p < cntN set) →
          AtT s i (foldT (cotT (rowN rows) (rowN (barL n rows)) n c) (partsN q n set 128 set) ⟨#[40, o]⟩ ++ rparB) →
          ∃ r', setI s (f' + 1) (i, r, false) = (set, (i + (foldT (cotT (rowN rows) (rowN (barL n rows)) n c) (partsN q n set 128 set) ⟨#[40, o]⟩ ++ rparB).size, r', false)) ∧ ∀ x y, relR r' x y = (relR r x y || (eN (rowN rows) x y && (set.testBit x && set.testBit y))) := fun b q o hq hb hG hsm hA => by
        have hU := (good_parts hq hset 128 set 0 ⟨SubN.refl _, fun _ _ _ h _ => h⟩ (Nat.le_trans (cntN_le7 _) (by omega)) (fun i hi => by simp at hi) (fun i hi => by simp at hi)).2
        have hin := parts_in hq hset 128 set ⟨SubN.refl _, fun _ _ _ h _ => h⟩
        generalize partsN q n set 128 set = L at *
        rw [foldT_app, ByteArray.append_assoc] at hA
        obtain ⟨b1, b2, b3, b4⟩ := two_at hA.left
        have h40 : byteAt s i = 40 := b2
        have e2 : (ByteArray.mk #[40, o]).size = 2 := rfl
        have hA2 := hA.right
        rw [e2] at hA2
        have hlen := foldT_len (cotT (rowN rows) (rowN (barL n rows)) n c) L
        have hsz := hA2.1
        rw [size_cat] at hsz
        subst hb
        obtain ⟨r', l1, l2⟩ := loopI_text (g := setI s f') (T := cotT (rowN rows) (rowN (barL n rows)) n c) (E := eN (rowN rows)) (P0 := relR r) L (s.size + 1) (i + 2) r 0 hG
          (fun p hp => ⟨Nat.lt_of_lt_of_le (lt_of_sub (hin p hp).1 hset) h7, fun i r hA => ih p f' i r (by omega) (by have := hsm p hp; omega) (hin p hp).2 (lt_of_sub (hin p hp).1 hset) hA⟩)
          (fun x y => by unfold onE; simp) (by omega) (by omega) hA2
        rw [hU, Nat.zero_or] at l1 l2
        refine ⟨r', ?_, l2⟩
        have e3 : rparB.size = 1 := rfl
        have e4 : (foldT (cotT (rowN rows) (rowN (barL n rows)) n c) L ⟨#[40, o]⟩).size = 2 + (foldT (cotT (rowN rows) (rowN (barL n rows)) n c) L ByteArray.empty).size := by rw [foldT_app, size_cat, e2]
        have hn : nextI s (i, r, false) = (byteAt s i, (i + 1, r, false)) := nextI_in (st := (i, r, false)) (by dsimp only; omega)
        have hn2 : nextI s (i + 1, r, false) = (byteAt s (i + 1), (i + 1 + 1, r, false)) := nextI_in (st := (i + 1, r, false)) (by dsimp only; omega)
        rw [setI, hn]
        dsimp only
        rw [if_pos h40, hn2]
        dsimp only
        rw [b4, l1, size_cat, e4, e3]
        congr 2
        omega
      by_cases hone : (partsN (rowN rows) n set 128 set).length = 1
      · rw [if_pos hone] at hA ⊢
        have hG := (good_parts hgs hset 128 set 0 ⟨SubN.refl _, fun _ _ _ h _ => h⟩ (Nat.le_trans (cntN_le7 _) (by omega)) (fun i hi => by simp at hi) (fun i hi => by simp at hi)).1
        have hG' : GoodL true (eN (rowN rows)) 0 (partsN (rowN (barL n rows)) n set 128 set) := GoodL.imp (K := set) (fun x y hx hy hne he => by
          rw [bar_eN hg rfl (has_lt hset hx) (has_lt hset hy)] at he
          rcases coE_false.1 he with h | h
          · exact h
          · exact absurd h hne) _ _ (fun i hi => by simp at hi) (fun p hp => (parts_in hgs hset 128 set ⟨SubN.refl _, fun _ _ _ h _ => h⟩ p hp).1) hG
        exact key true (rowN (barL n rows)) 42 hgs rfl hG' (hcog.1 hone) hA
      · rw [if_neg hone] at hA ⊢
        have hG := (good_parts hgr hset 128 set 0 ⟨SubN.refl _, fun _ _ _ h _ => h⟩ (Nat.le_trans (cntN_le7 _) (by omega)) (fun i hi => by simp at hi) (fun i hi => by simp at hi)).1
        exact key false (rowN rows) 43 hgr rfl hG (hcog.2 hone) hA
end Go.Pw
/- A cograph's text: its length, its digits; the two readers' answers are one. -/
namespace Go.Pw
open Go Go.RowKit
def isDg (b : UInt8) : Bool := decide (48 ≤ b.toNat ∧ b.toNat ≤ 54)
def dgL (l : List UInt8) : Nat := (l.filter isDg).length
def dg (s : ByteArray) : Nat := dgL s.data.toList
theorem dg_cat (a b : ByteArray) : dg (a ++ b) = dg a + dg b := by
  unfold dg dgL
  have h : (a ++ b).data.toList = a.data.toList ++ b.data.toList := by simp [ByteArray.data_append]
  rw [h, List.filter_append, List.length_append]
def digC (s : ByteArray) : Nat → Nat
  | 0 => 0
  | k + 1 => if 48 ≤ byteAt s k ∧ byteAt s k ≤ 54 then digC s k + 1 else digC s k
theorem digC_eq (s : ByteArray) : ∀ k, k ≤ s.size → digC s k = dgL (s.data.toList.take k) := by
  intro k
  induction k with
  | zero => intro _; rfl
  | succ k ih =>
    intro hk
    have h1 : k < s.data.toList.length := hk
    have hb : s.data.toList[k]? = some (s.data.toList.getD k 0) := by rw [List.getElem?_eq_getElem h1, List.getD, List.getElem?_eq_getElem h1]; rfl
    rw [digC, ih (by omega), List.take_add_one, hb]
    unfold dgL
    rw [List.filter_append, List.length_append]
    show (if 48 ≤ (s.data.toList.getD k 0).toNat ∧ (s.data.toList.getD k 0).toNat ≤ 54 then _ else _) = _
    by_cases h : 48 ≤ (s.data.toList.getD k 0).toNat ∧ (s.data.toList.getD k 0).toNat ≤ 54
    · rw [if_pos h]
      have : isDg (s.data.toList.getD k 0) = true := decide_eq_true h
      simp only [Option.toList_some, List.filter_cons, this, if_true, List.filter_nil, List.length_singleton]
    · rw [if_neg h]
      have : isDg (s.data.toList.getD k 0) = false := decide_eq_false h
      simp only [Option.toList_some, List.filter_cons, this, Bool.false_eq_true, if_false, List.filter_nil, List.length_nil, Nat.add_zero]
theorem digC_all (s : ByteArray) : digC s s.size = dg s := by
  rw [digC_eq s s.size (Nat.le_refl _)]
  have : s.data.toList.length = s.size := rfl
  rw [← this, List.take_length]; rfl
theorem digC_le (s : ByteArray) : ∀ k, digC s k ≤ k := by
  intro k
  induction k with
  | zero => exact Nat.le_refl _
  | succ k ih => rw [digC]; split <;> omega
def sumC (L : List Nat) : Nat := (L.map cntN).sum
theorem good_sum {b : Bool} {E : Rel} : ∀ (L : List Nat) (D : Nat), GoodL b E D L → cntN (unionL D L) = cntN D + sumC L
  | [], _, _ => rfl
  | p :: L, D, ⟨_, h2, _, h4⟩ => by
    have h := good_sum L _ h4
    have hd : DisN D p := fun i hi hi' => by
      have := and_bit h2 i
      rw [hi', hi] at this; cases this
    show cntN (unionL (D ||| p) L) = _
    rw [h, cnt_union hd]
    unfold sumC
    rw [List.map_cons, List.sum_cons]; omega
theorem meas_fold {T : Nat → ByteArray} : ∀ (L : List Nat), (∀ p ∈ L, dg (T p) = cntN p ∧ (T p).size + 5 ≤ 6 * cntN p) → dg (foldT T L ByteArray.empty) = sumC L ∧ (foldT T L ByteArray.empty).size + 4 * L.length ≤ 6 * sumC L
  | [], _ => ⟨rfl, Nat.le_refl _⟩
  | p :: L, h => by
    obtain ⟨h1, h2⟩ := meas_fold L (fun q hq => h q (List.mem_cons_of_mem _ hq))
    obtain ⟨h3, h4⟩ := h p (List.mem_cons_self ..)
    have e1 : dg spB = 0 := by decide
    have e2 : spB.size = 1 := rfl
    rw [foldT_cons, dg_cat, dg_cat, size_cat, size_cat, e1, e2, h1, h3]
    unfold sumC
    rw [List.map_cons, List.sum_cons, List.length_cons]
    unfold sumC at h2
    exact ⟨by omega, by omega⟩
theorem leaf_dg : ∀ v : Nat, v < 7 → isDg (UInt8.ofNat (48 + (v : Int)).toNat) = true := by decide
theorem cotT_meas {rows : List Int} {n : Nat} (hg : IsG n rows) (hp : P4f (eN (rowN rows))) : ∀ (c set : Nat), cntN set ≤ c → set ≠ 0 → set < 2 ^ n →
    dg (cotT (rowN rows) (rowN (barL n rows)) n c set) = cntN set ∧ (cotT (rowN rows) (rowN (barL n rows)) n c set).size + 5 ≤ 6 * cntN set := by
  have hgr := ng_of hg rfl
  have hbg := bar_isG hg
  have hgs := ng_of hbg rfl
  have h7 := pow_le7 hgr.le
  intro c
  induction c with
  | zero =>
    intro set hc h0 hset
    have := (cnt_pos ⟨set, by omega⟩).2 h0
    dsimp only at this; omega
  | succ c ih =>
    intro set hc h0 hset
    have hpos := (cnt_pos ⟨set, by omega⟩).2 h0
    dsimp only at hpos
    rw [cotT]
    by_cases h1 : cntN set = 1
    · rw [if_pos h1, h1]
      obtain ⟨_, h2, h3⟩ := single_set set (by omega) h1
      have hs := digsB_size (listS (set : Int))
      rw [h2] at hs ⊢
      have e : digsB [(lowN set : Int)] = ⟨#[UInt8.ofNat (48 + (lowN set : Int)).toNat]⟩ := ByteArray.empty_append
      refine ⟨?_, by rw [hs]; show 1 + 5 ≤ 6 * 1; omega⟩
      rw [e]
      show dgL [_] = 1
      unfold dgL
      rw [List.filter_cons, leaf_dg _ h3]; rfl
    · rw [if_neg h1]
      have hcog := cog_parts hgr hgs (fun x y hx hy => bar_eN hg rfl hx hy) hp (eN_sym hg rfl) hset (by omega)
      have key : ∀ (q : Nat → Nat) (o : ByteArray), NG n q → dg o = 0 → o.size = 2 → (∀ p ∈ partsN q n set 128 set, cntN p < cntN set) →
          dg (foldT (cotT (rowN rows) (rowN (barL n rows)) n c) (partsN q n set 128 set) o ++ rparB) = cntN set ∧ (foldT (cotT (rowN rows) (rowN (barL n rows)) n c) (partsN q n set 128 set) o ++ rparB).size + 5 ≤ 6 * cntN set := fun q o hq ho1 ho2 hsm => by
        have hgp := good_parts hq hset 128 set 0 ⟨SubN.refl _, fun _ _ _ h _ => h⟩ (Nat.le_trans (cntN_le7 _) (by omega)) (fun i hi => by simp at hi) (fun i hi => by simp at hi)
        have hsum := good_sum _ _ hgp.1
        have hU := hgp.2
        rw [hU, Nat.zero_or, cntN_zero, Nat.zero_add] at hsum
        have hin := parts_in hq hset 128 set ⟨SubN.refl _, fun _ _ _ h _ => h⟩
        have hl2 : 2 ≤ (partsN q n set 128 set).length := by
          generalize partsN q n set 128 set = L at *
          match L, hU, hsm with
          | [], hU, _ => exact absurd hU.symm (by rw [Nat.zero_or]; exact h0)
          | [p], hU, hsm =>
            have e : p = set := by have : 0 ||| p = 0 ||| set := hU; rwa [Nat.zero_or, Nat.zero_or] at this
            have := hsm p (List.mem_singleton_self _)
            rw [e] at this; exact absurd this (Nat.lt_irrefl _)
          | _ :: _ :: L, _, _ => simp
        obtain ⟨m1, m2⟩ := meas_fold (T := cotT (rowN rows) (rowN (barL n rows)) n c) (partsN q n set 128 set) (fun p hp => ih p (by have := hsm p hp; omega) (hin p hp).2 (lt_of_sub (hin p hp).1 hset))
        have e1 : dg rparB = 0 := by decide
        have e2 : rparB.size = 1 := rfl
        rw [foldT_app, dg_cat, dg_cat, size_cat, size_cat, e1, e2, ho1, ho2, m1]
        exact ⟨by omega, by omega⟩
      by_cases hone : (partsN (rowN rows) n set 128 set).length = 1
      · rw [if_pos hone]
        exact key (rowN (barL n rows)) lmulB hgs (by decide) rfl (hcog.1 hone)
      · rw [if_neg hone]
        exact key (rowN rows) lparB hgr (by decide) rfl (hcog.2 hone)
theorem cnt_full : ∀ n, n < 8 → cntN (2 ^ n - 1) = n := by decide
theorem full_bit (n x : Nat) : (2 ^ n - 1).testBit x = decide (x < n) := Nat.testBit_two_pow_sub_one n x
/-- s is the text of the cograph. -/
structure AnsT (s : ByteArray) (n : Nat) (rows : List Int) : Prop where
  g : IsG n rows
  p : pathX n rows 4 = none
  t : cotX n rows = s
def gosR (s : ByteArray) : Option (Rel × Nat × Nat) := rdS s 101 0 (fun _ _ => false)
def gosO (s : ByteArray) : Bool := match gosR s with
  | none => false
  | some r => decide (r.2.2 = s.size ∧ r.2.1 = 2 ^ dg s - 1) && (cogb (dg s) (gRows (dg s) r.1) && decide (cotX (dg s) (gRows (dg s) r.1) = s))
def gosB (s : ByteArray) : Bool := decide (1 ≤ dg s ∧ dg s ≤ 7 ∧ s.size ≤ 60) && gosO s
def gosM (s : ByteArray) : List Int := match gosR s with
  | none => []
  | some r => gRows (dg s) r.1
def gosZ (s : ByteArray) : Int := if gosB s = true then dg s else 0
def gosL (s : ByteArray) : List Int := if gosB s = true then gosM s else []
theorem AnsT.facts {s : ByteArray} {n : Nat} {rows : List Int} (h : AnsT s n rows) : 1 ≤ n ∧ n ≤ 7 ∧ dg s = n ∧ s.size ≤ 60 ∧ (∃ P', gosR s = some (P', 2 ^ n - 1, s.size) ∧ gRows n P' = rows) ∧ ∃ r', gocA s = (2 ^ n - 1, (s.size, r', false)) ∧ rowsI n r' = rows := by
  obtain ⟨m, hm, hrl, hn1, hn7⟩ := isG_size h.g
  obtain rfl : n = m := by omega
  have h7 := pow_le7 hn7
  have h2 : 2 ^ 1 ≤ 2 ^ n := Nat.pow_le_pow_right (by omega) hn1
  have hpf := path_none h.g rfl h.p
  have ht : cotT (rowN rows) (rowN (barL n rows)) n 7 (2 ^ n - 1) = s := by
    rw [← h.t]; unfold cotX; rw [if_pos ⟨h.g, h.p⟩]; rfl
  obtain ⟨m1, m2⟩ := cotT_meas h.g hpf 7 (2 ^ n - 1) (cntN_le7 _) (by omega) (by omega)
  rw [ht, cnt_full n (by omega)] at m1 m2
  have hA : AtT s 0 (cotT (rowN rows) (rowN (barL n rows)) n 7 (2 ^ n - 1)) := by rw [ht]; exact AtT.self s
  obtain ⟨P', r1, r2⟩ := rdS_text h.g hpf s 7 (2 ^ n - 1) 101 0 (fun _ _ => false) (by omega) (cntN_le7 _) (by omega) (by omega) hA
  obtain ⟨r', i1, i2⟩ := setI_text h.g hpf s 7 (2 ^ n - 1) 101 0 (fun _ => 0) (by omega) (cntN_le7 _) (by omega) (by omega) hA
  rw [ht, Nat.zero_add] at r1 i1
  have hgr := ng_of h.g rfl
  have hbit : ∀ i u, i < n → u < n → hasB (rows.getD i 0) (u : Nat) = (rowN rows i).testBit u := fun i u _ hu => by
    rw [rowN_eq h.g i]
    have := hgr.lt i
    exact hasB_nat (by omega) (by omega)
  refine ⟨hn1, hn7, m1, by omega, ⟨P', r1, ?_⟩, r', i1, ?_⟩
  · have := rows_gRows h.g rfl
    rw [this]
    refine gRows_congr fun i u hi hu => ?_
    rw [r2, hbit i u hi hu, full_bit, full_bit, decide_eq_true hi, decide_eq_true hu]
    unfold eN; simp
  · have hrow : ∀ i, i < n → r' i = rowN rows i := fun i hi => by
      apply Nat.eq_of_testBit_eq
      intro y
      have := i2 i y
      unfold relR eN at this
      rw [this, full_bit, full_bit, decide_eq_true hi]
      by_cases hy : y < n
      · rw [decide_eq_true hy]; simp
      · rw [decide_eq_false hy]
        have hlt := hgr.lt i
        rw [Nat.testBit_lt_two_pow (Nat.lt_of_lt_of_le hlt (Nat.pow_le_pow_right (by omega) (by omega)))]
        simp
    apply List.ext_getElem
    · rw [rowsI_length]; omega
    · intro i h1 h2
      rw [rowsI_length] at h1
      have e := rowN_eq h.g i
      have e2 : rows.getD i 0 = rows[i] := by simp [List.getD, h2]
      rw [e2] at e
      rw [e]
      simp [rowsI, hrow i h1]
theorem AnsT.impl {s : ByteArray} {n : Nat} {rows : List Int} (h : AnsT s n rows) : gocB s = true ∧ gocN s = n ∧ gocR s = rows := by
  obtain ⟨h1, h2, h3, h4, _, r', h5, h6⟩ := h.facts
  have hN : gocN s = n := by unfold gocN; rw [h5]; exact cnt_full n (by omega)
  have hR : gocR s = rows := by unfold gocR; rw [hN, h5]; exact h6
  refine ⟨?_, hN, hR⟩
  unfold gocB cogb
  rw [hN, hR, h5, decide_eq_true (by omega), decide_eq_true ⟨h.g, h.p⟩, decide_eq_true h.t]; rfl
theorem AnsT.spec {s : ByteArray} {n : Nat} {rows : List Int} (h : AnsT s n rows) : gosB s = true ∧ dg s = n ∧ gosM s = rows := by
  obtain ⟨h1, h2, h3, h4, ⟨P', h5, h6⟩, _⟩ := h.facts
  refine ⟨?_, h3, ?_⟩
  · unfold gosB gosO cogb
    rw [h5, h3]
    dsimp only
    rw [h6, decide_eq_true ⟨h1, h2, h4⟩, decide_eq_true ⟨rfl, rfl⟩, decide_eq_true ⟨h.g, h.p⟩, decide_eq_true h.t]; rfl
  · unfold gosM
    rw [h5, h3]; exact h6
theorem goc_same (s : ByteArray) : gocB s = gosB s ∧ gocZ s = gosZ s ∧ gocL s = gosL s := by
  have i1 : gocB s = true → AnsT s (gocN s) (gocR s) := fun h => by
    unfold gocB cogb at h
    simp only [Bool.and_eq_true, decide_eq_true_eq] at h
    exact ⟨h.2.2.1.1, h.2.2.1.2, h.2.2.2⟩
  have i2 : gosB s = true → ∃ n rows, AnsT s n rows := fun h => by
    unfold gosB gosO cogb at h
    cases hr : gosR s with
    | none => rw [hr] at h; simp at h
    | some r =>
      rw [hr] at h
      simp only [Bool.and_eq_true, decide_eq_true_eq] at h
      exact ⟨_, _, h.2.2.1.1, h.2.2.1.2, h.2.2.2⟩
  by_cases hb : gocB s = true
  · obtain ⟨s1, s2, s3⟩ := (i1 hb).spec
    unfold gocZ gosZ gocL gosL
    rw [hb, s1, if_pos rfl, if_pos rfl, if_pos rfl, if_pos rfl, s2, s3]
    exact ⟨rfl, rfl, rfl⟩
  · have hs : ¬ gosB s = true := fun h => by
      obtain ⟨n, rows, ha⟩ := i2 h
      exact hb ha.impl.1
    unfold gocZ gosZ gocL gosL
    rw [if_neg hb, if_neg hs, if_neg hb, if_neg hs]
    exact ⟨by rw [Bool.not_eq_true] at hb hs; rw [hb, hs], rfl, rfl⟩
end Go.Pw
