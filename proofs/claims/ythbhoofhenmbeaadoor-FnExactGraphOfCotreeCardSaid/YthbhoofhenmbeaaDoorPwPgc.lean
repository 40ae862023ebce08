/- Both readers read a cograph's text as the cograph. -/
import Derived.Test.YthbhoofhenmbeaaDoorPwPrs
namespace Go.Pw
open Go Go.RowKit
/-- The text t stands in s from place i on. -/
def AtT (s : ByteArray) (i : Nat) (t : ByteArray) : Prop := i + t.size ≤ s.size ∧ ∀ j, j < t.size → byteAt s (i + j) = byteAt t j
theorem byteAt_app (a b : ByteArray) (j : Nat) : byteAt (a ++ b) j = if j < a.size then byteAt a j else byteAt b (j - a.size) := by
  have h : (a ++ b).data.toList = a.data.toList ++ b.data.toList := by simp [ByteArray.data_append]
  have hl : a.data.toList.length = a.size := rfl
  unfold byteAt
  rw [h]
  split
  · rename_i hj
    rw [List.getD, List.getElem?_append_left (by rw [hl]; exact hj)]; rfl
  · rename_i hj
    rw [List.getD, List.getElem?_append_right (by rw [hl]; omega), hl]; rfl
theorem AtT.left {s a b : ByteArray} {i : Nat} (h : AtT s i (a ++ b)) : AtT s i a := by
  have h1 := h.1; rw [size_cat] at h1
  refine ⟨by omega, fun j hj => ?_⟩
  rw [h.2 j (by rw [size_cat]; omega), byteAt_app, if_pos hj]
theorem AtT.right {s a b : ByteArray} {i : Nat} (h : AtT s i (a ++ b)) : AtT s (i + a.size) b := by
  have h1 := h.1; rw [size_cat] at h1
  refine ⟨by omega, fun j hj => ?_⟩
  have := h.2 (a.size + j) (by rw [size_cat]; omega)
  rw [← Nat.add_assoc, byteAt_app, if_neg (by omega), Nat.add_sub_cancel_left] at this
  exact this
theorem AtT.one {s : ByteArray} {i : Nat} {c : UInt8} (h : AtT s i ⟨#[c]⟩) : i < s.size ∧ byteAt s i = c.toNat := by
  have h1 := h.1
  have h2 := h.2 0 (by show 0 < 1; omega)
  have h3 : (ByteArray.mk #[c]).size = 1 := rfl
  exact ⟨by omega, h2⟩
theorem AtT.self (s : ByteArray) : AtT s 0 s := ⟨by omega, fun j _ => by rw [Nat.zero_add]⟩
theorem foldT_app (T : Nat → ByteArray) : ∀ (L : List Nat) (a : ByteArray), foldT T L a = a ++ foldT T L ByteArray.empty := by
  intro L
  induction L with
  | nil => intro a; exact ByteArray.append_empty.symm
  | cons p L ih =>
    intro a
    show foldT T L ((a ++ spB) ++ T p) = a ++ foldT T L ((ByteArray.empty ++ spB) ++ T p)
    rw [ih, ih ((ByteArray.empty ++ spB) ++ T p), ByteArray.empty_append]
    simp only [ByteArray.append_assoc]
theorem foldT_cons (T : Nat → ByteArray) (p : Nat) (L : List Nat) : foldT T (p :: L) ByteArray.empty = spB ++ (T p ++ foldT T L ByteArray.empty) := by
  show foldT T L ((ByteArray.empty ++ spB) ++ T p) = _
  rw [foldT_app, ByteArray.empty_append, ByteArray.append_assoc]
def GoodL (b : Bool) (E : Rel) : Nat → List Nat → Prop
  | _, [] => True
  | D, p :: L => p ≠ 0 ∧ p &&& D = 0 ∧ (∀ x y, D.testBit x = true → p.testBit y = true → E x y = b ∧ E y x = b) ∧ GoodL b E (D ||| p) L
def unionL : Nat → List Nat → Nat
  | D, [] => D
  | D, p :: L => unionL (D ||| p) L
def onE (E P0 : Rel) (U : Nat) : Rel := fun x y => P0 x y || (E x y && (U.testBit x && U.testBit y))
theorem onE_join {E P0 P1 : Rel} {sign D p : Nat} (hd : p &&& D = 0) (hc : ∀ x y, D.testBit x = true → p.testBit y = true → E x y = decide (sign = 42) ∧ E y x = decide (sign = 42))
    (h : ∀ x y, P1 x y = (onE E P0 D x y || (E x y && (p.testBit x && p.testBit y)))) : ∀ x y, joinW sign D p P1 x y = onE E P0 (D ||| p) x y := fun x y => by
  have c1 := hc x y
  have c2 := hc y x
  unfold joinW crS
  rw [h x y]
  unfold onE
  rw [Nat.testBit_or, Nat.testBit_or]
  have d1 := and_bit hd x
  have d2 := and_bit hd y
  generalize decide (sign = 42) = b at *
  generalize P0 x y = q at *
  cases hDx : D.testBit x <;> cases hDy : D.testBit y <;> cases hpx : p.testBit x <;> cases hpy : p.testBit y <;> simp [hDx, hDy, hpx, hpy] at c1 c2 d1 d2 ⊢ <;> simp [c1, c2]
theorem loopS_text {s : ByteArray} {g : Nat → Rel → Option (Rel × Nat × Nat)} {T : Nat → ByteArray} {E P0 : Rel} {sign : Nat} : ∀ (L : List Nat) (k j : Nat) (P : Rel) (D : Nat), GoodL (decide (sign = 42)) E D L →
    (∀ p ∈ L, ∀ i P, AtT s i (T p) → ∃ P', g i P = some (P', p, i + (T p).size) ∧ ∀ x y, P' x y = (P x y || (E x y && (p.testBit x && p.testBit y)))) →
    (∀ x y, P x y = onE E P0 D x y) → L.length < k → AtT s j (foldT T L ByteArray.empty ++ rparB) →
    ∃ P', loopS s g sign k j P D = some (P', unionL D L, j + (foldT T L ByteArray.empty).size + 1) ∧ ∀ x y, P' x y = onE E P0 (unionL D L) x y := by
  intro L
  induction L with
  | nil =>
    intro k j P D _ _ hP hk hA
    obtain ⟨k', rfl⟩ : ∃ k', k = k' + 1 := ⟨k - 1, by simp at hk; omega⟩
    have h1 := hA.right.one
    have e0 : (foldT T [] ByteArray.empty).size = 0 := rfl
    rw [e0, Nat.add_zero] at h1
    refine ⟨P, ?_, hP⟩
    have h41 : byteAt s j = 41 := h1.2
    rw [loopS, if_neg (fun h => by omega), if_pos ⟨h1.1, h41⟩, e0]
    rfl
  | cons p L ih =>
    intro k j P D hG hg hP hk hA
    obtain ⟨k', rfl⟩ : ∃ k', k = k' + 1 := ⟨k - 1, by simp at hk; omega⟩
    obtain ⟨hp0, hd, hc, hG'⟩ := hG
    rw [foldT_cons, ByteArray.append_assoc] at hA
    have h1 := hA.left.one
    have hA2 := hA.right
    have es : spB.size = 1 := rfl
    rw [es, ByteArray.append_assoc] at hA2
    obtain ⟨P1, hg1, hP1⟩ := hg p (List.mem_cons_self ..) (j + 1) P hA2.left
    have hA3 := hA2.right
    have hP2 := onE_join (P1 := P1) (P0 := P0) hd hc (fun x y => by rw [hP1, hP])
    obtain ⟨P', h2, h3⟩ := ih k' (j + 1 + (T p).size) (joinW sign D p P1) (D ||| p) hG' (fun q hq => hg q (List.mem_cons_of_mem _ hq)) hP2 (by simp at hk; omega) hA3
    have h32 : byteAt s j = 32 := h1.2
    refine ⟨P', ?_, h3⟩
    rw [loopS, if_pos ⟨h1.1, h32⟩, hg1]
    show (if p &&& D = 0 then _ else _) = _
    rw [if_pos hd, h2, foldT_cons, size_cat, size_cat, es]
    have : unionL D (p :: L) = unionL (D ||| p) L := rfl
    rw [this]
    congr 3
    omega
theorem good_parts {r : Nat → Nat} {n set : Nat} (hr : NG n r) (hset : set < 2 ^ n) : ∀ f left D, SplitN r left set → cntN left ≤ f → SubN D set → (∀ i, D.testBit i = true → left.testBit i = false) →
    GoodL false (eN r) D (partsN r n set f left) ∧ unionL D (partsN r n set f left) = D ||| left
  | 0, left, D, h, hc, _, _ => by
    have h7 := pow_le7 hr.le
    have hl := lt_of_sub h.1 hset
    have : left = 0 := Classical.byContradiction fun h0 => by
      have := (cnt_pos ⟨left, by omega⟩).2 h0
      dsimp only at this; omega
    subst this
    exact ⟨trivial, (Nat.or_zero D).symm⟩
  | f + 1, left, D, h, hc, hD, hdis => by
    rw [partsN]
    by_cases h0 : left = 0
    · subst h0; rw [if_pos rfl]; exact ⟨trivial, (Nat.or_zero D).symm⟩
    · rw [if_neg h0]
      have hf := part_facts hr hset h h0
      have h7 := pow_le7 hr.le
      have hl := lt_of_sub h.1 hset
      generalize compN r n set (2 ^ lowN left) = p at hf ⊢
      have hor := or_sub (by omega) hf.sub
      have hdis2 : DisN p (left - p) := fun i hi hi' => by rw [sub_bit (by omega) hf.sub, hi] at hi'; simp at hi'
      have hlt : cntN (left - p) < cntN left := cnt_lt (by omega) (fun i hi => by rw [sub_bit (by omega) hf.sub, Bool.and_eq_true] at hi; exact hi.1) (fun e => by
        obtain ⟨i, hi⟩ := Nat.exists_testBit_of_ne_zero hf.pos
        have := hdis2 i hi; rw [e] at this; exact this (hf.sub i hi))
      have ih := good_parts hr hset f (left - p) (D ||| p) hf.next (by omega) (fun i hi => by
        rw [Nat.testBit_or, Bool.or_eq_true] at hi
        rcases hi with hi | hi
        · exact hD i hi
        · exact h.1 i (hf.sub i hi)) (fun i hi => by
        rw [Nat.testBit_or, Bool.or_eq_true] at hi
        rw [sub_bit (by omega) hf.sub]
        rcases hi with hi | hi
        · rw [hdis i hi]; rfl
        · rw [hi]; simp)
      refine ⟨⟨hf.pos, ?_, fun x y hx hy => ?_, ih.1⟩, ?_⟩
      · apply Nat.eq_of_testBit_eq
        intro i
        rw [Nat.testBit_and, Nat.zero_testBit]
        cases hp : p.testBit i with
        | false => rfl
        | true =>
          cases hq : D.testBit i with
          | false => rfl
          | true => have := hdis i hq; rw [hf.sub i hp] at this; cases this
      · have hyl := hf.sub y hy
        have hyx : (r y).testBit x = false := by
          cases hb : (r y).testBit x with
          | false => rfl
          | true => have := h.2 y x hyl (hD x hx) hb; rw [hdis x hx] at this; cases this
        have hxn := has_lt hset (hD x hx)
        have hyn := has_lt hl hyl
        exact ⟨by unfold eN; rw [hr.sym x y hxn hyn]; exact hyx, hyx⟩
      · show unionL (D ||| p) _ = _
        rw [ih.2, Nat.or_assoc, hor]
theorem GoodL.imp {b b' : Bool} {E E' : Rel} {K : Nat} (hE : ∀ x y, K.testBit x = true → K.testBit y = true → x ≠ y → E x y = b → E' x y = b') : ∀ (L : List Nat) (D : Nat), SubN D K → (∀ p ∈ L, SubN p K) → GoodL b E D L → GoodL b' E' D L
  | [], _, _, _, _ => trivial
  | p :: L, D, hD, hL, ⟨h1, h2, h3, h4⟩ => by
    have hp := hL p (List.mem_cons_self ..)
    refine ⟨h1, h2, fun x y hx hy => ?_, GoodL.imp hE L _ (fun i hi => by
      rw [Nat.testBit_or, Bool.or_eq_true] at hi
      rcases hi with hi | hi
      · exact hD i hi
      · exact hp i hi) (fun q hq => hL q (List.mem_cons_of_mem _ hq)) h4⟩
    have hne : x ≠ y := fun e => by
      have := and_bit h2 x
      rw [hx, e, hy] at this; cases this
    obtain ⟨e1, e2⟩ := h3 x y hx hy
    exact ⟨hE x y (hD x hx) (hp y hy) hne e1, hE y x (hp y hy) (hD x hx) (Ne.symm hne) e2⟩
theorem foldT_len (T : Nat → ByteArray) : ∀ (L : List Nat), L.length ≤ (foldT T L ByteArray.empty).size
  | [] => Nat.zero_le _
  | p :: L => by
    have := foldT_len T L
    have es : spB.size = 1 := rfl
    rw [foldT_cons, size_cat, size_cat, es, List.length_cons]; omega
theorem single_set : ∀ S, S < 128 → cntN S = 1 → S = 2 ^ lowN S ∧ listS (S : Int) = [(lowN S : Int)] ∧ lowN S < 7 := by decide +kernel
theorem dig_byte : ∀ v : Nat, v < 7 → (UInt8.ofNat (48 + (v : Int)).toNat).toNat = 48 + v := by decide
theorem leaf_at {s : ByteArray} {i S : Nat} (hS : S < 128) (h1 : cntN S = 1) (h : AtT s i (digsB (listS (S : Int)))) : i < s.size ∧ byteAt s i = 48 + lowN S ∧ (digsB (listS (S : Int))).size = 1 := by
  obtain ⟨_, h2, h3⟩ := single_set S hS h1
  rw [h2] at h ⊢
  have e : digsB [(lowN S : Int)] = ⟨#[UInt8.ofNat (48 + (lowN S : Int)).toNat]⟩ := ByteArray.empty_append
  rw [e] at h ⊢
  have := h.one
  rw [dig_byte _ h3] at this
  exact ⟨this.1, this.2, rfl⟩
theorem two_at {s : ByteArray} {i : Nat} {a b : UInt8} (h : AtT s i ⟨#[a, b]⟩) : i < s.size ∧ byteAt s i = a.toNat ∧ i + 1 < s.size ∧ byteAt s (i + 1) = b.toNat := by
  have h1 := h.1
  have hs : (ByteArray.mk #[a, b]).size = 2 := rfl
  have h2 := h.2 0 (by rw [hs]; omega)
  have h3 := h.2 1 (by rw [hs]; omega)
  exact ⟨by omega, h2, by omega, h3⟩
theorem leaf_rel {r : Nat → Nat} {n S : Nat} (hr : NG n r) (hS : S < 2 ^ n) (h1 : cntN S = 1) (P : Rel) (x y : Nat) : P x y = (P x y || (eN r x y && (S.testBit x && S.testBit y))) := by
  have h7 := pow_le7 hr.le
  obtain ⟨e, _, _⟩ := single_set S (by omega) h1
  cases hx : S.testBit x with
  | false => simp
  | true =>
    cases hy : S.testBit y with
    | false => simp
    | true =>
      have hxn := has_lt hS hx
      rw [e, Nat.testBit_two_pow] at hx hy
      have hx' : lowN S = x := by simpa using hx
      have hy' : lowN S = y := by simpa using hy
      have hi := hr.irr x hxn
      unfold eN
      rw [← hy', hx', hi]; simp
theorem rdS_text {rows : List Int} {n : Nat} (hg : IsG n rows) (hp : P4f (eN (rowN rows))) (s : ByteArray) : ∀ (c set f i : Nat) (P : Rel), c ≤ f → cntN set ≤ c → set ≠ 0 → set < 2 ^ n → AtT s i (cotT (rowN rows) (rowN (barL n rows)) n c set) →
    ∃ P', rdS s f i P = some (P', set, i + (cotT (rowN rows) (rowN (barL n rows)) n c set).size) ∧ ∀ x y, P' x y = (P x y || (eN (rowN rows) x y && (set.testBit x && set.testBit y))) := by
  have hgr := ng_of hg rfl
  have hbg := bar_isG hg
  have hgs := ng_of hbg rfl
  have h7 := pow_le7 hgr.le
  intro c
  induction c with
  | zero =>
    intro set f i P _ hc h0 hset _
    have := (cnt_pos ⟨set, by omega⟩).2 h0
    dsimp only at this; omega
  | succ c ih =>
    intro set f i P hf hc h0 hset hA
    obtain ⟨f', rfl⟩ : ∃ f', f = f' + 1 := ⟨f - 1, by omega⟩
    have hpos := (cnt_pos ⟨set, by omega⟩).2 h0
    dsimp only at hpos
    rw [cotT] at hA ⊢
    by_cases h1 : cntN set = 1
    · rw [if_pos h1] at hA ⊢
      obtain ⟨a1, a2, a3⟩ := leaf_at (by omega) h1 hA
      obtain ⟨e, _, hl7⟩ := single_set set (by omega) h1
      refine ⟨P, ?_, leaf_rel hgr hset h1 P⟩
      rw [rdS, if_neg (by omega), if_pos (by omega), a2, a3, show 48 + lowN set - 48 = lowN set by omega, ← e]
    · rw [if_neg h1] at hA ⊢
      have hcog := cog_parts hgr hgs (fun x y hx hy => bar_eN hg rfl hx hy) hp (eN_sym hg rfl) hset (by omega)
      have key : ∀ (b : Bool) (q : Nat → Nat) (o : UInt8), NG n q → (o.toNat = 43 ∨ o.toNat = 42) → b = decide (o.toNat = 42) → GoodL b (eN (rowN rows)) 0 (partsN q n set 128 set) → (∀ p ∈ partsN q n set 128 set, cntN p < cntN set) →
          AtT s i (foldT (cotT (rowN rows) (rowN (barL n rows)) n c) (partsN q n set 128 set) ⟨#[40, o]⟩ ++ rparB) →
          ∃ P', rdS s (f' + 1) i P = some (P', set, i + (foldT (cotT (rowN rows) (rowN (barL n rows)) n c) (partsN q n set 128 set) ⟨#[40, o]⟩ ++ rparB).size) ∧ ∀ x y, P' x y = (P x y || (eN (rowN rows) x y && (set.testBit x && set.testBit y))) := fun b q o hq ho hb hG hsm hA => by
        have hU := (good_parts hq hset 128 set 0 ⟨SubN.refl _, fun _ _ _ h _ => h⟩ (Nat.le_trans (cntN_le7 _) (by omega)) (fun i hi => by simp at hi) (fun i hi => by simp at hi)).2
        have hin := parts_in hq hset 128 set ⟨SubN.refl _, fun _ _ _ h _ => h⟩
        generalize partsN q n set 128 set = L at *
        rw [foldT_app, ByteArray.append_assoc] at hA
        obtain ⟨b1, b2, b3, b4⟩ := two_at hA.left
        have h40 : byteAt s i = 40 := b2
        have e2 : (ByteArray.mk #[40, o]).size = 2 := rfl
        have hA2 := hA.right
        rw [e2] at hA2
        have hlen := foldT_len (cotT (rowN rows) (rowN (barL n rows)) n c) L
        have hsz := hA2.1
        rw [size_cat] at hsz
        subst hb
        obtain ⟨P', l1, l2⟩ := loopS_text (g := rdS s f') (T := cotT (rowN rows) (rowN (barL n rows)) n c) (E := eN (rowN rows)) (P0 := P) L (s.size + 1) (i + 2) P 0 hG
          (fun p hp i P hA => ih p f' i P (by omega) (by have := hsm p hp; omega) (hin p hp).2 (lt_of_sub (hin p hp).1 hset) hA)
          (fun x y => by unfold onE; simp) (by omega) hA2
        rw [hU, Nat.zero_or] at l1 l2
        refine ⟨P', ?_, l2⟩
        have e3 : rparB.size = 1 := rfl
        have e4 : (foldT (cotT (rowN rows) (rowN (barL n rows)) n c) L ⟨#[40, o]⟩).size = 2 + (foldT (cotT (rowN rows) (rowN (barL n rows)) n c) L ByteArray.empty).size := by rw [foldT_app, size_cat, e2]
        rw [rdS, if_neg (by omega), if_neg (by omega), if_pos ⟨h40, b3, by rw [b4]; exact ho⟩, b4, l1, size_cat, e4, e3]
        congr 3
        omega
      by_cases hone : (partsN (rowN rows) n set 128 set).length = 1
      · rw [if_pos hone] at hA ⊢
        have hG := (good_parts hgs hset 128 set 0 ⟨SubN.refl _, fun _ _ _ h _ => h⟩ (Nat.le_trans (cntN_le7 _) (by omega)) (fun i hi => by simp at hi) (fun i hi => by simp at hi)).1
        have hG' : GoodL true (eN (rowN rows)) 0 (partsN (rowN (barL n rows)) n set 128 set) := GoodL.imp (K := set) (fun x y hx hy hne he => by
          rw [bar_eN hg rfl (has_lt hset hx) (has_lt hset hy)] at he
          rcases coE_false.1 he with h | h
          · exact h
          · exact absurd h hne) _ _ (fun i hi => by simp at hi) (fun p hp => (parts_in hgs hset 128 set ⟨SubN.refl _, fun _ _ _ h _ => h⟩ p hp).1) hG
        exact key true (rowN (barL n rows)) 42 hgs (.inr rfl) rfl hG' (hcog.1 hone) hA
      · rw [if_neg hone] at hA ⊢
        have hG := (good_parts hgr hset 128 set 0 ⟨SubN.refl _, fun _ _ _ h _ => h⟩ (Nat.le_trans (cntN_le7 _) (by omega)) (fun i hi => by simp at hi) (fun i hi => by simp at hi)).1
        exact key false (rowN rows) 43 hgr (.inl rfl) rfl hG (hcog.2 hone) hA
end Go.Pw
