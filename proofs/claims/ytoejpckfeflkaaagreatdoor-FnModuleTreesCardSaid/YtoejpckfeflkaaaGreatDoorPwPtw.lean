/- The plain mathematics of twins taken away, strong modules, first places. -/
import Derived.Test.YtoejpckfeflkaaaGreatDoorPwPcc
namespace Go.Pw
open Go

/-- The place of the first member for which something holds, -1 if there is none. -/
def idxF (p : Int → Bool) : List Int → Int
  | [] => -1
  | y :: r => if p y = true then 0 else if idxF p r < 0 then -1 else idxF p r + 1
theorem idxF_none (p : Int → Bool) : ∀ l : List Int, (∀ i, i < l.length → p (l.getD i 0) = false) → idxF p l = -1
  | [], _ => rfl
  | y :: r, h => by
    have h0 : p y = false := h 0 (by simp)
    have h1 := idxF_none p r fun i hi => h (i + 1) (by simp; omega)
    unfold idxF
    rw [if_neg (by rw [h0]; exact Bool.false_ne_true), h1]; rfl
theorem idxF_some (p : Int → Bool) : ∀ (l : List Int) (k : Nat), k < l.length → p (l.getD k 0) = true → (∀ i, i < k → p (l.getD i 0) = false) → idxF p l = k
  | [], _, h, _, _ => by simp at h
  | y :: r, 0, _, h, _ => by
    have h' : p y = true := h
    unfold idxF; rw [if_pos h']; rfl
  | y :: r, k + 1, hk, h, hb => by
    have h0 : p y = false := hb 0 (by omega)
    have h1 := idxF_some p r k (by simpa using hk) h fun i hi => hb (i + 1) (by omega)
    unfold idxF
    rw [if_neg (by rw [h0]; exact Bool.false_ne_true), h1, if_neg (by omega)]; push_cast; try rfl
theorem idxF_range (p : Int → Bool) (l : List Int) : -1 ≤ idxF p l ∧ idxF p l < l.length := by
  induction l with
  | nil => simp [idxF]
  | cons y r ih =>
    unfold idxF
    simp only [List.length_cons]
    split
    · omega
    · split <;> omega
theorem idxF_find (p : Int → Bool) : ∀ l : List Int, (idxF p l < 0 → l.find? p = none) ∧ (0 ≤ idxF p l → l.find? p = some (l.getD (idxF p l).toNat 0))
  | [] => ⟨fun _ => rfl, fun h => by simp [idxF] at h⟩
  | y :: r => by
    obtain ⟨h1, h2⟩ := idxF_find p r
    have hr := idxF_range p r
    rw [List.find?_cons]
    cases hy : p y with
    | true =>
      have e : idxF p (y :: r) = 0 := by unfold idxF; rw [if_pos hy]
      rw [e]
      exact ⟨fun h => by omega, fun _ => rfl⟩
    | false =>
      have e : idxF p (y :: r) = if idxF p r < 0 then -1 else idxF p r + 1 := by
        rw [idxF, if_neg (by rw [hy]; exact Bool.false_ne_true)]
      by_cases hn : idxF p r < 0
      · rw [if_pos hn] at e
        rw [e]
        exact ⟨fun _ => h1 hn, fun h => by omega⟩
      · rw [if_neg hn] at e
        rw [e]
        refine ⟨fun h => by omega, fun _ => ?_⟩
        have : (idxF p r + 1).toNat = (idxF p r).toNat + 1 := by omega
        rw [this]
        simpa using h2 (by omega)
theorem idxF_any (p : Int → Bool) (l : List Int) : 0 ≤ idxF p l ↔ l.any p = true := by
  induction l with
  | nil => simp [idxF]
  | cons y r ih =>
    have hr := idxF_range p r
    rw [List.any_cons]
    unfold idxF
    cases hy : p y with
    | true => simp
    | false =>
      rw [if_neg Bool.false_ne_true, Bool.false_or, ← ih]
      split <;> omega

/-! Strong modules. -/
def overQ (a b : Int) : Prop := ¬ iand a b = 0 ∧ ¬ iandnot a b = 0 ∧ ¬ iandnot b a = 0
instance (a b : Int) : Decidable (overQ a b) := by unfold overQ; infer_instance
theorem over_iff {A B : Nat} (hA : A < 128) (hB : B < 128) : overQ (A : Int) (B : Int) ↔ ¬ (iand (B : Int) (A : Int) = 0 ∨ iand (B : Int) (A : Int) = B ∨ iand (B : Int) (A : Int) = A) := by
  unfold overQ
  rw [andnot_zero hA, andnot_zero hB, iand_nat (by omega) (by omega), iand_nat (by omega) (by omega), subN_and, subN_and, Nat.and_comm A B]
  have e1 : (((B &&& A : Nat) : Int) = 0) ↔ B &&& A = 0 := by omega
  have e2 : (((B &&& A : Nat) : Int) = (B : Int)) ↔ B &&& A = B := by omega
  have e3 : (((B &&& A : Nat) : Int) = (A : Int)) ↔ B &&& A = A := by omega
  rw [e1, e2, e3]
  constructor
  · rintro ⟨h1, h2, h3⟩ (h | h | h)
    · exact h1 h
    · exact h3 h
    · exact h2 h
  · intro h
    exact ⟨fun e => h (.inl e), fun e => h (.inr (.inr e)), fun e => h (.inr (.inl e))⟩
def strongB (L : List Int) (m : Int) : Bool := !(L.any fun o => decide (overQ o m))
def strongU (L : List Int) (k : Nat) : List Int := (L.take k).filter fun m => strongB L m
theorem strongU_succ (L : List Int) (k : Nat) (hk : k < L.length) : strongU L (k + 1) = if strongB L (L.getD k 0) = true then strongU L k ++ [L.getD k 0] else strongU L k := by
  unfold strongU
  rw [take_snoc hk, List.filter_append, List.filter_cons, List.filter_nil]
  by_cases h : strongB L (L.getD k 0) = true
  · rw [if_pos h, if_pos h]
  · rw [if_neg h, if_neg h, List.append_nil]
theorem strongU_length (L : List Int) (k : Nat) : (strongU L k).length ≤ k := by
  unfold strongU
  refine Nat.le_trans (List.length_filter_le _ _) ?_
  rw [List.length_take]; omega
def strongL (size : Int) (rows : List Int) : List Int := strongU (modsL size rows) (modsL size rows).length
theorem strongL_length (size : Int) (rows : List Int) : (strongL size rows).length ≤ 128 := Nat.le_trans (strongU_length _ _) (modsL_length size rows)
/-- No one of the first k overlaps. -/
def calmU (L : List Int) (m : Int) (k : Nat) : Bool := !((L.take k).any fun o => decide (overQ o m))
theorem calmU_succ (L : List Int) (m : Int) (k : Nat) (hk : k < L.length) : calmU L m (k + 1) = (calmU L m k && !decide (overQ (L.getD k 0) m)) := by
  unfold calmU
  rw [take_snoc hk, List.any_append]
  simp
theorem calmU_all (L : List Int) (m : Int) : calmU L m L.length = strongB L m := by unfold calmU strongB; rw [List.take_length]
theorem modsL_nat {size : Int} {rows : List Int} {x : Int} (h : x ∈ modsL size rows) : ∃ M : Nat, x = M ∧ M < 128 := by
  by_cases hg : IsG size rows
  · obtain ⟨n, hn, _, _, hn7⟩ := isG_size hg
    obtain ⟨M, h1, h2, _⟩ := (mem_modsL hg hn).1 h
    have := pow_le7 hn7
    exact ⟨M, h1, by omega⟩
  · unfold modsL at h; rw [if_neg hg] at h; cases h

/-! Twins taken away. -/
def twinB (r : Nat → Nat) (left v w : Nat) : Prop := w ≠ v ∧ ((r v ^^^ r w) &&& left) ^^^ (((r v ^^^ r w) &&& left) &&& (2 ^ v ||| 2 ^ w)) = 0
instance (r : Nat → Nat) (left v w : Nat) : Decidable (twinB r left v w) := by unfold twinB; infer_instance
def twinV (r : Nat → Nat) (left : Nat) (v : Nat) : Bool := left.testBit v && (List.range 7).any fun w => left.testBit w && decide (twinB r left v w)
theorem pair_bit (v w i : Nat) : (2 ^ v ||| 2 ^ w).testBit i = (decide (v = i) || decide (w = i)) := by rw [Nat.testBit_or, Nat.testBit_two_pow, Nat.testBit_two_pow]
theorem xor_tt (a b l p : Bool) : (Bool.xor a b && l && !p) = false ↔ (a && (l && !p)) = (b && (l && !p)) := by cases a <;> cases b <;> cases l <;> cases p <;> simp
theorem twin_iff {r : Nat → Nat} {left v w : Nat} (hl : left < 128) (hv : left.testBit v = true) (hw : left.testBit w = true) : (((r v ^^^ r w) &&& left) ^^^ (((r v ^^^ r w) &&& left) &&& (2 ^ v ||| 2 ^ w)) = 0) ↔ r v &&& (left - (2 ^ v ||| 2 ^ w)) = r w &&& (left - (2 ^ v ||| 2 ^ w)) := by
  have hsub : SubN (2 ^ v ||| 2 ^ w) left := fun i hi => by
    rw [pair_bit, Bool.or_eq_true, decide_eq_true_eq, decide_eq_true_eq] at hi
    rcases hi with rfl | rfl
    · exact hv
    · exact hw
  have key : ∀ i, (((r v ^^^ r w) &&& left) ^^^ (((r v ^^^ r w) &&& left) &&& (2 ^ v ||| 2 ^ w))).testBit i = (Bool.xor ((r v).testBit i) ((r w).testBit i) && left.testBit i && !(2 ^ v ||| 2 ^ w).testBit i) := fun i => by
    simp only [Nat.testBit_xor, Nat.testBit_and]
    cases (r v).testBit i <;> cases (r w).testBit i <;> cases left.testBit i <;> cases (2 ^ v ||| 2 ^ w).testBit i <;> rfl
  constructor
  · intro h
    apply Nat.eq_of_testBit_eq
    intro i
    have := key i
    rw [h, Nat.zero_testBit] at this
    rw [Nat.testBit_and, Nat.testBit_and, sub_bit hl hsub]
    exact (xor_tt _ _ _ _).1 this.symm
  · intro h
    apply Nat.eq_of_testBit_eq
    intro i
    rw [key, Nat.zero_testBit]
    have := congrArg (fun z => Nat.testBit z i) h
    rw [Nat.testBit_and, Nat.testBit_and, sub_bit hl hsub] at this
    exact (xor_tt _ _ _ _).2 this
/-- The vertices taken, in order; none if none can be taken. -/
def twR (r : Nat → Nat) : Nat → Nat → List Int → Option (List Int)
  | 0, _, _ => none
  | f + 1, left, o => if 1 < cntN left then
      (match (List.range 7).find? (twinV r left) with
      | none => none
      | some v => twR r f (left - 2 ^ v) (o ++ [(v : Int)]))
    else some (o ++ listS (left : Int))
def twX (size : Int) (rows : List Int) : Option (List Int) := if IsG size rows then twR (rowN rows) 128 (2 ^ size.toNat - 1) [] else none
def twL (size : Int) (rows : List Int) : List Int := (twX size rows).getD []
theorem twR_done {r : Nat → Nat} {f left : Nat} {o : List Int} (h : ¬ 1 < cntN left) : twR r (f + 1) left o = some (o ++ listS (left : Int)) := by rw [twR, if_neg h]
theorem twR_none {r : Nat → Nat} {f left : Nat} {o : List Int} (h : 1 < cntN left) (hn : (List.range 7).find? (twinV r left) = none) : twR r (f + 1) left o = none := by rw [twR, if_pos h, hn]
theorem twR_some {r : Nat → Nat} {f left v : Nat} {o : List Int} (h : 1 < cntN left) (hn : (List.range 7).find? (twinV r left) = some v) : twR r (f + 1) left o = twR r f (left - 2 ^ v) (o ++ [(v : Int)]) := by rw [twR, if_pos h, hn]
theorem find_listS {left : Nat} (hl : left < 128) (q : Nat → Bool) (p : Int → Bool) (h : ∀ v : Nat, v < 7 → left.testBit v = true → p (v : Int) = q v) :
    (listS (left : Int)).find? p = ((List.range 7).find? fun v => left.testBit v && q v).map Int.ofNat := by
  rw [listS_nat hl]
  have : ∀ l : List Nat, (∀ v ∈ l, v < 7) → ((l.filter fun v => left.testBit v).map Int.ofNat).find? p = (l.find? fun v => left.testBit v && q v).map Int.ofNat := by
    intro l
    induction l with
    | nil => intro _; rfl
    | cons v l ih =>
      intro hl
      have ih := ih fun x hx => hl x (List.mem_cons_of_mem _ hx)
      have hv := hl v (List.mem_cons_self ..)
      rw [List.find?_cons]
      have h' : left.testBit v = true → p (Int.ofNat v) = q v := h v hv
      cases hb : left.testBit v with
      | true =>
        rw [List.filter_cons_of_pos hb, List.map_cons, List.find?_cons, h' hb, Bool.true_and]
        cases q v with
        | true => rfl
        | false => exact ih
      | false =>
        rw [List.filter_cons_of_neg (by rw [hb]; exact Bool.false_ne_true), Bool.false_and]
        exact ih
  exact this _ fun v hv => List.mem_range.1 hv
theorem any_listS {left : Nat} (hl : left < 128) (p : Int → Bool) (q : Nat → Bool) (h : ∀ v : Nat, v < 7 → left.testBit v = true → p (v : Int) = q v) : (listS (left : Int)).any p = (List.range 7).any fun w => left.testBit w && q w := by
  rw [listS_nat hl, List.any_map, List.any_filter]
  rw [Bool.eq_iff_iff, List.any_eq_true, List.any_eq_true]
  constructor
  · rintro ⟨v, hv, h1⟩
    rw [Bool.and_eq_true] at h1
    refine ⟨v, hv, ?_⟩
    rw [Bool.and_eq_true]
    exact ⟨h1.1, by rw [← h v (List.mem_range.1 hv) h1.1]; exact h1.2⟩
  · rintro ⟨v, hv, h1⟩
    rw [Bool.and_eq_true] at h1
    refine ⟨v, hv, ?_⟩
    rw [Bool.and_eq_true]
    refine ⟨h1.1, ?_⟩
    have := h v (List.mem_range.1 hv) h1.1
    show p (v : Int) = true
    rw [this]; exact h1.2
/-- The program's condition. -/
def twinI (rows : List Int) (set : Int) (v x : Nat) : Prop := ¬ (x : Int) = v ∧ iandnot (iand (ixor (rows.getD v 0) (rows.getD x 0)) set) (ior (ishl 1 v) (ishl 1 x)) = 0
instance (rows : List Int) (set : Int) (v x : Nat) : Decidable (twinI rows set v x) := by unfold twinI; infer_instance
theorem pair_nat {v w : Nat} (hv : v < 7) (hw : w < 7) : ior (ishl 1 (v : Int)) (ishl 1 (w : Int)) = ((2 ^ v ||| 2 ^ w : Nat) : Int) ∧ 2 ^ v ||| 2 ^ w < 128 := by
  have h1 : 2 ^ v < 2 ^ 7 := Nat.pow_lt_pow_right (by omega) hv
  have h2 : 2 ^ w < 2 ^ 7 := Nat.pow_lt_pow_right (by omega) hw
  have h3 := Nat.or_lt_two_pow h1 h2
  refine ⟨?_, by omega⟩
  rw [ishl_one_nat (by omega), ishl_one_nat (by omega), ior_nat (by omega) (by omega)]
theorem twinI_iff {size : Int} {rows : List Int} {n left v x : Nat} (hg : IsG size rows) (hn : size = n) (hl : left < 2 ^ n) (hv : v < 7) (hx : x < 7) : twinI rows (left : Int) v x ↔ twinB (rowN rows) left v x := by
  have hng := ng_of hg hn
  have h7 := pow_le7 hng.le
  have r1 := hng.lt v
  have r2 := hng.lt x
  obtain ⟨p1, p2⟩ := pair_nat hv hx
  have h1 : rowN rows v ^^^ rowN rows x < 2 ^ n := Nat.xor_lt_two_pow r1 r2
  have h2 : (rowN rows v ^^^ rowN rows x) &&& left ≤ left := Nat.and_le_right
  unfold twinI twinB
  rw [rowN_eq hg v, rowN_eq hg x, p1, ixor_nat (by omega) (by omega), iand_nat (by omega) (by omega), iandnot_nat (by omega)]
  constructor
  · rintro ⟨a, b⟩; exact ⟨fun e => a (by rw [e]), Int.ofNat.inj b⟩
  · rintro ⟨a, b⟩; exact ⟨fun e => a (Int.ofNat.inj e), by rw [b]; rfl⟩
/-- The reference's condition. -/
theorem twinS_iff {size : Int} {rows : List Int} {n left v w : Nat} (hg : IsG size rows) (hn : size = n) (hl : left < 2 ^ n) (hv : v < 7) (hw : w < 7) :
    (¬ (v : Int) = w ∧ iand (left : Int) (ior (ishl 1 v) (ishl 1 w)) = ior (ishl 1 v) (ishl 1 w) ∧ iand (rows.getD v 0) ((left : Int) - ior (ishl 1 v) (ishl 1 w)) = iand (rows.getD w 0) ((left : Int) - ior (ishl 1 v) (ishl 1 w))) ↔
      (left.testBit v = true ∧ left.testBit w = true ∧ twinB (rowN rows) left v w) := by
  have hng := ng_of hg hn
  have h7 := pow_le7 hng.le
  have r1 := hng.lt v
  have r2 := hng.lt w
  obtain ⟨p1, p2⟩ := pair_nat hv hw
  rw [p1, iand_nat (by omega) (by omega)]
  have hmem : (((left &&& (2 ^ v ||| 2 ^ w) : Nat) : Int) = ((2 ^ v ||| 2 ^ w : Nat) : Int)) ↔ left.testBit v = true ∧ left.testBit w = true := by
    rw [Int.ofNat_inj]
    constructor
    · intro h
      have hs : SubN (2 ^ v ||| 2 ^ w) left := subN_and.2 (by rw [Nat.and_comm]; exact h)
      exact ⟨hs v (by rw [pair_bit]; simp), hs w (by rw [pair_bit]; simp)⟩
    · rintro ⟨a, b⟩
      rw [Nat.and_comm]
      refine subN_and.1 fun i hi => ?_
      rw [pair_bit, Bool.or_eq_true, decide_eq_true_eq, decide_eq_true_eq] at hi
      rcases hi with rfl | rfl
      · exact a
      · exact b
  rw [hmem]
  constructor
  · rintro ⟨a, ⟨b, c⟩, d⟩
    refine ⟨b, c, fun e => a (by rw [e]), (twin_iff (by omega) b c).2 ?_⟩
    have hle : 2 ^ v ||| 2 ^ w ≤ left := sub_le (fun i hi => by
      rw [pair_bit, Bool.or_eq_true, decide_eq_true_eq, decide_eq_true_eq] at hi
      rcases hi with rfl | rfl
      · exact b
      · exact c)
    have e1 : (left : Int) - ((2 ^ v ||| 2 ^ w : Nat) : Int) = ((left - (2 ^ v ||| 2 ^ w) : Nat) : Int) := by omega
    rw [e1, rowN_eq hg v, rowN_eq hg w, iand_nat (by omega) (by omega), iand_nat (by omega) (by omega)] at d
    exact Int.ofNat.inj d
  · rintro ⟨b, c, a, d⟩
    refine ⟨fun e => a (Int.ofNat.inj e).symm, ⟨b, c⟩, ?_⟩
    have d := (twin_iff (by omega) b c).1 d
    have hle : 2 ^ v ||| 2 ^ w ≤ left := sub_le (fun i hi => by
      rw [pair_bit, Bool.or_eq_true, decide_eq_true_eq, decide_eq_true_eq] at hi
      rcases hi with rfl | rfl
      · exact b
      · exact c)
    have e1 : (left : Int) - ((2 ^ v ||| 2 ^ w : Nat) : Int) = ((left - (2 ^ v ||| 2 ^ w) : Nat) : Int) := by omega
    rw [e1, rowN_eq hg v, rowN_eq hg w, iand_nat (by omega) (by omega), iand_nat (by omega) (by omega), d]
/-- The least twin among the last j vertices. -/
def lastT (p : Nat → Bool) (n j : Nat) : Int := (((List.range' (n - j) j).find? p).map Int.ofNat).getD (-1)
theorem lastT_succ (p : Nat → Bool) (n j : Nat) (h : j < n) : lastT p n (j + 1) = if p (n - 1 - j) = true then ((n - 1 - j : Nat) : Int) else lastT p n j := by
  unfold lastT
  have e : n - (j + 1) = n - 1 - j := by omega
  have e2 : n - 1 - j + 1 = n - j := by omega
  rw [e, List.range'_succ, List.find?_cons, e2]
  cases p (n - 1 - j) <;> rfl
theorem lastT_all (p : Nat → Bool) (n : Nat) : lastT p n n = (((List.range n).find? p).map Int.ofNat).getD (-1) := by
  unfold lastT
  rw [Nat.sub_self, List.range_eq_range']
theorem find_top {left n : Nat} {r : Nat → Nat} (hn : n ≤ 7) (hl : left < 2 ^ n) : (List.range 7).find? (twinV r left) = (List.range n).find? (twinV r left) := by
  have : ∀ m, n ≤ m → (List.range m).find? (twinV r left) = (List.range n).find? (twinV r left) := by
    intro m
    induction m with
    | zero => intro h; obtain rfl : n = 0 := by omega
              rfl
    | succ m ih =>
      intro h
      by_cases e : n = m + 1
      · rw [e]
      · rw [List.range_succ, List.find?_append, ih (by omega)]
        have hf : twinV r left m = false := by
          unfold twinV
          cases hb : left.testBit m with
          | false => rfl
          | true => have := has_lt hl hb; omega
        rw [List.find?_cons, hf]
        simp
  exact this 7 hn
theorem twR_length (r : Nat → Nat) : ∀ (f left : Nat) (o o' : List Int), twR r f left o = some o' → o'.length ≤ o.length + f + 7
  | 0, _, _, _, h => by simp [twR] at h
  | f + 1, left, o, o', h => by
    by_cases hc : 1 < cntN left
    · cases hn : (List.range 7).find? (twinV r left) with
      | none => rw [twR_none hc hn] at h; cases h
      | some v =>
        rw [twR_some hc hn] at h
        have := twR_length r f _ _ _ h
        simp at this
        omega
    · rw [twR_done hc] at h
      have h := Option.some.inj h
      subst h
      have := listS_length (left : Int)
      simp; omega
theorem twL_length (size : Int) (rows : List Int) : (twL size rows).length ≤ 135 := by
  unfold twL
  cases h : twX size rows with
  | none => simp
  | some o =>
    unfold twX at h
    split at h
    · have := twR_length _ _ _ _ _ h
      simp at this ⊢
      omega
    · cases h
/-- Is v a twin of one of the first k? -/
def twinK (r : Nat → Nat) (left v k : Nat) : Bool := (List.range k).any fun w => left.testBit v && (left.testBit w && decide (twinB r left v w))
theorem twinK_succ (r : Nat → Nat) (left v k : Nat) : twinK r left v (k + 1) = (twinK r left v k || (left.testBit v && (left.testBit k && decide (twinB r left v k)))) := by
  unfold twinK
  rw [List.range_succ, List.any_append]
  simp
theorem twinK_all {r : Nat → Nat} {left v n : Nat} (hn : n ≤ 7) (hl : left < 2 ^ n) : twinK r left v n = twinV r left v := by
  unfold twinK twinV
  rw [Bool.eq_iff_iff, Bool.and_eq_true, List.any_eq_true, List.any_eq_true]
  constructor
  · rintro ⟨w, hw, h⟩
    rw [Bool.and_eq_true] at h
    exact ⟨h.1, w, List.mem_range.2 (by have := List.mem_range.1 hw; omega), h.2⟩
  · rintro ⟨h, w, hw, h2⟩
    have hb := h2
    rw [Bool.and_eq_true] at hb
    exact ⟨w, List.mem_range.2 (has_lt hl hb.1), by rw [h, Bool.true_and]; exact h2⟩
end Go.Pw
