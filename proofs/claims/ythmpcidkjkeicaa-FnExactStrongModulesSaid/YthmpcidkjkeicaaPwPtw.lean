/- The plain mathematics of twins taken away, strong modules, first places. -/
import Derived.Test.YthmpcidkjkeicaaPwPcc
namespace Go.Pw
open Go

/-- The place of the first member for which something holds, -1 if there is none. -/
def idxF (p : Int → Bool) : List Int → Int
  | [] => -1
  | y :: r => if p y = true then 0 else if idxF p r < 0 then -1 else idxF p r + 1
theorem idxF_none (p : Int → Bool) : ∀ l : List Int, (∀ i, i < l.length → p (l.getD i 0) = false) → idxF p l = -1
  | [], _ => rfl
  | y :: r, h => by
    have h0 : p y = false := h 0 (by simp)
    have h1 := idxF_none p r fun i hi => h (i + 1) (by simp; omega)
    unfold idxF
    rw [if_neg (by rw [h0]; exact Bool.false_ne_true), h1]; rfl
theorem idxF_some (p : Int → Bool) : ∀ (l : List Int) (k : Nat), k < l.length → p (l.getD k 0) = true → (∀ i, i < k → p (l.getD i 0) = false) → idxF p l = k
  | [], _, h, _, _ => by simp at h
  | y :: r, 0, _, h, _ => by
    have h' : p y = true := h
    unfold idxF; rw [if_pos h']; rfl
  | y :: r, k + 1, hk, h, hb => by
    have h0 : p y = false := hb 0 (by omega)
    have h1 := idxF_some p r k (by simpa using hk) h fun i hi => hb (i + 1) (by omega)
    unfold idxF
    rw [if_neg (by rw [h0]; exact Bool.false_ne_true), h1, if_neg (by omega)]; push_cast; try rfl
theorem idxF_range (p : Int → Bool) (l : List Int) : -1 ≤ idxF p l ∧ idxF p l < l.length := by
  induction l with
  | nil => simp [idxF]
  | cons y r ih =>
    unfold idxF
    simp only [List.length_cons]
    split
    · omega
    · split <;> omega
theorem idxF_find (p : Int → Bool) : ∀ l : List Int, (idxF p l < 0 → l.find? p = none) ∧ (0 ≤ idxF p l → l.find? p = some (l.getD (idxF p l).toNat 0))
  | [] => ⟨fun _ => rfl, fun h => by simp [idxF] at h⟩
  | y :: r => by
    obtain ⟨h1, h2⟩ := idxF_find p r
    have hr := idxF_range p r
    rw [List.find?_cons]
    cases hy : p y with
    | true =>
      have e : idxF p (y :: r) = 0 := by unfold idxF; rw [if_pos hy]
      rw [e]
      exact ⟨fun h => by omega, fun _ => rfl⟩
    | false =>
      have e : idxF p (y :: r) = if idxF p r < 0 then -1 else idxF p r + 1 := by
        rw [idxF, if_neg (by rw [hy]; exact Bool.false_ne_true)]
      by_cases hn : idxF p r < 0
      · rw [if_pos hn] at e
        rw [e]
        exact ⟨fun _ => h1 hn, fun h => by omega⟩
      · rw [if_neg hn] at e
        rw [e]
        refine ⟨fun h => by omega, fun _ => ?_⟩
        have : (idxF p r + 1).toNat = (idxF p r).toNat + 1 := by omega
        rw [this]
        simpa using h2 (by omega)
theorem idxF_any (p : Int → Bool) (l : List Int) : 0 ≤ idxF p l ↔ l.any p = true := by
  induction l with
  | nil => simp [idxF]
  | cons y r ih =>
    have hr := idxF_range p r
    rw [List.any_cons]
    unfold idxF
    cases hy : p y with
    | true => simp
    | false =>
      rw [if_neg Bool.false_ne_true, Bool.false_or, ← ih]
      split <;> omega

/-! Strong modules. -/
def overQ (a b : Int) : Prop := ¬ iand a b = 0 ∧ ¬ iandnot a b = 0 ∧ ¬ iandnot b a = 0
instance (a b : Int) : Decidable (overQ a b) := by unfold overQ; infer_instance
theorem over_iff {A B : Nat} (hA : A < 128) (hB : B < 128) : overQ (A : Int) (B : Int) ↔ ¬ (iand (B : Int) (A : Int) = 0 ∨ iand (B : Int) (A : Int) = B ∨ iand (B : Int) (A : Int) = A) := by
  unfold overQ
  rw [andnot_zero hA, andnot_zero hB, iand_nat (by omega) (by omega), iand_nat (by omega) (by omega), subN_and, subN_and, Nat.and_comm A B]
  have e1 : (((B &&& A : Nat) : Int) = 0) ↔ B &&& A = 0 := by omega
  have e2 : (((B &&& A : Nat) : Int) = (B : Int)) ↔ B &&& A = B := by omega
  have e3 : (((B &&& A : Nat) : Int) = (A : Int)) ↔ B &&& A = A := by omega
  rw [e1, e2, e3]
  constructor
  · rintro ⟨h1, h2, h3⟩ (h | h | h)
    · exact h1 h
    · exact h3 h
    · exact h2 h
  · intro h
    exact ⟨fun e => h (.inl e), fun e => h (.inr (.inr e)), fun e => h (.inr (.inl e))⟩
def strongB (L : List Int) (m : Int) : Bool := !(L.any fun o => decide (overQ o m))
def strongU (L : List Int) (k : Nat) : List Int := (L.take k).filter fun m => strongB L m
theorem strongU_succ (L : List Int) (k : Nat) (hk : k < L.length) : strongU L (k + 1) = if strongB L (L.getD k 0) = true then strongU L k ++ [L.getD k 0] else strongU L k := by
  unfold strongU
  rw [take_snoc hk, List.filter_append, List.filter_cons, List.filter_nil]
  by_cases h : strongB L (L.getD k 0) = true
  · rw [if_pos h, if_pos h]
  · rw [if_neg h, if_neg h, List.append_nil]
theorem strongU_length (L : List Int) (k : Nat) : (strongU L k).length ≤ k := by
  unfold strongU
  refine Nat.le_trans (List.length_filter_le _ _) ?_
  rw [List.length_take]; omega
def strongL (size : Int) (rows : List Int) : List Int := strongU (modsL size rows) (modsL size rows).length
theorem strongL_length (size : Int) (rows : List Int) : (strongL size rows).length ≤ 128 := Nat.le_trans (strongU_length _ _) (modsL_length size rows)
/-- No one of the first k overlaps. -/
def calmU (L : List Int) (m : Int) (k : Nat) : Bool := !((L.take k).any fun o => decide (overQ o m))
theorem calmU_succ (L : List Int) (m : Int) (k : Nat) (hk : k < L.length) : calmU L m (k + 1) = (calmU L m k && !decide (overQ (L.getD k 0) m)) := by
  unfold calmU
  rw [take_snoc hk, List.any_append]
  simp
theorem calmU_all (L : List Int) (m : Int) : calmU L m L.length = strongB L m := by unfold calmU strongB; rw [List.take_length]
theorem modsL_nat {size : Int} {rows : List Int} {x : Int} (h : x ∈ modsL size rows) : ∃ M : Nat, x = M ∧ M < 128 := by
  by_cases hg : IsG size rows
  · obtain ⟨n, hn, _, _, hn7⟩ := isG_size hg
    obtain ⟨M, h1, h2, _⟩ := (mem_modsL hg hn).1 h
    have := pow_le7 hn7
    exact ⟨M, h1, by omega⟩
  · unfold modsL at h; rw [if_neg hg] at h; cases h

/-! Twins taken away. -/
def twinB (r : Nat → Nat) (left v w : Nat) : Prop := w ≠ v ∧ ((r v ^^^ r w) &&& left) ^^^ (((r v ^^^ r w) &&& left) &&& (2 ^ v ||| 2 ^ w)) = 0
instance (r : Nat → Nat) (left v w : Nat) : Decidable (twinB r left v w) := by unfold twinB; infer_instance
def twinV (r : Nat → Nat) (left : Nat) (v : Nat) : Bool := left.testBit v && (List.range 7).any fun w => left.testBit w && decide (twinB r left v w)
theorem pair_bit (v w i : Nat) : (2 ^ v ||| 2 ^ w).testBit i = (decide (v = i) || decide (w = i)) := by rw [Nat.testBit_or, Nat.testBit_two_pow, Nat.testBit_two_pow]
theorem xor_tt (a b l p : Bool) : (Bool.xor a b && l && !p) = false ↔ (a && (l && !p)) = (b && (l && !p)) := by cases a <;> cases b <;> cases l <;> cases p <;> simp
theorem twin_iff {r : Nat → Nat} {left v w : Nat} (hl : left < 128) (hv : left.testBit v = true) (hw : left.testBit w = true) : (((r v ^^^ r w) &&& left) ^^^ (((r v ^^^ r w) &&& left) &&& (2 ^ v ||| 2 ^ w)) = 0) ↔ r v &&& (left - (2 ^ v ||| 2 ^ w)) = r w &&& (left - (2 ^ v ||| 2 ^ w)) := by
  have hsub : SubN (2 ^ v ||| 2 ^ w) left := fun i hi => by
    rw [pair_bit, Bool.or_eq_true, decide_eq_true_eq, decide_eq_true_eq] at hi
    rcases hi with rfl | rfl
    · exact hv
    · exact hw
  have key : ∀ i, (((r v ^^^ r w) &&& left) ^^^ (((r v ^^^ r w) &&& left) &&& (2 ^ v ||| 2 ^ w))).testBit i = (Bool.xor ((r v).testBit i) ((r w).testBit i) && left.testBit i && !(2 ^ v ||| 2 ^ w).testBit i) := fun i => by
    simp only [Nat.testBit_xor, Nat.testBit_and]
    cases (r v).testBit i <;> cases (r w).testBit i <;> cases left.testBit i <;> cases (2 ^ v ||| 2 ^ w).testBit i <;> rfl
  constructor
  · intro h
    apply Nat.eq_of_testBit_eq
    intro i
    have := key i
    rw [h, Nat.zero_testBit] at this
    rw [Nat.testBit_and, Nat.testBit_and, sub_bit hl hsub]
    exact (xor_tt _ _ _ _).1 this.symm
  · intro h
    apply Nat.eq_of_testBit_eq
    intro i
    rw [key, Nat.zero_testBit]
    have := congrArg (fun z => Nat.testBit z i) h
    rw [Nat.testBit_and, Nat.testBit_and, sub_bit hl hsub] at this
    exact (xor_tt _ _ _ _).2 this
/-- The vertices taken, in order; none if none can be taken. -/
def twR (r : Nat → Nat) : Nat → Nat → List Int → Option (List Int)
  | 0, _, _ => none
  | f + 1, left, o => if 1 < cntN left then
      (match (List.range 7).find? (twinV r left) with
      | none => none
      | some v => twR r f (left - 2 ^ v) (o ++ [(v : Int)]))
    else some (o ++ listS (left : Int))
def twX (size : Int) (rows : List Int) : Option (List Int) := if IsG size rows then twR (rowN rows) 128 (2 ^ size.toNat - 1) [] else none
def twL (size : Int) (rows : List Int) : List Int := (twX size rows).getD []
theorem twR_done {r : Nat → Nat} {f left : Nat} {o : List Int} (h : ¬ 1 < cntN left) : twR r (f + 1) left o = some (o ++ listS (left : Int)) := by rw [twR, if_neg h]
theorem twR_none {r : Nat → Nat} {f left : Nat} {o : List Int} (h : 1 < cntN left) (hn : (List.range 7).find? (twinV r left) = none) : twR r (f + 1) left o = none := by rw [twR, if_pos h, hn]
theorem twR_some {r : Nat → Nat} {f left v : Nat} {o : List Int} (h : 1 < cntN left) (hn : (List.range 7).find? (twinV r left) = some v) : twR r (f + 1) left o = twR r f (left - 2 ^ v) (o ++ [(v : Int)]) := by rw [twR, if_pos h, hn]
theorem find_listS {left : Nat} (hl : left < 128) (q : Nat → Bool) (p : Int → Bool) (h : ∀ v : Nat, v < 7 → left.testBit v = true → p (v : Int) = q v) :
    (listS (left : Int)).find? p = ((List.range 7).find? fun v => left.testBit v && q v).map Int.ofNat := by
  rw [listS_nat hl]
  have : ∀ l : List Nat, (∀ v ∈ l, v < 7) → ((l.filter fun v => left.testBit v).map Int.ofNat).find? p = (l.find? fun v => left.testBit v && q v).map Int.ofNat := by
    intro l
    induction l with
    | nil => intro _; rfl
    | cons v l ih =>
      intro hl
      have ih := ih fun x hx => hl x (List.mem_cons_of_mem _ hx)
      have hv := hl v (List.mem_cons_self ..)
      rw [List.find?_cons]
      have h' : left.testBit v = true → p (Int.ofNat v) = q v := h v hv
      cases hb : left.testBit v with
      | true =>
        rw [List.filter_cons_of_pos hb, List.map_cons, List.find?_cons, h' hb, Bool.true_and]
        cases q v with
        | true => rfl
        | false => exact ih
      | false =>
        rw [List.filter_cons_of_neg (by rw [hb]; exact Bool.false_ne_true), Bool.false_and]
        exact ih
  exact this _ fun v hv => List.mem_range.1 hv
end Go.Pw
