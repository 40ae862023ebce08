/- The plain mathematics of parts: what hangs together within a set. -/
import Derived.Test.YtoejpckfeflkaaaGreatDoorPwPmo
namespace Go.Pw
open Go

/-- The union of the rows of a set's members below k. -/
def nbN (r : Nat → Nat) (S : Nat) : Nat → Nat
  | 0 => 0
  | k + 1 => if S.testBit k = true then nbN r S k ||| r k else nbN r S k
theorem nbN_bit (r : Nat → Nat) (S i : Nat) : ∀ k, (nbN r S k).testBit i = true ↔ ∃ v, v < k ∧ S.testBit v = true ∧ (r v).testBit i = true
  | 0 => by simp [nbN]
  | k + 1 => by
    unfold nbN
    split
    · next h =>
      rw [Nat.testBit_or, Bool.or_eq_true, nbN_bit r S i k]
      constructor
      · rintro (⟨v, h1, h2⟩ | h1)
        · exact ⟨v, by omega, h2⟩
        · exact ⟨k, by omega, h, h1⟩
      · rintro ⟨v, h1, h2, h3⟩
        by_cases hv : v < k
        · exact .inl ⟨v, hv, h2, h3⟩
        · obtain rfl : v = k := by omega
          exact .inr h3
    · next h =>
      rw [nbN_bit r S i k]
      constructor
      · rintro ⟨v, h1, h2⟩; exact ⟨v, by omega, h2⟩
      · rintro ⟨v, h1, h2, h3⟩
        by_cases hv : v < k
        · exact ⟨v, hv, h2, h3⟩
        · obtain rfl : v = k := by omega
          exact absurd h2 h
theorem nbN_lt {r : Nat → Nat} {n : Nat} (h : ∀ v, r v < 2 ^ n) (S : Nat) : ∀ k, nbN r S k < 2 ^ n
  | 0 => Nat.pow_pos (by omega)
  | k + 1 => by
    unfold nbN
    split
    · exact Nat.or_lt_two_pow (nbN_lt h S k) (h k)
    · exact nbN_lt h S k
theorem nbN_top {r : Nat → Nat} {S n : Nat} (hS : S < 2 ^ n) : ∀ k, n ≤ k → nbN r S k = nbN r S n
  | 0, h => by obtain rfl : n = 0 := by omega
               rfl
  | k + 1, h => by
    by_cases hk : n = k + 1
    · rw [hk]
    · have : S.testBit k = false := by
        cases hb : S.testBit k with
        | false => rfl
        | true => have := has_lt hS hb; omega
      rw [← nbN_top hS k (by omega), nbN, if_neg (by rw [this]; exact Bool.false_ne_true)]
/-- The neighbours of a set, and the set beside them. -/
def growN (r : Nat → Nat) (n set S : Nat) : Nat := (S ||| nbN r S n) &&& set
theorem growN_bit {r : Nat → Nat} {n set S i : Nat} : (growN r n set S).testBit i = true ↔ set.testBit i = true ∧ (S.testBit i = true ∨ ∃ v, v < n ∧ S.testBit v = true ∧ (r v).testBit i = true) := by
  unfold growN
  rw [Nat.testBit_and, Nat.testBit_or, Bool.and_eq_true, Bool.or_eq_true, nbN_bit]
  exact and_comm
theorem growN_up {r : Nat → Nat} {n set S : Nat} (h : SubN S set) : SubN S (growN r n set S) := fun i hi => growN_bit.2 ⟨h i hi, .inl hi⟩
theorem growN_in {r : Nat → Nat} {n set S : Nat} : SubN (growN r n set S) set := fun _ hi => (growN_bit.1 hi).1
theorem lt_of_sub {A B n : Nat} (h : SubN A B) (hB : B < 2 ^ n) : A < 2 ^ n := by
  have := subN_and.1 h
  have h2 : A &&& B ≤ B := Nat.and_le_right
  omega
def iterN (f : Nat → Nat) : Nat → Nat → Nat
  | 0, S => S
  | t + 1, S => f (iterN f t S)
theorem iterN_fixed {f : Nat → Nat} {S : Nat} {t : Nat} (h : f (iterN f t S) = iterN f t S) : ∀ m, t ≤ m → iterN f m S = iterN f t S
  | 0, hm => by obtain rfl : t = 0 := by omega
                rfl
  | m + 1, hm => by
    by_cases e : t = m + 1
    · rw [e]
    · show f (iterN f m S) = _
      rw [iterN_fixed h m (by omega), h]
section
variable {r : Nat → Nat} {n set S : Nat}
theorem comp_in (h : SubN S set) : ∀ t, SubN (iterN (growN r n set) t S) set
  | 0 => h
  | _ + 1 => growN_in
theorem comp_up (h : SubN S set) : ∀ t, SubN S (iterN (growN r n set) t S)
  | 0 => SubN.refl S
  | t + 1 => (comp_up h t).trans (growN_up (comp_in h t))
theorem comp_grows (hn : n ≤ 7) (hset : set < 2 ^ n) (hS0 : S ≠ 0) (h : SubN S set) : ∀ t, growN r n set (iterN (growN r n set) t S) = iterN (growN r n set) t S ∨ t + 1 ≤ cntN (iterN (growN r n set) t S)
  | 0 => by
    right
    have h7 := pow_le7 hn
    have hl := lt_of_sub h hset
    have := cnt_pos ⟨S, by omega⟩
    exact this.2 hS0
  | t + 1 => by
    rcases comp_grows hn hset hS0 h t with h1 | h1
    · left
      have e : iterN (growN r n set) (t + 1) S = iterN (growN r n set) t S := h1
      rw [e, h1]
    · by_cases h3 : iterN (growN r n set) (t + 1) S = iterN (growN r n set) t S
      · left
        rw [h3]; exact h3
      · right
        have h7 := pow_le7 hn
        have := cnt_lt (A := iterN (growN r n set) t S) (B := iterN (growN r n set) (t + 1) S) (by have := lt_of_sub (comp_in (r := r) (n := n) h (t + 1)) hset; omega) (growN_up (comp_in h t)) (fun e => h3 e.symm)
        omega
/-- What hangs together with some members of a set. -/
def compN (r : Nat → Nat) (n set S : Nat) : Nat := iterN (growN r n set) n S
theorem comp_fixed (hn : n ≤ 7) (hset : set < 2 ^ n) (hS0 : S ≠ 0) (h : SubN S set) : growN r n set (compN r n set S) = compN r n set S := by
  rcases comp_grows (r := r) hn hset hS0 h n with h1 | h1
  · exact h1
  · exfalso
    have h7 := pow_le7 hn
    have hl := lt_of_sub (comp_in (r := r) (n := n) h n) hset
    have := cnt_le ⟨n, by omega⟩ ⟨iterN (growN r n set) n S, by omega⟩ hl
    dsimp only at this
    omega
theorem comp_of_fixed (hn : n ≤ 7) (hset : set < 2 ^ n) (hS0 : S ≠ 0) (h : SubN S set) {t : Nat} (hf : growN r n set (iterN (growN r n set) t S) = iterN (growN r n set) t S) : iterN (growN r n set) t S = compN r n set S := by
  have h1 := iterN_fixed (f := growN r n set) (t := n) (comp_fixed hn hset hS0 h)
  have h2 := iterN_fixed hf
  rcases Nat.le_total t n with hle | hle
  · exact (h2 n hle).symm
  · exact h1 t hle
end
theorem iter_congr {f f' : Nat → Nat} {P : Nat → Prop} {S : Nat} (hP : P S) (hPf : ∀ A, P A → P (f A)) (he : ∀ A, P A → f A = f' A) : ∀ t, iterN f t S = iterN f' t S ∧ P (iterN f t S)
  | 0 => ⟨rfl, hP⟩
  | t + 1 => by
    obtain ⟨h1, h2⟩ := iter_congr hP hPf he t
    refine ⟨?_, hPf _ h2⟩
    show f (iterN f t S) = f' (iterN f' t S)
    rw [he _ h2, h1]
/-- No edges between a part and the rest of a set. -/
def SplitN (r : Nat → Nat) (left set : Nat) : Prop := SubN left set ∧ ∀ x y, left.testBit x = true → set.testBit y = true → (r x).testBit y = true → left.testBit y = true
theorem comp_split {r : Nat → Nat} {n left set S : Nat} (h : SplitN r left set) (hS : SubN S left) : compN r n left S = compN r n set S := by
  refine (iter_congr (P := fun A => SubN A left) hS (fun A _ => growN_in) (fun A hA => ?_) n).1
  apply Nat.eq_of_testBit_eq
  intro i
  rw [Bool.eq_iff_iff, growN_bit, growN_bit]
  constructor
  · rintro ⟨h1, h2⟩; exact ⟨h.1 i h1, h2⟩
  · rintro ⟨h1, h2⟩
    refine ⟨?_, h2⟩
    rcases h2 with h2 | ⟨v, _, h3, h4⟩
    · exact hA i h2
    · exact h.2 v i (hA v h3) h1 h4
theorem sub_bit {A B : Nat} (hA : A < 128) (h : SubN B A) (i : Nat) : (A - B).testBit i = (A.testBit i && !B.testBit i) := by
  have hAB : A &&& B = B := by rw [Nat.and_comm]; exact subN_and.1 h
  have hB : B < 128 := by have h2 : A &&& B ≤ A := Nat.and_le_left; omega
  have h1 := xor_and_nat ⟨A, hA⟩ ⟨B, hB⟩
  dsimp only at h1
  rw [hAB] at h1
  have hx : A ^^^ B = A - B := by omega
  rw [← hx, Nat.testBit_xor]
  cases hb : B.testBit i with
  | false => simp
  | true => rw [h i hb]; rfl
theorem split_next {r : Nat → Nat} {n left set S : Nat} (hn : n ≤ 7) (hr : NG n r) (hset : set < 2 ^ n) (h : SplitN r left set) (hS0 : S ≠ 0) (hS : SubN S left) : SplitN r (left - compN r n left S) set := by
  have hleft := lt_of_sub h.1 hset
  have hcl : SubN (compN r n left S) left := comp_in hS n
  have h7 := pow_le7 hn
  have hl7 : left < 128 := by omega
  have hfx := comp_fixed (r := r) hn hleft hS0 hS
  refine ⟨fun i hi => ?_, fun x y hx hy hxy => ?_⟩
  · rw [sub_bit hl7 hcl, Bool.and_eq_true] at hi; exact h.1 i hi.1
  · rw [sub_bit hl7 hcl, Bool.and_eq_true] at hx ⊢
    have hyl := h.2 x y hx.1 hy hxy
    refine ⟨hyl, ?_⟩
    cases hc : (compN r n left S).testBit y with
    | false => rfl
    | true =>
      exfalso
      have hxn := has_lt hleft hx.1
      have hyn := has_lt hleft hyl
      have : (compN r n left S).testBit x = true := by
        rw [← hfx, growN_bit]
        exact ⟨hx.1, .inr ⟨y, hyn, hc, by rw [hr.sym y x hyn hxn]; exact hxy⟩⟩
      rw [this] at hx
      simp at hx
/-- The least member of a set. -/
def lowN (S : Nat) : Nat := ((List.range 7).filter fun v => S.testBit v).headD 0
theorem low_spec : ∀ S : Fin 128, S.val ≠ 0 → S.val.testBit (lowN S.val) = true ∧ lowN S.val < 7 ∧ iand (S.val : Int) (w64 (-(S.val : Int))) = ((2 ^ lowN S.val : Nat) : Int) := by decide +kernel
theorem low_list {S : Nat} (h : S < 128) : (listS (S : Int)).getD 0 0 = (lowN S : Nat) := by
  rw [listS_nat h]
  unfold lowN
  cases (List.range 7).filter fun v => S.testBit v <;> rfl
/-- The parts of a set, the one with the least vertex first. -/
def partsN (r : Nat → Nat) (n set : Nat) : Nat → Nat → List Nat
  | 0, _ => []
  | f + 1, left => if left = 0 then [] else compN r n set (2 ^ lowN left) :: partsN r n set f (left - compN r n set (2 ^ lowN left))
theorem pow_sub {v S : Nat} (h : S.testBit v = true) : SubN (2 ^ v) S := fun i hi => by
  rw [Nat.testBit_two_pow] at hi
  have : v = i := by simpa using hi
  rw [← this]; exact h
theorem comp_pos {r : Nat → Nat} {n set S : Nat} (h : SubN S set) (h0 : S ≠ 0) : compN r n set S ≠ 0 := ne_zero_of_sub (comp_up h n) h0
theorem sub_le {A B : Nat} (h : SubN A B) : A ≤ B := by
  have := subN_and.1 h
  have h2 : A &&& B ≤ B := Nat.and_le_right
  omega
theorem partsN_length (r : Nat → Nat) (n set : Nat) : ∀ f left, (partsN r n set f left).length ≤ f
  | 0, _ => Nat.le_refl _
  | f + 1, left => by
    unfold partsN
    split
    · simp
    · simp; exact partsN_length r n set f _
def partsL (rows : List Int) (size set : Int) : List Int := (partsN (rowN rows) size.toNat set.toNat 128 set.toNat).map Int.ofNat
theorem nbr_nat {size : Int} {rows : List Int} {n : Nat} (hg : IsG size rows) (hn : size = n) {S : Nat} (hS : S < 2 ^ n) : nbr rows (S : Int) = (nbN (rowN rows) S n : Nat) := by
  have hng := ng_of hg hn
  have h7 := pow_le7 hng.le
  have key : ∀ k, k ≤ 7 → nbrL rows (listU (S : Int) k) = (nbN (rowN rows) S k : Nat) := by
    intro k
    induction k with
    | zero => intro _; rfl
    | succ k ih =>
      intro hk
      have ih := ih (by omega)
      have h1 := nbN_lt hng.lt S k
      have h2 := hng.lt k
      rw [listU_succ, hasB_nat (by omega) (by omega)]
      show _ = ((if S.testBit k = true then nbN (rowN rows) S k ||| rowN rows k else nbN (rowN rows) S k : Nat) : Int)
      split
      · rw [nbrL_snoc, ih, Int.toNat_natCast, rowN_eq hg k, ior_nat (by omega) (by omega)]
      · exact ih
  unfold nbr
  rw [listS_eq (by omega), key 7 (by omega), nbN_top hS 7 hng.le]
theorem grow_nat {size : Int} {rows : List Int} {n : Nat} (hg : IsG size rows) (hn : size = n) {S set : Nat} (hS : S < 2 ^ n) (hset : set < 2 ^ n) :
    iand (ior (S : Int) (nbr rows (S : Int))) (set : Int) = (growN (rowN rows) n set S : Nat) := by
  have hng := ng_of hg hn
  have h7 := pow_le7 hng.le
  have h1 := nbN_lt hng.lt S n
  have h2 := Nat.or_lt_two_pow hS h1
  rw [nbr_nat hg hn hS, ior_nat (by omega) (by omega), iand_nat (by omega) (by omega)]; rfl
/-- The reference's way round a set. -/
def arU (r : Nat → Nat) (S : Nat) (k : Nat) : Nat := S ||| nbN r S k
theorem arU_succ (r : Nat → Nat) (S k : Nat) : arU r S (k + 1) = if S.testBit k = true then arU r S k ||| r k else arU r S k := by
  unfold arU
  rw [nbN]
  split
  · rw [Nat.or_assoc]
  · rfl
theorem arU_zero (r : Nat → Nat) (S : Nat) : arU r S 0 = S := by unfold arU nbN; simp
theorem arU_lt {r : Nat → Nat} {n S : Nat} (h : ∀ v, r v < 2 ^ n) (hS : S < 2 ^ n) (k : Nat) : arU r S k < 2 ^ n := Nat.or_lt_two_pow hS (nbN_lt h S k)
theorem sub_nat {A B : Nat} (hA : A < 128) (h : SubN B A) : iandnot (A : Int) (B : Int) = ((A - B : Nat) : Int) := by
  have hAB : A &&& B = B := by rw [Nat.and_comm]; exact subN_and.1 h
  have hB : B < 128 := by have h2 : A &&& B ≤ A := Nat.and_le_left; omega
  have h1 := xor_and_nat ⟨A, hA⟩ ⟨B, hB⟩
  dsimp only at h1
  rw [iandnot_nat (by omega), hAB]
  rw [hAB] at h1
  omega
end Go.Pw
