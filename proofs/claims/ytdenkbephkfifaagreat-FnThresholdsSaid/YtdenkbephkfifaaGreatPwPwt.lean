/- The plain mathematics of threshold weights. -/
import Derived.Test.YtdenkbephkfifaaGreatPwPcc
import Derived.Test.YtdenkbephkfifaaGreatPwPth
import Derived.Test.YtdenkbephkfifaaGreatPwBool
namespace Go.Pw
open Go

theorem thrR_inv {size : Int} {rows : List Int} {n : Nat} (hg : IsG size rows) (hn : size = n) : ∀ (f S : Nat) (o : List Int) (j : List Bool) (o' : List Int) (j' : List Bool), S < 2 ^ n → (∀ x ∈ o, 0 ≤ x ∧ x < n ∧ S.testBit x.toNat = false) → o.Nodup → o.length = j.length →
    thrR rows f (S : Int) o j = some (o', j') → (∀ x ∈ o', 0 ≤ x ∧ x < n) ∧ o'.Nodup ∧ o'.length = j'.length
  | 0, _, _, _, _, _, _, _, _, _, h => by simp [thrR] at h
  | f + 1, S, o, j, o', j', hS, ho, hd, hl, h => by
    have hng := ng_of hg hn
    have h7 := pow_le7 hng.le
    have hn7 := hng.le
    by_cases h0 : (S : Int) = 0
    · rw [h0, thrR_done] at h
      have h := Option.some.inj h
      have h1 := congrArg Prod.fst h
      have h2 := congrArg Prod.snd h
      dsimp only at h1 h2
      subst h1 h2
      exact ⟨fun x hx => ⟨(ho x hx).1, (ho x hx).2.1⟩, hd, hl⟩
    · by_cases hb : bestU rows (S : Int) 7 < 0
      · rw [thrR_stop h0 hb] at h; cases h
      · rw [thrR_next h0 hb] at h
        obtain ⟨b1, b2, b3⟩ := bestU_range rows (S : Int) 7
        obtain ⟨v, hv⟩ := Int.eq_ofNat_of_zero_le (show 0 ≤ bestU rows (S : Int) 7 by omega)
        rw [hv] at h b2 b3
        have hq := (b3 (by omega)).1
        rw [Int.toNat_natCast, hasB_nat (by omega) (by omega)] at hq
        have hvn := has_lt hS hq
        have hps := pow_sub hq
        have hle := sub_le hps
        have e : (S : Int) - ishl 1 (v : Int) = ((S - 2 ^ v : Nat) : Int) := by rw [ishl_one_nat (by omega)]; omega
        rw [e] at h
        refine thrR_inv hg hn f (S - 2 ^ v) _ _ _ _ (Nat.lt_of_le_of_lt (Nat.sub_le _ _) hS) (fun x hx => ?_) ?_ (by simp [hl]) h
        · rcases List.mem_append.1 hx with hx | hx
          · obtain ⟨x1, x2, x3⟩ := ho x hx
            refine ⟨x1, x2, ?_⟩
            rw [sub_bit (by omega) hps, x3]; rfl
          · have := List.mem_singleton.1 hx
            subst this
            refine ⟨by omega, by omega, ?_⟩
            rw [sub_bit (by omega) hps, Int.toNat_natCast, Nat.testBit_two_pow]; simp
        · refine List.nodup_append.2 ⟨hd, by simp, fun x hx y hy => ?_⟩
          have := List.mem_singleton.1 hy
          subst this
          intro e
          have h3 := (ho x hx).2.2
          rw [e, Int.toNat_natCast, hq] at h3
          cases h3
/-- A threshold order has each vertex at most once. -/
theorem thr_order {size : Int} {rows : List Int} {n : Nat} (hg : IsG size rows) (hn : size = n) {p : List Int × List Bool} (h : thrX size rows = some p) :
    (∀ i, i < (thrO size rows).length → 0 ≤ (thrO size rows).getD i 0 ∧ (thrO size rows).getD i 0 < n) ∧ (∀ i, i < (thrO size rows).length → ∀ k, k < i → (thrO size rows).getD k 0 ≠ (thrO size rows).getD i 0) ∧ (thrO size rows).length = (thrJ size rows).length := by
  obtain ⟨o, j⟩ := p
  have hpos : 0 < 2 ^ n := Nat.pow_pos (by omega)
  have hng := ng_of hg hn
  have hX := h
  rw [thrX_some hg] at hX
  have e : ishl 1 size - 1 = ((2 ^ n - 1 : Nat) : Int) := by rw [hn, ishl_one_nat (by have := hng.le; omega)]; omega
  rw [e] at hX
  obtain ⟨h1, h2, h3⟩ := thrR_inv hg hn 129 (2 ^ n - 1) [] [] o j (by omega) (fun x hx => by cases hx) (by simp) rfl hX
  rw [thrO_some h, thrJ_some h]
  refine ⟨fun i hi => ?_, fun i hi k hk => ?_, by simp [h3]⟩
  · exact h1 _ (List.mem_reverse.1 (getD_mem hi))
  · have hd : o.reverse.Pairwise (fun a b => a ≠ b) := List.pairwise_reverse.2 (h2.imp fun h e => h e.symm)
    have hk' : k < o.reverse.length := by omega
    have := List.pairwise_iff_getElem.1 hd k i hk' hi hk
    rw [show o.reverse.getD k 0 = o.reverse[k] from by simp only [List.getD]; rw [List.getElem?_eq_getElem hk']; rfl, show o.reverse.getD i 0 = o.reverse[i] from by simp only [List.getD]; rw [List.getElem?_eq_getElem hi]; rfl]
    exact this

/-- One more for the first k of an order. -/
def incU (o w : List Int) : Nat → List Int
  | 0 => w
  | k + 1 => (incU o w k).set (o.getD k 0).toNat ((incU o w k).getD (o.getD k 0).toNat 0 + 1)
@[simp] theorem incU_length (o w : List Int) : ∀ k, (incU o w k).length = w.length
  | 0 => rfl
  | k + 1 => by rw [incU, List.length_set, incU_length o w k]
theorem getD_set_int (l : List Int) (i k : Nat) (x : Int) : (l.set i x).getD k 0 = if k = i ∧ i < l.length then x else l.getD k 0 := by
  simp only [List.getD, List.getElem?_set]
  by_cases h : i = k
  · subst h
    by_cases hl : i < l.length
    · simp [hl]
    · simp [hl]
  · rw [if_neg h, if_neg (fun e => h e.1.symm)]
theorem incU_bound (o w : List Int) (B : Int) (hw : ∀ x, 0 ≤ w.getD x 0 ∧ w.getD x 0 ≤ B) : ∀ k x, 0 ≤ (incU o w k).getD x 0 ∧ (incU o w k).getD x 0 ≤ B + k
  | 0, x => by have := hw x; show 0 ≤ w.getD x 0 ∧ w.getD x 0 ≤ B + ((0 : Nat) : Int); omega
  | k + 1, x => by
    have h1 := incU_bound o w B hw k x
    have h2 := incU_bound o w B hw k (o.getD k 0).toNat
    rw [incU, getD_set_int]
    split
    · push_cast; omega
    · push_cast; omega
theorem incU_same (o w : List Int) (x : Nat) : ∀ k, (∀ m, m < k → (o.getD m 0).toNat ≠ x) → (incU o w k).getD x 0 = w.getD x 0
  | 0, _ => rfl
  | k + 1, h => by
    rw [incU, getD_set_int, if_neg (fun e => h k (by omega) e.1.symm)]
    exact incU_same o w x k fun m hm => h m (by omega)
def wtU (n : Nat) (o : List Int) (j : List Bool) : Nat → List Int × Int
  | 0 => (List.replicate n 0, 0)
  | i + 1 => if j.getD i false = true then ((wtU n o j i).1.set (o.getD i 0).toNat ((wtU n o j i).2 + 1), (wtU n o j i).2) else (incU o (wtU n o j i).1 i, (wtU n o j i).2 + 2)
theorem wtU_spec (n : Nat) (o : List Int) (j : List Bool) : ∀ i, (wtU n o j i).1.length = n ∧ (0 ≤ (wtU n o j i).2 ∧ (wtU n o j i).2 ≤ 2 * i) ∧ (∀ x, 0 ≤ (wtU n o j i).1.getD x 0 ∧ (wtU n o j i).1.getD x 0 ≤ 1000 * i * i)
  | 0 => ⟨by simp [wtU], by simp [wtU], fun x => by simp [wtU, List.getD, List.getElem?_replicate]; split <;> simp⟩
  | i + 1 => by
    obtain ⟨h1, h2, h3⟩ := wtU_spec n o j i
    have hq : (1000 : Int) * ((i + 1 : Nat) : Int) * ((i + 1 : Nat) : Int) = 1000 * i * i + 2000 * i + 1000 := by
      push_cast
      rw [Int.mul_assoc, Int.mul_assoc, Int.mul_add, Int.add_mul]
      omega
    unfold wtU
    split
    · refine ⟨by simp [h1], ⟨h2.1, by push_cast; omega⟩, fun x => ?_⟩
      have := h3 x
      rw [getD_set_int]
      split
      · rw [hq]; have := Int.mul_nonneg (show (0 : Int) ≤ 1000 * i by omega) (show (0 : Int) ≤ i by omega); omega
      · rw [hq]; omega
    · refine ⟨by simp [h1], ⟨by omega, by push_cast; omega⟩, fun x => ?_⟩
      have := incU_bound o (wtU n o j i).1 (1000 * i * i) h3 i x
      dsimp only
      rw [hq]; omega
theorem wtU_zero (n : Nat) (o : List Int) (j : List Bool) (x : Nat) : ∀ i, (∀ m, m < i → (o.getD m 0).toNat ≠ x) → (wtU n o j i).1.getD x 0 = 0
  | 0, _ => by simp [wtU, List.getD, List.getElem?_replicate]; split <;> rfl
  | i + 1, h => by
    have ih := wtU_zero n o j x i fun m hm => h m (by omega)
    unfold wtU
    split
    · dsimp only; rw [getD_set_int, if_neg (fun e => h i (by omega) e.1.symm)]; exact ih
    · dsimp only; rw [incU_same _ _ _ _ fun m hm => h m (by omega)]; exact ih
theorem set_same (l : List Int) (i : Nat) (h : l.getD i 0 = 0) (hi : i < l.length) : l.set i 0 = l := by
  apply List.ext_getElem (by simp)
  intro k h1 h2
  rw [List.getElem_set]
  split
  · next e => subst e; simpa [List.getD, hi] using h.symm
  · rfl
def wtW (size : Int) (rows : List Int) : List Int := if (thrX size rows).isSome = true then (wtU size.toNat (thrO size rows) (thrJ size rows) (thrO size rows).length).1 else []
def wtL (size : Int) (rows : List Int) : Int := if (thrX size rows).isSome = true then (wtU size.toNat (thrO size rows) (thrJ size rows) (thrO size rows).length).2 else 0
theorem wtW_length (size : Int) (rows : List Int) : (wtW size rows).length ≤ 7 := by
  unfold wtW
  split
  · next h =>
    have hg : IsG size rows := by
      apply Classical.byContradiction
      intro hg
      rw [thrX_none hg] at h; cases h
    rw [(wtU_spec _ _ _ _).1]
    have := hg.1; omega
  · simp
end Go.Pw
