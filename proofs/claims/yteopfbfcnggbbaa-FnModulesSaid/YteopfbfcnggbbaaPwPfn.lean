/- Modules that meet: union and meet are modules; the least module of a set lies in every module that holds the set. -/
import Derived.Test.YteopfbfcnggbbaaPwPmo
import Derived.Test.YteopfbfcnggbbaaPwPlc
namespace Go.Pw
open Go
theorem modN_or {n : Nat} {r : Nat → Nat} {A B : Nat} (hA : ModN n r A) (hB : ModN n r B) (h : A &&& B ≠ 0) : ModN n r (A ||| B) := by
  obtain ⟨z, hz⟩ := Nat.exists_testBit_of_ne_zero h
  rw [Nat.testBit_and, Bool.and_eq_true] at hz
  have key : ∀ x v, (A ||| B).testBit x = true → v < n → (A ||| B).testBit v = false → (r x).testBit v = (r z).testBit v := fun x v hx hv hn => by
    rw [Nat.testBit_or, Bool.or_eq_true] at hx
    rw [Nat.testBit_or, Bool.or_eq_false_iff] at hn
    rcases hx with hx | hx
    · exact hA.2 x z hx hz.1 v hv hn.1
    · exact hB.2 x z hx hz.2 v hv hn.2
  refine ⟨fun e => ?_, fun x y hx hy v hv hn => by rw [key x v hx hv hn, key y v hy hv hn]⟩
  have : (A ||| B).testBit z = true := by rw [Nat.testBit_or, hz.1]; rfl
  rw [e] at this; simp at this
theorem modN_and {n : Nat} {r : Nat → Nat} {A B : Nat} (hA : ModN n r A) (hB : ModN n r B) (h : A &&& B ≠ 0) : ModN n r (A &&& B) := by
  refine ⟨h, fun x y hx hy v hv hn => ?_⟩
  rw [Nat.testBit_and, Bool.and_eq_true] at hx hy
  rw [Nat.testBit_and, Bool.and_eq_false_iff] at hn
  rcases hn with hn | hn
  · exact hA.2 x y hx.1 hy.1 v hv hn
  · exact hB.2 x y hx.2 hy.2 v hv hn
theorem modP_nat {size : Int} {rows : List Int} {n : Nat} (hg : IsG size rows) (hn : size = n) {M : Nat} (hM : M < 2 ^ n) (h : ModN n (rowN rows) M) : modP size rows (M : Int) := by
  obtain ⟨_, _, _, _, hn7⟩ := isG_size hg
  have h62 : n ≤ 62 := by
    have := hg.1.2
    omega
  refine ⟨⟨hg, by omega, ?_⟩, (modQ_iff hg hn hM).2 h⟩
  rw [hn, ishl_one_nat h62]; omega
theorem mods_meet {size : Int} {rows : List Int} {a b : Int} (hg : IsG size rows) (ha : a ∈ modsL size rows) (hb : b ∈ modsL size rows) (h : iand a b ≠ 0) : modP size rows (ior a b) ∧ modP size rows (iand a b) := by
  obtain ⟨n, hn, hl, hn1, hn7⟩ := isG_size hg
  have h7 := pow_le7 hn7
  obtain ⟨A, rfl, hA, mA⟩ := (mem_modsL hg hn).1 ha
  obtain ⟨B, rfl, hB, mB⟩ := (mem_modsL hg hn).1 hb
  rw [iand_nat (by omega) (by omega)] at h ⊢
  rw [ior_nat (by omega) (by omega)]
  have h0 : A &&& B ≠ 0 := fun e => h (by rw [e]; rfl)
  exact ⟨modP_nat hg hn (Nat.or_lt_two_pow hA hB) (modN_or mA mB h0), modP_nat hg hn (Nat.lt_of_le_of_lt Nat.and_le_left hA) (modN_and mA mB h0)⟩
theorem least_facts {size : Int} {rows : List Int} {n S : Nat} (hg : IsG size rows) (hn : size = n) (hS : S < 2 ^ n) (h0 : S ≠ 0) : leastM size rows S ∈ modsL size rows ∧ iand (leastM size rows S) S = S ∧
    ∀ x ∈ modsL size rows, iand x S = S → iand x (leastM size rows S) = leastM size rows S := by
  obtain ⟨m, hm, hl, hn1, hn7⟩ := isG_size hg
  obtain rfl : n = m := by omega
  have h7 := pow_le7 hn7
  have hng := ng_of hg hn
  have hmod := lmN_mod hng h0 hS
  have hlt := lmN_lt (r := rowN rows) hS n
  have hup := lmN_up (r := rowN rows) (n := n) S n
  have e : leastM size rows (S : Int) = ((lmN (rowN rows) n S n : Nat) : Int) := by
    unfold leastM
    rw [if_pos ⟨⟨hg, by omega, by rw [hn, ishl_one_nat (by omega)]; omega⟩, by omega⟩, hn]; rfl
  have and_sub : ∀ {A B : Nat}, SubN B A → A &&& B = B := fun {A B} h => by
    apply Nat.eq_of_testBit_eq
    intro i
    rw [Nat.testBit_and]
    cases hb : B.testBit i with
    | false => simp
    | true => rw [h i hb]; rfl
  rw [e]
  refine ⟨(mem_modsL hg hn).2 ⟨_, rfl, hlt, hmod⟩, by rw [iand_nat (by omega) (by omega), and_sub hup], fun x hx hxs => ?_⟩
  obtain ⟨M, rfl, hM, mM⟩ := (mem_modsL hg hn).1 hx
  rw [iand_nat (by omega) (by omega)] at hxs
  have hsub : SubN S M := fun i hi => by
    have : (M &&& S).testBit i = true := by rw [show M &&& S = S by omega]; exact hi
    rw [Nat.testBit_and, Bool.and_eq_true] at this; exact this.1
  rw [iand_nat (by omega) (by omega), and_sub (lmN_in hng mM hM hsub n)]
end Go.Pw
