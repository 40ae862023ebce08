/- The plain mathematics: graphs of at most seven vertices as rows of bits. -/
import Derived.Test.YtoejpckfeflkaaaGreatDoorPwOps
namespace Go.Pw
open Go

/-- Has a set a vertex? -/
@[irreducible] def hasB (s v : Int) : Bool := decide (iand (ishr s v) 1 = 1)
theorem hasB_def (s v : Int) : hasB s v = decide (iand (ishr s v) 1 = 1) := by unfold hasB; rfl

theorem shl1 {n : Int} (h : 0 ≤ n ∧ n ≤ 7) : ishl 1 n = 2 ^ n.toNat ∧ 1 ≤ ishl 1 n ∧ ishl 1 n ≤ 128 := by
  obtain ⟨m, rfl⟩ := Int.eq_ofNat_of_zero_le (show 0 ≤ n by omega)
  have : m = 0 ∨ m = 1 ∨ m = 2 ∨ m = 3 ∨ m = 4 ∨ m = 5 ∨ m = 6 ∨ m = 7 := by omega
  rcases this with rfl | rfl | rfl | rfl | rfl | rfl | rfl | rfl <;> decide

def okRow (size : Int) (rows : List Int) (v : Nat) : Prop := (0 ≤ rows.getD v 0 ∧ rows.getD v 0 ≤ ishl 1 size - 1) ∧ hasB (rows.getD v 0) v = false
def okSym (rows : List Int) (v w : Nat) : Prop := hasB (rows.getD v 0) w = hasB (rows.getD w 0) v
def IsG (size : Int) (rows : List Int) : Prop := (1 ≤ size ∧ size ≤ 7) ∧ (rows.length : Int) = size ∧ (∀ v, v < rows.length → okRow size rows v) ∧ ∀ v, v < rows.length → ∀ u, u < v → okSym rows v u
instance (size : Int) (rows : List Int) (v : Nat) : Decidable (okRow size rows v) := by unfold okRow; infer_instance
instance (rows : List Int) (v u : Nat) : Decidable (okSym rows v u) := by unfold okSym; infer_instance
instance (size : Int) (rows : List Int) : Decidable (IsG size rows) := by unfold IsG; infer_instance

theorem w64_small {n : Int} (h : 0 ≤ n ∧ n ≤ 9223372036854775807) : w64 n = n := w64_in ⟨by omega, h.2⟩
theorem iand_one (x : Int) : iand x 1 = 0 ∨ iand x 1 = 1 := by
  have h : (BitVec.ofInt 64 x &&& BitVec.ofInt 64 1).toNat ≤ 1 := by
    rw [BitVec.toNat_and]
    exact Nat.le_trans Nat.and_le_right (by decide)
  unfold iand
  rw [w64_small ⟨by omega, by omega⟩]
  omega
theorem hasB_iff {s v : Int} : hasB s v = true ↔ iand (ishr s v) 1 = 1 := by rw [hasB_def]; simp
theorem hasB_iff0 {s v : Int} : hasB s v = false ↔ iand (ishr s v) 1 = 0 := by
  rw [hasB_def]; have := iand_one (ishr s v); simp; omega

/-- The reference's condition on a row. -/
def rowS (size : Int) (rows : List Int) (v : Nat) : Prop := (0 ≤ rows.getD v 0 ∧ rows.getD v 0 < ishl 1 size) ∧ hasB (rows.getD v 0) v = false ∧
  ∀ u, u < rows.length → hasB (rows.getD v 0) u = true → (0 ≤ rows.getD u 0 ∧ rows.getD u 0 < ishl 1 size) ∧ hasB (rows.getD u 0) v = true
theorem isG_of_rowS {size : Int} {rows : List Int} (h1 : 1 ≤ size ∧ size ≤ 7) (h2 : (rows.length : Int) = size) (h : ∀ v, v < rows.length → rowS size rows v) : IsG size rows := by
  refine ⟨h1, h2, fun v hv => ⟨⟨(h v hv).1.1, by have := (h v hv).1.2; omega⟩, (h v hv).2.1⟩, fun v hv u hu => ?_⟩
  unfold okSym
  have a := (h v hv).2.2 u (by omega)
  have b := (h u (by omega)).2.2 v hv
  cases h3 : hasB (rows.getD v 0) u <;> cases h4 : hasB (rows.getD u 0) v <;> first | rfl | skip
  · rw [(b h4).2] at h3; cases h3
  · rw [(a h3).2] at h4; cases h4
theorem rowS_of_isG {size : Int} {rows : List Int} (h : IsG size rows) : ∀ v, v < rows.length → rowS size rows v := by
  obtain ⟨h1, h2, h3, h4⟩ := h
  refine fun v hv => ⟨⟨(h3 v hv).1.1, by have := (h3 v hv).1.2; omega⟩, (h3 v hv).2, fun u hu hb => ⟨⟨(h3 u hu).1.1, by have := (h3 u hu).1.2; omega⟩, ?_⟩⟩
  rcases Nat.lt_trichotomy u v with hlt | rfl | hlt
  · have := h4 v hv u hlt; unfold okSym at this; rw [← this]; exact hb
  · rw [(h3 u hu).2] at hb; cases hb
  · have := h4 u hu v hlt; unfold okSym at this; rw [this]; exact hb

/-! The bits of natural numbers. -/
theorem ofInt_nat (a : Nat) : BitVec.ofInt 64 (a : Int) = BitVec.ofNat 64 a := by
  apply BitVec.eq_of_toNat_eq; simp
theorem toNat_nat {a : Nat} (h : a < 9223372036854775808) : (BitVec.ofInt 64 (a : Int)).toNat = a := by
  rw [ofInt_nat, BitVec.toNat_ofNat, Nat.mod_eq_of_lt (by omega)]
theorem iand_nat {a b : Nat} (ha : a < 9223372036854775808) (hb : b < 9223372036854775808) : iand a b = ((a &&& b : Nat) : Int) := by
  have h : a &&& b ≤ a := Nat.and_le_left
  unfold iand; rw [BitVec.toNat_and, toNat_nat ha, toNat_nat hb, w64_small ⟨by omega, by omega⟩]
theorem ior_nat {a b : Nat} (ha : a < 9223372036854775808) (hb : b < 9223372036854775808) : ior a b = ((a ||| b : Nat) : Int) := by
  have h : a ||| b < 2 ^ 63 := Nat.or_lt_two_pow (by omega) (by omega)
  unfold ior; rw [BitVec.toNat_or, toNat_nat ha, toNat_nat hb, w64_small ⟨by omega, by omega⟩]
theorem ixor_nat {a b : Nat} (ha : a < 9223372036854775808) (hb : b < 9223372036854775808) : ixor a b = ((a ^^^ b : Nat) : Int) := by
  have h : a ^^^ b < 2 ^ 63 := Nat.xor_lt_two_pow (by omega) (by omega)
  unfold ixor; rw [BitVec.toNat_xor, toNat_nat ha, toNat_nat hb, w64_small ⟨by omega, by omega⟩]
theorem and_not_nat {a b : Nat} (ha : a < 9223372036854775808) : (BitVec.ofNat 64 a &&& ~~~ BitVec.ofNat 64 b).toNat = a ^^^ (a &&& b) := by
  apply Nat.eq_of_testBit_eq
  intro i
  rw [BitVec.toNat_and, Nat.testBit_and, Nat.testBit_xor, Nat.testBit_and, BitVec.testBit_toNat, BitVec.testBit_toNat, BitVec.getLsbD_not, BitVec.getLsbD_ofNat, BitVec.getLsbD_ofNat]
  by_cases hi : i < 64
  · simp [hi]; cases a.testBit i <;> cases b.testBit i <;> rfl
  · have : a.testBit i = false := Nat.testBit_lt_two_pow (Nat.lt_of_lt_of_le ha (by
      have : 2 ^ 63 ≤ 2 ^ i := Nat.pow_le_pow_right (by omega) (by omega)
      omega))
    simp [hi, this]
theorem iandnot_nat {a b : Nat} (ha : a < 9223372036854775808) : iandnot a b = ((a ^^^ (a &&& b) : Nat) : Int) := by
  have h1 : a &&& b ≤ a := Nat.and_le_left
  have h : a ^^^ (a &&& b) < 2 ^ 63 := Nat.xor_lt_two_pow (by omega) (by omega)
  unfold iandnot; rw [ofInt_nat, ofInt_nat, and_not_nat ha, w64_small ⟨by omega, by omega⟩]
theorem ishr_nat (a v : Nat) (hv : v ≤ 63) : ishr a v = ((a >>> v : Nat) : Int) := by
  unfold ishr
  rw [Int.toNat_natCast, Nat.min_eq_left (by omega), Nat.shiftRight_eq_div_pow]
  rw [Int.fdiv_eq_ediv_of_nonneg _ (by exact_mod_cast Nat.zero_le _)]
  norm_cast
theorem hasB_nat {a v : Nat} (ha : a < 9223372036854775808) (hv : v ≤ 63) : hasB a v = a.testBit v := by
  rw [hasB_def, ishr_nat a v hv]
  have h1 : a >>> v ≤ a := Nat.shiftRight_le a v
  have := iand_nat (a := a >>> v) (b := 1) (by omega) (by omega)
  rw [show ((1 : Nat) : Int) = 1 from rfl] at this
  rw [this, Nat.testBit, Nat.and_comm]
  rcases Nat.mod_two_eq_zero_or_one (a >>> v) with h | h <;> simp [Nat.one_and_eq_mod_two, h]
theorem ishl_one_nat {v : Nat} (hv : v ≤ 62) : ishl 1 v = ((2 ^ v : Nat) : Int) := by
  unfold ishl
  rw [Int.toNat_natCast, Nat.min_eq_left (by omega), Int.one_mul]
  have h : 2 ^ v ≤ 2 ^ 62 := Nat.pow_le_pow_right (by omega) hv
  have h2 : ((2 : Int) ^ v) = ((2 ^ v : Nat) : Int) := by push_cast; rfl
  rw [h2]
  generalize 2 ^ v = p at h
  exact w64_small ⟨by omega, by omega⟩

/-! Sets of vertices as lists. -/
def listS (s : Int) : List Int := if 0 ≤ s ∧ s ≤ 127 then ((List.range 7).filter fun v => hasB s (v : Nat)).map Int.ofNat else []
def listU (s : Int) (k : Nat) : List Int := ((List.range k).filter fun v => hasB s (v : Nat)).map Int.ofNat
theorem listU_succ (s : Int) (k : Nat) : listU s (k + 1) = if hasB s k = true then listU s k ++ [(k : Int)] else listU s k := by
  unfold listU
  rw [List.range_succ, List.filter_append, List.map_append]
  cases h : hasB s k <;> simp [h]
theorem listU_length (s : Int) (k : Nat) : (listU s k).length ≤ k := by
  unfold listU
  rw [List.length_map]
  exact Nat.le_trans (List.length_filter_le _ _) (by simp)
theorem listS_eq {s : Int} (h : 0 ≤ s ∧ s ≤ 127) : listS s = listU s 7 := by simp [listS, h, listU]
theorem mem_listU {s : Int} {k : Nat} {x : Int} : x ∈ listU s k ↔ ∃ v : Nat, x = v ∧ v < k ∧ hasB s v = true := by
  unfold listU
  simp only [List.mem_map, List.mem_filter, List.mem_range]
  constructor
  · rintro ⟨v, ⟨h1, h2⟩, rfl⟩; exact ⟨v, rfl, h1, h2⟩
  · rintro ⟨v, rfl, h1, h2⟩; exact ⟨v, ⟨h1, h2⟩, rfl⟩
theorem ret_iff {q p : Prop} {_i : Decidable q} {_j : Decidable p} (h : q ↔ p) : Value.bool (decide q) = Value.bool (decide p) := by
  congr 1; exact decide_eq_decide.2 h

theorem listS_length (s : Int) : (listS s).length ≤ 7 := by
  unfold listS
  split
  · exact listU_length s 7
  · simp
theorem mem_listS {s x : Int} : x ∈ listS s ↔ (0 ≤ s ∧ s ≤ 127) ∧ ∃ v : Nat, x = v ∧ v < 7 ∧ hasB s v = true := by
  by_cases h : 0 ≤ s ∧ s ≤ 127
  · rw [listS_eq h, mem_listU]; simp [h]
  · simp [listS, h]
theorem isG_size {size : Int} {rows : List Int} (h : IsG size rows) : ∃ n : Nat, size = n ∧ rows.length = n ∧ 1 ≤ n ∧ n ≤ 7 := by
  obtain ⟨h1, h2, _⟩ := h
  exact ⟨rows.length, by omega, rfl, by omega, by omega⟩
theorem has_lt {s v n : Nat} (hs : s < 2 ^ n) (h : s.testBit v = true) : v < n := by
  rcases Nat.lt_or_ge v n with h1 | h1
  · exact h1
  · rw [Nat.testBit_lt_two_pow (Nat.lt_of_lt_of_le hs (Nat.pow_le_pow_right (by omega) h1))] at h; cases h
theorem pow_le7 {n : Nat} (h : n ≤ 7) : 2 ^ n ≤ 128 := Nat.pow_le_pow_right (by omega) h
/-- A set of a graph's vertices as a natural number. -/
theorem set_nat {s size : Int} {n : Nat} (hn : size = n) (hn7 : n ≤ 7) (hs : 0 ≤ s ∧ s < ishl 1 size) : ∃ S : Nat, s = S ∧ S < 2 ^ n ∧ S < 128 := by
  obtain ⟨S, rfl⟩ := Int.eq_ofNat_of_zero_le hs.1
  have h2 := hs.2
  rw [hn, ishl_one_nat (by omega)] at h2
  have := pow_le7 hn7
  generalize 2 ^ n = p at *
  exact ⟨S, rfl, by omega, by omega⟩
theorem listS_lt {size : Int} {rows : List Int} {s : Int} (hg : IsG size rows) (hs : 0 ≤ s ∧ s < ishl 1 size) : ∀ x ∈ listS s, 0 ≤ x ∧ x < rows.length := by
  intro x hx
  obtain ⟨_, v, rfl, hv, hb⟩ := mem_listS.1 hx
  obtain ⟨n, hn, hl, _, hn7⟩ := isG_size hg
  obtain ⟨S, rfl, hS, hS'⟩ := set_nat hn hn7 hs
  rw [hasB_nat (by omega) (by omega)] at hb
  have := has_lt hS hb
  omega
/-- The union of the rows of a set. -/
def nbrL (rows : List Int) (l : List Int) : Int := l.foldl (fun o v => ior o (rows.getD v.toNat 0)) 0
def nbr (rows : List Int) (s : Int) : Int := nbrL rows (listS s)
theorem nbrL_snoc (rows l : List Int) (x : Int) : nbrL rows (l ++ [x]) = ior (nbrL rows l) (rows.getD x.toNat 0) := by simp [nbrL]
theorem take_snoc {l : List Int} {k : Nat} (h : k < l.length) : l.take (k + 1) = l.take k ++ [l.getD k 0] := by
  rw [List.take_succ_eq_append_getElem h]; simp [List.getD, h]

/-- A row of a valid graph as a natural number. -/
theorem row_nat {size : Int} {rows : List Int} {n : Nat} (hg : IsG size rows) (hn : size = n) (v : Nat) : ∃ R : Nat, rows.getD v 0 = R ∧ R < 2 ^ n ∧ R < 128 := by
  obtain ⟨m, hm, hl, hm1, hm7⟩ := isG_size hg
  obtain rfl : m = n := by omega
  by_cases hv : v < rows.length
  · obtain ⟨⟨h1, h2⟩, _⟩ := hg.2.2.1 v hv
    exact set_nat hn hm7 ⟨h1, by omega⟩
  · refine ⟨0, by simp [List.getD, hv], Nat.pow_pos (by omega), by omega⟩

/-- Independent sets. -/
def indepP (size : Int) (rows : List Int) (s : Int) : Prop := IsG size rows ∧ (0 ≤ s ∧ s < ishl 1 size) ∧ ∀ v, v < rows.length → hasB s (v : Nat) = true → iand (rows.getD v 0) s = 0
instance (size : Int) (rows : List Int) (s : Int) : Decidable (indepP size rows s) := by unfold indepP; infer_instance
theorem or_and_zero {a b c : Nat} : (a ||| b) &&& c = 0 ↔ a &&& c = 0 ∧ b &&& c = 0 := by
  rw [Nat.and_or_distrib_right, Nat.or_eq_zero_iff]
theorem nbrL_nat {size : Int} {rows : List Int} {n : Nat} (hg : IsG size rows) (hn : size = n) (_hn7 : n ≤ 7) (S : Nat) (hS : S < 128) : ∀ l : List Int, ∃ N : Nat, nbrL rows l = N ∧ N < 2 ^ n ∧ N < 128 ∧ (N &&& S = 0 ↔ ∀ x ∈ l, iand (rows.getD x.toNat 0) S = 0) := by
  intro l
  generalize hr : l.reverse = r
  induction r generalizing l with
  | nil => obtain rfl : l = [] := by simpa using hr
           exact ⟨0, rfl, Nat.pow_pos (by omega), by omega, by simp⟩
  | cons x r ih =>
    have hl : l = r.reverse ++ [x] := by rw [← List.reverse_reverse l, hr]; simp
    subst hl
    obtain ⟨N, h1, h2, h3, h4⟩ := ih r.reverse (by simp)
    obtain ⟨R, h5, h6, h7⟩ := row_nat hg hn x.toNat
    refine ⟨N ||| R, by rw [nbrL_snoc, h1, h5, ior_nat (by omega) (by omega)], Nat.or_lt_two_pow h2 h6, ?_, ?_⟩
    · have := Nat.or_lt_two_pow (n := 7) (x := N) (y := R) (by omega) (by omega); omega
    · rw [or_and_zero, h4]
      have h8 : iand (rows.getD x.toNat 0) S = ((R &&& S : Nat) : Int) := by rw [h5, iand_nat (by omega) (by omega)]
      constructor
      · rintro ⟨a, b⟩ y hy
        rcases List.mem_append.1 hy with hy | hy
        · exact a y hy
        · obtain rfl := List.mem_singleton.1 hy; rw [h8, b]; rfl
      · intro a
        refine ⟨fun y hy => a y (List.mem_append_left _ hy), ?_⟩
        have := a x (List.mem_append_right _ (List.mem_singleton_self x))
        rw [h8] at this; omega
theorem indep_iff {size : Int} {rows : List Int} {s : Int} (hg : IsG size rows) (hs : 0 ≤ s ∧ s < ishl 1 size) : iand (nbr rows s) s = 0 ↔ indepP size rows s := by
  obtain ⟨n, hn, hl, _, hn7⟩ := isG_size hg
  obtain ⟨S, rfl, hS, hS'⟩ := set_nat hn hn7 hs
  obtain ⟨N, h1, h2, h3, h4⟩ := nbrL_nat hg hn hn7 S hS' (listS S)
  rw [nbr, h1, iand_nat (by omega) (by omega)]
  have h5 : ((N &&& S : Nat) : Int) = 0 ↔ N &&& S = 0 := by omega
  rw [h5, h4]
  constructor
  · intro h
    refine ⟨hg, hs, fun v hv hb => ?_⟩
    have := h v (mem_listS.2 ⟨by omega, v, rfl, by omega, hb⟩)
    simpa using this
  · rintro ⟨_, _, h⟩ x hx
    obtain ⟨_, v, rfl, hv, hb⟩ := mem_listS.1 hx
    have hvl := listS_lt hg hs _ hx
    have := h v (by omega) hb
    simpa using this
/-- Covers. -/
def coverP (size : Int) (rows : List Int) (s : Int) : Prop := (IsG size rows ∧ 0 ≤ s ∧ s < ishl 1 size) ∧ indepP size rows (ishl 1 size - 1 - s)
instance (size : Int) (rows : List Int) (s : Int) : Decidable (coverP size rows s) := by unfold coverP; infer_instance
theorem all_andnot : ∀ n, n ≤ 7 → ∀ S, S < 2 ^ n → (2 ^ n - 1) ^^^ ((2 ^ n - 1) &&& S) = 2 ^ n - 1 - S := by
  intro n hn S hS
  have : n = 0 ∨ n = 1 ∨ n = 2 ∨ n = 3 ∨ n = 4 ∨ n = 5 ∨ n = 6 ∨ n = 7 := by omega
  have key : ∀ m : Fin 8, ∀ s : Fin 128, s.val < 2 ^ m.val → (2 ^ m.val - 1) ^^^ ((2 ^ m.val - 1) &&& s.val) = 2 ^ m.val - 1 - s.val := by decide +kernel
  exact key ⟨n, by omega⟩ ⟨S, by have := pow_le7 hn; omega⟩ hS
theorem andnot_all {size : Int} {rows : List Int} {s : Int} (hg : IsG size rows) (hs : 0 ≤ s ∧ s < ishl 1 size) : iandnot (ishl 1 size - 1) s = ishl 1 size - 1 - s := by
  obtain ⟨n, hn, hl, _, hn7⟩ := isG_size hg
  obtain ⟨S, rfl, hS, hS'⟩ := set_nat hn hn7 hs
  rw [hn, ishl_one_nat (by omega)]
  have h1 := all_andnot n hn7 S hS
  have h2 : 0 < 2 ^ n := Nat.pow_pos (by omega)
  have h3 := pow_le7 hn7
  have e : ((2 ^ n : Nat) : Int) - 1 = ((2 ^ n - 1 : Nat) : Int) := by omega
  rw [e, iandnot_nat (by omega), h1]
  omega
end Go.Pw
