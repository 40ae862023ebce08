/- The plain mathematics of the graphs that lists give: permutations, threshold orders, degrees. -/
import Derived.Test.YtcicdnpmlcjcmaaGreatPwPpe
import Derived.Test.YtcicdnpmlcjcmaaGreatPwPqt
import Derived.Test.YtcicdnpmlcjcmaaGreatPwPmo
import Derived.Test.YtcicdnpmlcjcmaaGreatPwPsv
namespace Go.Pw
open Go
/-- The graph of a list of numbers: places whose numbers are in the wrong order. -/
def gpJ (p : List Int) (v u : Nat) : Bool := decide (p.getD u 0 < p.getD v 0)
def gpL (p : List Int) : List Int := if permP p then gRows p.length (seenP (gpJ p) p.length 0) else []
def gpZ (p : List Int) : Int := if permP p then p.length else 0
theorem gpL_length (p : List Int) : (gpL p).length ≤ 7 := by
  unfold gpL
  split
  · rename_i h; rw [gRows_length]; have := h.1.2; omega
  · simp
/-- Degrees. -/
def degU (rows : List Int) (k : Nat) : List Int := (List.range k).map fun i => cntS (rows.getD i 0)
def degL (size : Int) (rows : List Int) : List Int := if IsG size rows then (sortI (degU rows rows.length)).reverse else []
theorem degU_len (rows : List Int) (k : Nat) : (degU rows k).length = k := by simp [degU]
theorem degU_succ (rows : List Int) (k : Nat) : degU rows (k + 1) = degU rows k ++ [cntS (rows.getD k 0)] := by simp [degU, List.range_succ]
theorem degL_len (size : Int) (rows : List Int) : (degL size rows).length ≤ 7 := by
  unfold degL
  split
  · rename_i h
    obtain ⟨n, _, h2, _, h4⟩ := isG_size h
    rw [List.length_reverse, sortI_len, degU_len]; omega
  · simp

theorem cntS_bound (s : Int) : 0 ≤ cntS s ∧ cntS s ≤ 7 := by
  unfold cntS
  have := listS_length s
  omega
theorem degL_bound (size : Int) (rows : List Int) (i : Nat) : 0 ≤ (degL size rows).getD i 0 ∧ (degL size rows).getD i 0 ≤ 7 := by
  by_cases hi : i < (degL size rows).length
  · have hm : (degL size rows).getD i 0 ∈ degL size rows := getD_mem hi
    unfold degL at hm
    split at hm
    · rename_i hg
      rw [List.mem_reverse] at hm
      have hm := (sortI_perm _).mem_iff.1 hm
      obtain ⟨k, _, hk⟩ := List.mem_map.1 (show _ ∈ (List.range rows.length).map fun i => cntS (rows.getD i 0) from hm)
      have := cntS_bound (rows.getD k 0)
      unfold degL
      rw [if_pos hg]
      omega
    · cases hm
  · have : (degL size rows).getD i 0 = 0 := by simp [List.getD, hi]
    omega
/-- The number of the last place whose degree is at least the place. -/
def mU (d : List Int) : Nat → Int
  | 0 => 0
  | k + 1 => if d.getD k 0 ≥ k then (k : Int) + 1 else mU d k
def mL (d : List Int) : Int := mU d d.length
theorem mU_range (d : List Int) : ∀ k : Nat, 0 ≤ mU d k ∧ mU d k ≤ k
  | 0 => by simp [mU]
  | k + 1 => by
    have := mU_range d k
    unfold mU
    split <;> omega
/-- The sums of the degrees before and behind it. -/
def hiU (d : List Int) (m : Int) : Nat → Int
  | 0 => 0
  | k + 1 => if (k : Int) < m then hiU d m k + d.getD k 0 else hiU d m k
def loU (d : List Int) (m : Int) : Nat → Int
  | 0 => 0
  | k + 1 => if (k : Int) < m then loU d m k else loU d m k + d.getD k 0
theorem hiU_range {d : List Int} {m : Int} (hd : ∀ i, 0 ≤ d.getD i 0 ∧ d.getD i 0 ≤ 7) : ∀ k : Nat, (0 ≤ hiU d m k ∧ hiU d m k ≤ 7 * k) ∧ 0 ≤ loU d m k ∧ loU d m k ≤ 7 * k
  | 0 => by simp [hiU, loU]
  | k + 1 => by
    have := hiU_range (m := m) hd k
    have := hd k
    unfold hiU loU
    split <;> omega
def sbdP (size : Int) (rows : List Int) : Prop := IsG size rows ∧ hiU (degL size rows) (mL (degL size rows)) (degL size rows).length = mL (degL size rows) * (mL (degL size rows) - 1) + loU (degL size rows) (mL (degL size rows)) (degL size rows).length
instance (size : Int) (rows : List Int) : Decidable (sbdP size rows) := by unfold sbdP; infer_instance
/-- The graph of a threshold order: pairs seen, by their places in the order. -/
def plN (o : List Int) (a : Nat) : Nat := (placeL o a).toNat
def gtP (o : List Int) (j : List Bool) (i k a b : Nat) : Bool := seenP (fun _ u => j.getD u false) i k (plN o a) (plN o b)
def gtOk (o : List Int) (j : List Bool) : Prop := permP o ∧ j.length = o.length
instance (o : List Int) (j : List Bool) : Decidable (gtOk o j) := by unfold gtOk; infer_instance
def gtL (o : List Int) (j : List Bool) : List Int := if gtOk o j then gRows o.length (gtP o j o.length 0) else []
def gtZ (o : List Int) (j : List Bool) : Int := if gtOk o j then o.length else 0
theorem gtL_length (o : List Int) (j : List Bool) : (gtL o j).length ≤ 7 := by
  unfold gtL
  split
  · rename_i h; rw [gRows_length]; have := h.1.1; omega
  · simp
theorem plN_at {o : List Int} (h : permP o) {i : Nat} (hi : i < o.length) : plN o (o.getD i 0).toNat = i ∧ 0 ≤ o.getD i 0 ∧ o.getD i 0 < o.length := by
  have h1 := h.2.1 i hi
  have e : (((o.getD i 0).toNat : Nat) : Int) = o.getD i 0 := by omega
  unfold plN
  rw [e, placeL_at h.2.2 hi]
  exact ⟨by omega, by omega, by omega⟩
theorem plN_eq {o : List Int} (h : permP o) {a i : Nat} (ha : a < o.length) (hi : i < o.length) : plN o a = i ↔ a = (o.getD i 0).toNat := by
  constructor
  · intro e
    have hm : (a : Int) ∈ o := by
      have := h.1
      exact order_mem (n := o.length) h.2.1 h.2.2 rfl a ha
    have h2 := placeL_get o a hm
    unfold plN at e
    rw [e] at h2
    omega
  · intro e; subst e; exact (plN_at h hi).1
theorem gtP_sym (o : List Int) (j : List Bool) (i k a b : Nat) : gtP o j i k a b = gtP o j i k b a := seenP_sym _ _ _ _ _
theorem gtP_irr (o : List Int) (j : List Bool) (i k a : Nat) : gtP o j i k a a = false := seenP_irr _ _ _ _
theorem gtP_zero (o : List Int) (j : List Bool) (a b : Nat) : gtP o j 0 0 a b = false := seenP_zero _ _ _
theorem gtP_next (o : List Int) (j : List Bool) (i a b : Nat) : gtP o j i i a b = gtP o j (i + 1) 0 a b := seenP_next _ _ _ _
theorem gtP_new {o : List Int} {j : List Bool} (h : permP o) {i k : Nat} (hi : i < o.length) (hk : k < i) :
    gtP o j i k (o.getD i 0).toNat (o.getD k 0).toNat = false ∧ gtP o j i k (o.getD k 0).toNat (o.getD i 0).toNat = false := by
  unfold gtP
  rw [(plN_at h hi).1, (plN_at h (show k < o.length by omega)).1]
  have := seenP_new (fun _ u => j.getD u false) hk
  exact ⟨this.2, this.1⟩
theorem gtP_no {o : List Int} {j : List Bool} {i k : Nat} (hk : k < i) (hj : j.getD i false = false) (a b : Nat) : gtP o j i k a b = gtP o j i (k + 1) a b :=
  seenP_no _ hk hj _ _
theorem gtP_skip {o : List Int} {j : List Bool} {i : Nat} (hj : j.getD i false = false) (a b : Nat) : ∀ k, k ≤ i → gtP o j i 0 a b = gtP o j i k a b
  | 0, _ => rfl
  | k + 1, h => by rw [gtP_skip hj a b k (by omega), gtP_no (by omega) hj]
theorem gtP_yes {o : List Int} {j : List Bool} (h : permP o) {i k : Nat} (hi : i < o.length) (hk : k < i) (hj : j.getD i false = true) {a b : Nat} (ha : a < o.length) (hb : b < o.length) :
    pairAdd (gtP o j i k) (o.getD i 0).toNat (o.getD k 0).toNat a b = gtP o j i (k + 1) a b := by
  have h1 := seenP_yes (fun _ u => j.getD u false) hk hj (plN o a) (plN o b)
  unfold gtP
  rw [← h1]
  unfold pairAdd
  congr 1
  have c1 : decide (a = (o.getD i 0).toNat ∧ b = (o.getD k 0).toNat) = decide (plN o a = i ∧ plN o b = k) := decide_eq_decide.2 (by rw [plN_eq h ha hi, plN_eq h hb (by omega)])
  have c2 : decide (a = (o.getD k 0).toNat ∧ b = (o.getD i 0).toNat) = decide (plN o a = k ∧ plN o b = i) := decide_eq_decide.2 (by rw [plN_eq h hb hi, plN_eq h ha (by omega)])
  rw [c1, c2, Bool.or_comm]
end Go.Pw
