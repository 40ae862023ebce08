/- The plain mathematics of the graphs that lists give: permutations, threshold orders, degrees. -/
import Derived.Test.YtaadjebiglihlaaPwPpe
import Derived.Test.YtaadjebiglihlaaPwPqt
import Derived.Test.YtaadjebiglihlaaPwPmo
import Derived.Test.YtaadjebiglihlaaPwPsv
namespace Go.Pw
open Go
/-- The graph of a list of numbers: places whose numbers are in the wrong order. -/
def gpJ (p : List Int) (v u : Nat) : Bool := decide (p.getD u 0 < p.getD v 0)
def gpL (p : List Int) : List Int := if permP p then gRows p.length (seenP (gpJ p) p.length 0) else []
def gpZ (p : List Int) : Int := if permP p then p.length else 0
theorem gpL_length (p : List Int) : (gpL p).length ≤ 7 := by
  unfold gpL
  split
  · rename_i h; rw [gRows_length]; have := h.1.2; omega
  · simp
/-- Degrees. -/
def degU (rows : List Int) (k : Nat) : List Int := (List.range k).map fun i => cntS (rows.getD i 0)
def degL (size : Int) (rows : List Int) : List Int := if IsG size rows then (sortI (degU rows rows.length)).reverse else []
theorem degU_len (rows : List Int) (k : Nat) : (degU rows k).length = k := by simp [degU]
theorem degU_succ (rows : List Int) (k : Nat) : degU rows (k + 1) = degU rows k ++ [cntS (rows.getD k 0)] := by simp [degU, List.range_succ]
theorem degL_len (size : Int) (rows : List Int) : (degL size rows).length ≤ 7 := by
  unfold degL
  split
  · rename_i h
    obtain ⟨n, _, h2, _, h4⟩ := isG_size h
    rw [List.length_reverse, sortI_len, degU_len]; omega
  · simp

theorem cntS_bound (s : Int) : 0 ≤ cntS s ∧ cntS s ≤ 7 := by
  unfold cntS
  have := listS_length s
  omega
theorem degL_bound (size : Int) (rows : List Int) (i : Nat) : 0 ≤ (degL size rows).getD i 0 ∧ (degL size rows).getD i 0 ≤ 7 := by
  by_cases hi : i < (degL size rows).length
  · have hm : (degL size rows).getD i 0 ∈ degL size rows := getD_mem hi
    unfold degL at hm
    split at hm
    · rename_i hg
      rw [List.mem_reverse] at hm
      have hm := (sortI_perm _).mem_iff.1 hm
      obtain ⟨k, _, hk⟩ := List.mem_map.1 (show _ ∈ (List.range rows.length).map fun i => cntS (rows.getD i 0) from hm)
      have := cntS_bound (rows.getD k 0)
      unfold degL
      rw [if_pos hg]
      omega
    · cases hm
  · have : (degL size rows).getD i 0 = 0 := by simp [List.getD, hi]
    omega
/-- The number of the last place whose degree is at least the place. -/
def mU (d : List Int) : Nat → Int
  | 0 => 0
  | k + 1 => if d.getD k 0 ≥ k then (k : Int) + 1 else mU d k
def mL (d : List Int) : Int := mU d d.length
theorem mU_range (d : List Int) : ∀ k : Nat, 0 ≤ mU d k ∧ mU d k ≤ k
  | 0 => by simp [mU]
  | k + 1 => by
    have := mU_range d k
    unfold mU
    split <;> omega
/-- The sums of the degrees before and behind it. -/
def hiU (d : List Int) (m : Int) : Nat → Int
  | 0 => 0
  | k + 1 => if (k : Int) < m then hiU d m k + d.getD k 0 else hiU d m k
def loU (d : List Int) (m : Int) : Nat → Int
  | 0 => 0
  | k + 1 => if (k : Int) < m then loU d m k else loU d m k + d.getD k 0
theorem hiU_range {d : List Int} {m : Int} (hd : ∀ i, 0 ≤ d.getD i 0 ∧ d.getD i 0 ≤ 7) : ∀ k : Nat, (0 ≤ hiU d m k ∧ hiU d m k ≤ 7 * k) ∧ 0 ≤ loU d m k ∧ loU d m k ≤ 7 * k
  | 0 => by simp [hiU, loU]
  | k + 1 => by
    have := hiU_range (m := m) hd k
    have := hd k
    unfold hiU loU
    split <;> omega
def sbdP (size : Int) (rows : List Int) : Prop := IsG size rows ∧ hiU (degL size rows) (mL (degL size rows)) (degL size rows).length = mL (degL size rows) * (mL (degL size rows) - 1) + loU (degL size rows) (mL (degL size rows)) (degL size rows).length
instance (size : Int) (rows : List Int) : Decidable (sbdP size rows) := by unfold sbdP; infer_instance
/-- The graph of a threshold order. -/
def gtJ (o : List Int) (j : List Bool) (v u : Nat) : Bool := j.getD (max (placeL o v).toNat (placeL o u).toNat) false
end Go.Pw
