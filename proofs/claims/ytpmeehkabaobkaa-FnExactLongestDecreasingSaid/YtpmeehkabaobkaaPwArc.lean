/- Rows found among the objects by membership. -/
import Derived.Test.YtpmeehkabaobkaaPwSM
namespace Go.Pw
open Go Go.RowKit
theorem lss_getD' (ps : Pairs) (k : Nat) : (lssOf ps).getD k [] = lsAt ps k := by
  simp only [lssOf, lsAt, List.getD, List.getElem?_map]
  cases ps[k]? <;> rfl
theorem rd_mem {X : List Nat} {w0 : World} {objs : List Ob} {e : TypeId} {sv : Value} {vs : List Value} (h : Ob.row e sv vs ∈ objs) : Rd (Cl X w0 objs) sv vs := ⟨fun _ hw => arr_of_row (hw.holds _ h)⟩
theorem row_mem {ps : Pairs} {e : TypeId} {k : Nat} (h : k < ps.length) : Ob.row e (svAt ps k) (ints (lsAt ps k)) ∈ rowsOb e ps :=
  List.mem_map.2 ⟨ps[k], List.getElem_mem h, by simp [svAt, lsAt, List.getD, h]⟩
theorem rowsOb_append (e : TypeId) (a b : Pairs) : rowsOb e (a ++ b) = rowsOb e a ++ rowsOb e b := by simp [rowsOb]
theorem rowsOb_drop {e : TypeId} {ps : Pairs} {k : Nat} (h : k < ps.length) : rowsOb e (ps.drop k) = .row e (svAt ps k) (ints (lsAt ps k)) :: rowsOb e (ps.drop (k + 1)) := by
  rw [ps_drop h]; rfl
theorem lsAt_mem {ps : Pairs} {k : Nat} (h : k < ps.length) : lsAt ps k ∈ lssOf ps := List.mem_of_getElem? (lss_get h)
theorem stor_mem {X : List Nat} {w0 w : World} {objs : List Ob} {e : TypeId} {sv : Value} {vs : List Value} (hw : Cl X w0 objs w) (h : Ob.row e sv vs ∈ objs) : storable sv = true := stor_arr (arr_of_row (hw.holds _ h))
/-- Ascending numbers are some of the first ones. -/
theorem asc_range' : ∀ (d m : Nat) (c : List Nat), c.Pairwise (· < ·) → (∀ x ∈ c, m ≤ x ∧ x < m + d) → List.Sublist c (List.range' m d)
  | 0, m, [], _, _ => List.Sublist.slnil
  | 0, m, x :: c, _, h => by have := h x (List.mem_cons_self ..); omega
  | d + 1, m, [], _, _ => List.nil_sublist _
  | d + 1, m, x :: c, hp, h => by
    rw [List.range'_succ]
    have h1 := List.pairwise_cons.1 hp
    have hx := h x (List.mem_cons_self ..)
    by_cases e : x = m
    · subst e
      refine List.Sublist.cons_cons _ (asc_range' d (x + 1) c h1.2 fun y hy => ?_)
      have := h1.1 y hy
      have := h y (List.mem_cons_of_mem _ hy)
      omega
    · refine List.Sublist.cons _ (asc_range' d (m + 1) (x :: c) hp fun y hy => ?_)
      have hy2 := h y hy
      rcases List.mem_cons.1 hy with rfl | hy
      · omega
      · have := h1.1 y hy; omega
def pickP (ps : Pairs) (c : List Nat) : Pairs := c.map fun j => (svAt ps j, lsAt ps j)
theorem pickP_range (ps : Pairs) : pickP ps (List.range ps.length) = ps := by
  apply List.ext_getElem (by simp [pickP])
  intro i h1 h2
  simp [pickP, svAt, lsAt, List.getD, h2]
theorem pickP_sub {ps : Pairs} {c : List Nat} (hc : c.Pairwise (· < ·)) (h : ∀ x ∈ c, x < ps.length) : List.Sublist (pickP ps c) ps := by
  have h1 := asc_range' ps.length 0 c hc fun x hx => ⟨Nat.zero_le _, by have := h x hx; omega⟩
  rw [← List.range_eq_range'] at h1
  have h2 := List.Sublist.map (fun j => (svAt ps j, lsAt ps j)) h1
  have h3 := pickP_range ps
  unfold pickP at h3 ⊢
  rw [h3] at h2
  exact h2
theorem pickP_lss (ps : Pairs) (c : List Nat) : lssOf (pickP ps c) = c.map fun i => (lssOf ps).getD i [] := by
  simp only [pickP, lssOf, List.map_map]
  refine List.map_congr_left fun i _ => ?_
  have := lss_getD' ps i
  simp only [Function.comp_apply]
  exact this.symm
theorem svs_set (ps : Pairs) (i : Nat) (p : Value × List Int) : svsOf (ps.set i p) = (svsOf ps).set i p.1 := by simp [svsOf, List.map_set]
end Go.Pw
