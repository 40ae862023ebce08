/- Rows found among the objects by membership. -/
import Derived.Test.YtmmflnigejfplaaGreatPwSM
import Derived.Test.YtmmflnigejfplaaGreatPwPpe
namespace Go.Pw
open Go Go.RowKit
theorem lss_getD' (ps : Pairs) (k : Nat) : (lssOf ps).getD k [] = lsAt ps k := by
  simp only [lssOf, lsAt, List.getD, List.getElem?_map]
  cases ps[k]? <;> rfl
theorem rd_mem {X : List Nat} {w0 : World} {objs : List Ob} {e : TypeId} {sv : Value} {vs : List Value} (h : Ob.row e sv vs ∈ objs) : Rd (Cl X w0 objs) sv vs := ⟨fun _ hw => arr_of_row (hw.holds _ h)⟩
theorem row_mem {ps : Pairs} {e : TypeId} {k : Nat} (h : k < ps.length) : Ob.row e (svAt ps k) (ints (lsAt ps k)) ∈ rowsOb e ps :=
  List.mem_map.2 ⟨ps[k], List.getElem_mem h, by simp [svAt, lsAt, List.getD, h]⟩
theorem rowsOb_append (e : TypeId) (a b : Pairs) : rowsOb e (a ++ b) = rowsOb e a ++ rowsOb e b := by simp [rowsOb]
theorem rowsOb_drop {e : TypeId} {ps : Pairs} {k : Nat} (h : k < ps.length) : rowsOb e (ps.drop k) = .row e (svAt ps k) (ints (lsAt ps k)) :: rowsOb e (ps.drop (k + 1)) := by
  rw [ps_drop h]; rfl
theorem lsAt_mem {ps : Pairs} {k : Nat} (h : k < ps.length) : lsAt ps k ∈ lssOf ps := List.mem_of_getElem? (lss_get h)
theorem stor_mem {X : List Nat} {w0 w : World} {objs : List Ob} {e : TypeId} {sv : Value} {vs : List Value} (hw : Cl X w0 objs w) (h : Ob.row e sv vs ∈ objs) : storable sv = true := stor_arr (arr_of_row (hw.holds _ h))
/-- Ascending numbers are some of the first ones. -/
theorem asc_range' : ∀ (d m : Nat) (c : List Nat), c.Pairwise (· < ·) → (∀ x ∈ c, m ≤ x ∧ x < m + d) → List.Sublist c (List.range' m d)
  | 0, m, [], _, _ => List.Sublist.slnil
  | 0, m, x :: c, _, h => by have := h x (List.mem_cons_self ..); omega
  | d + 1, m, [], _, _ => List.nil_sublist _
  | d + 1, m, x :: c, hp, h => by
    rw [List.range'_succ]
    have h1 := List.pairwise_cons.1 hp
    have hx := h x (List.mem_cons_self ..)
    by_cases e : x = m
    · subst e
      refine List.Sublist.cons_cons _ (asc_range' d (x + 1) c h1.2 fun y hy => ?_)
      have := h1.1 y hy
      have := h y (List.mem_cons_of_mem _ hy)
      omega
    · refine List.Sublist.cons _ (asc_range' d (m + 1) (x :: c) hp fun y hy => ?_)
      have hy2 := h y hy
      rcases List.mem_cons.1 hy with rfl | hy
      · omega
      · have := h1.1 y hy; omega
def pickP (ps : Pairs) (c : List Nat) : Pairs := c.map fun j => (svAt ps j, lsAt ps j)
theorem pickP_range (ps : Pairs) : pickP ps (List.range ps.length) = ps := by
  apply List.ext_getElem (by simp [pickP])
  intro i h1 h2
  simp [pickP, svAt, lsAt, List.getD, h2]
theorem pickP_sub {ps : Pairs} {c : List Nat} (hc : c.Pairwise (· < ·)) (h : ∀ x ∈ c, x < ps.length) : List.Sublist (pickP ps c) ps := by
  have h1 := asc_range' ps.length 0 c hc fun x hx => ⟨Nat.zero_le _, by have := h x hx; omega⟩
  rw [← List.range_eq_range'] at h1
  have h2 := List.Sublist.map (fun j => (svAt ps j, lsAt ps j)) h1
  have h3 := pickP_range ps
  unfold pickP at h3 ⊢
  rw [h3] at h2
  exact h2
theorem pickP_lss (ps : Pairs) (c : List Nat) : lssOf (pickP ps c) = c.map fun i => (lssOf ps).getD i [] := by
  simp only [pickP, lssOf, List.map_map]
  refine List.map_congr_left fun i _ => ?_
  have := lss_getD' ps i
  simp only [Function.comp_apply]
  exact this.symm
theorem svs_set (ps : Pairs) (i : Nat) (p : Value × List Int) : svsOf (ps.set i p) = (svsOf ps).set i p.1 := by simp [svsOf, List.map_set]
theorem ps_snoc {ps : Pairs} {k : Nat} (h : k < ps.length) : ps.take (k + 1) = ps.take k ++ [(svAt ps k, lsAt ps k)] := by
  rw [List.take_add_one, List.getElem?_eq_getElem h]
  have : (svAt ps k, lsAt ps k) = ps[k] := by simp [svAt, lsAt, List.getD, h]
  rw [this]; rfl
theorem rowsOb_sub {e : TypeId} {a b : Pairs} (h : List.Sublist a b) : List.Sublist (rowsOb e a) (rowsOb e b) := h.map _
theorem stor_svsA {w : World} {sv : Value} {ps : Pairs} (h : ArrS w sv ps) : ∀ u ∈ svsOf ps, storable u = true := fun u hu => by
  obtain ⟨k, hk, rfl⟩ := List.mem_iff_getElem.1 hu
  rw [svsOf_length] at hk
  have := stor_arr (h.each k hk)
  simpa [svsOf, svAt, List.getD, hk] using this
theorem pick_mem {ps : Pairs} {e : TypeId} {c : List Nat} (h : ∀ x ∈ c, x < ps.length) : ∀ o ∈ rowsOb e (pickP ps c), o ∈ rowsOb e ps := fun o ho => by
  obtain ⟨p, hp, rfl⟩ := List.mem_map.1 ho
  obtain ⟨x, hx, rfl⟩ := List.mem_map.1 hp
  exact row_mem (h x hx)
theorem pick_snoc (ps : Pairs) (c : List Nat) (m : Nat) : pickP ps (c ++ [m]) = pickP ps c ++ [(svAt ps m, lsAt ps m)] := by simp [pickP]
theorem pick_rev (ps : Pairs) (c : List Nat) : (pickP ps c).reverse = pickP ps c.reverse := by simp [pickP, List.map_reverse]
section
variable {P : Program} {C : Cls} {ρ : Operand → Value} {d : Option Tmp} {t ty : TypeId} {pos : String} {af : Array Edge} {g : Option (Nat × Bool)} {x : Operand}
theorem opv_load_iota {sv : Value} {n i : Nat} (ht : Scalar P t) (hx : ρ x = .pointer (some (addrOf sv i))) (hr : Rd C sv (ints (iota n))) (hi : i < n) : Opv P C ρ ⟨d, .load t x, ty, pos, af, g⟩ (.int .i64 (i : Int)) := by
  have := opv_load_ints (d := d) (ty := ty) (pos := pos) (af := af) (g := g) ht hx hr (by simpa [iota] using hi)
  rwa [iota_get hi] at this
end
end Go.Pw
