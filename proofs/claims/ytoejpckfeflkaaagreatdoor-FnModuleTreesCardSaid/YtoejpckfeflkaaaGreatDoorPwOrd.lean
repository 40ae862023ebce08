/- A region's explicit order, checked fast: what waits for an operation is reckoned once, from the first operation to the last. -/
import Derived.Test.YtoejpckfeflkaaaGreatDoorPwCore
namespace Go.Pw
open Go Go.RowKit
theorem waitsOn_up {md : Region.Mode} {ops : Array Oper} {i : Nat} : ∀ (f f' m : Nat), f ≤ f' → waitsOn md ops i f m = true → waitsOn md ops i f' m = true
  | 0, _, _, _, h => by simp [waitsOn] at h
  | f + 1, 0, _, hf, _ => by omega
  | f + 1, f' + 1, m, hf, h => by
    unfold waitsOn at h ⊢
    cases ho : ops[m]? with
    | none => rw [ho] at h; cases h
    | some o =>
      rw [ho] at h
      dsimp only at h ⊢
      obtain ⟨e, he, hb⟩ := Array.any_eq_true'.1 h
      refine Array.any_eq_true'.2 ⟨e, he, ?_⟩
      simp only [Bool.and_eq_true, Bool.or_eq_true] at hb ⊢
      exact ⟨hb.1, hb.2.imp id fun h => waitsOn_up f f' e.on (by omega) h⟩
def nthB : List Bool → Nat → Bool
  | [], _ => false
  | b :: _, 0 => b
  | _ :: r, k + 1 => nthB r k
theorem nthB_eq : ∀ (l : List Bool) (k : Nat), nthB l k = l.getD k false
  | [], k => by simp [nthB]
  | b :: r, 0 => by simp [nthB]
  | b :: r, k + 1 => by simp [nthB, nthB_eq r k]
/-- For each operation, in turn: does it wait for operation k? -/
def reachL (md : Region.Mode) (k : Nat) : List Oper → List Bool → List Bool
  | [], acc => acc
  | o :: r, acc => reachL md k r (acc ++ [o.after.toList.any fun e => Region.binds md e && (Nat.beq e.on k || nthB acc e.on)])
theorem reachL_spec {md : Region.Mode} {k : Nat} {L : List Oper} : ∀ (r : List Oper) (acc : List Bool) (pre : List Oper), L = pre ++ r → acc.length = pre.length → (∀ j, nthB acc j = true → waitsOn md L.toArray k (j + 1) j = true) → ∀ j, nthB (reachL md k r acc) j = true → waitsOn md L.toArray k (j + 1) j = true
  | [], acc, _, _, _, h, j, hj => h j hj
  | o :: r, acc, pre, hL, hl, h, j, hj => by
    unfold reachL at hj
    refine reachL_spec r _ (pre ++ [o]) (by rw [hL]; simp) (by simp [hl]) (fun m hm => ?_) j hj
    by_cases hml : m < acc.length
    · refine h m ?_
      rw [nthB_eq] at hm ⊢
      simpa [List.getD, List.getElem?_append_left hml] using hm
    · have hme : m = acc.length := by
        refine Classical.byContradiction fun hne => ?_
        rw [nthB_eq, List.getD, List.getElem?_eq_none (by rw [List.length_append, List.length_singleton]; omega)] at hm
        cases hm
      subst hme
      rw [nthB_eq] at hm
      have ho : L.toArray[acc.length]? = some o := by rw [hL, hl]; simp
      unfold waitsOn
      rw [ho]
      dsimp only
      have hm' : (o.after.toList.any fun e => Region.binds md e && (Nat.beq e.on k || nthB acc e.on)) = true := by simpa [List.getD] using hm
      obtain ⟨e, he, hb⟩ := List.any_eq_true.1 hm'
      refine Array.any_eq_true'.2 ⟨e, by simpa using he, ?_⟩
      simp only [Bool.and_eq_true, Bool.or_eq_true, Nat.beq_eq_true_eq] at hb
      rw [Bool.and_eq_true, Bool.or_eq_true]
      refine ⟨hb.1, ?_⟩
      rcases hb.2 with h2 | h2
      · exact .inl (by simpa using h2)
      · have hlt : e.on < acc.length := by
          refine Classical.byContradiction fun hne => ?_
          rw [nthB_eq] at h2
          simp [List.getD, List.getElem?_eq_none (show acc.length ≤ e.on by omega)] at h2
        exact .inr (waitsOn_up (e.on + 1) acc.length e.on (by omega) (h e.on h2))
/-- Do all others wait for operation k, but for moves? -/
def onlyF (md : Region.Mode) (l : List Oper) (listed : Array Bool) (k : Nat) (ok : Oper) (W : List Bool) : Bool :=
  (List.range l.length).all fun j => Nat.beq j k || listed.getD j true || nthB W j || (match nthOp l j with | some oj => isMove oj && oj.apart l.toArray ok | none => true)
theorem onlyF_spec {md : Region.Mode} {l : List Oper} {listed : Array Bool} {k : Nat} {ok : Oper} (hk : nthOp l k = some ok) (h : onlyF md l listed k ok (reachL md k l []) = true) : onlyB md l.toArray listed k = true := by
  have h0 : l.toArray[k]? = some ok := by rw [← hk, nthOp_eq]; simp
  unfold onlyB
  rw [h0]
  dsimp only
  rw [List.all_eq_true]
  intro j hj
  have hjl : j < l.length := by have := List.mem_range.1 hj; simpa using this
  have h1 := (List.all_eq_true.1 h) j (List.mem_range.2 hjl)
  rw [Bool.or_eq_true, Bool.or_eq_true, Bool.or_eq_true] at h1
  rw [Bool.or_eq_true, Bool.or_eq_true, Bool.or_eq_true]
  rcases h1 with ((h1 | h1) | h1) | h1
  · exact .inl (.inl (.inl (by simpa using h1)))
  · exact .inl (.inl (.inr h1))
  · exact .inl (.inr (waitsOn_up (j + 1) _ j (by simp; omega) (reachL_spec l [] [] rfl rfl (fun j hj => by simp [nthB] at hj) j h1)))
  · refine .inr ?_
    have e : l.toArray[j]? = nthOp l j := by rw [nthOp_eq]; simp
    rw [e]
    cases hn : nthOp l j with
    | none => rfl
    | some oj => rw [hn] at h1; exact h1
def ordG (md : Region.Mode) (l : List Oper) : List Nat → Array Bool → Bool
  | [], listed => (Region.ready md l.toArray listed).isEmpty
  | k :: r, listed => (Region.ready md l.toArray listed).contains k && (match nthOp l k with | some o => (match lookKind o with | true => Region.free md l.toArray listed k | false => onlyF md l listed k o (reachL md k l [])) | none => false) && ordG md l r (listed.setIfInBounds k true)
theorem ordG_spec {md : Region.Mode} {l : List Oper} : ∀ (ord : List Nat) (listed : Array Bool), ordG md l ord listed = true → ordFrom md l ord listed = true
  | [], _, h => h
  | k :: r, listed, h => by
    unfold ordG at h
    unfold ordFrom
    rw [Bool.and_eq_true, Bool.and_eq_true] at h ⊢
    refine ⟨⟨h.1.1, ?_⟩, ordG_spec r _ h.2⟩
    have h2 := h.1.2
    cases hn : nthOp l k with
    | none => rw [hn] at h2; exact h2
    | some o =>
      rw [hn] at h2
      dsimp only at h2 ⊢
      cases hk : lookKind o with
      | true => rw [hk] at h2; exact h2
      | false => rw [hk] at h2; exact onlyF_spec hn h2
def ordF (l : List Oper) (ord : List Nat) : Bool := Region.noSelect l.toArray && (ord.length == l.length) && ordG .any l ord (Array.replicate l.length false)
theorem ordF_spec {l : List Oper} {ord : List Nat} (h : ordF l ord = true) : ordB l ord = true := by
  unfold ordF at h
  unfold ordB
  rw [Bool.and_eq_true] at h ⊢
  exact ⟨h.1, ordG_spec _ _ h.2⟩
theorem pwp_region_ordf {P : Program} {C : Cls} {n : Nat} {Q : Post} {E : Env} (ord : List Nat) {id : Nat} {l : List Oper} (hm : P.follows .mixedOrders = true) (hB : ordF l ord = true) (hS : Stable C)
    (h : Px P n l .mix (pickOps l ord) Q E C) : Pwp P n (.region id l.toArray true) Q E C := pwp_region_ord ord hm (ordF_spec hB) hS h
end Go.Pw
