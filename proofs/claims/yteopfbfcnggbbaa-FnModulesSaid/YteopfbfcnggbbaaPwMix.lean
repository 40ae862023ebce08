/- Regions that draw their order, in which some operations only look at what is there and the others make new blocks alone: the order of the text serves for every order. -/
import Derived.WalkKit
import Derived.Deep.Quiet
namespace Go.Pw
open Go Go.RowKit

section
variable {P : Program} {ops : Array Oper} {md : Region.Mode}

def noOut : Exit → Act → World → Prop := fun _ _ _ => False

def gOp (P : Program) (ops : Array Oper) (i : Nat) (K : Act → World → Prop) (a : Act) (w : World) : Prop :=
  match ops[i]? with
  | none => K a w
  | some o => if Region.wanted o (yielded ops a.tmps) then o.wp P a w K noOut else K (a.put o.dst undef) w

theorem gOp_mono {i : Nat} {a : Act} {w : World} {K K' : Act → World → Prop} (h : ∀ a w, K a w → K' a w) (hh : gOp P ops i K a w) : gOp P ops i K' a w := by
  unfold gOp at *
  split
  · exact h _ _ (by simpa [*] using hh)
  · rename_i o ho
    simp only [ho] at hh
    split
    · rename_i hw; simp only [hw, if_true] at hh; exact Oper.wp_mono h hh
    · rename_i hw; simp only [hw] at hh; exact h _ _ hh

theorem wp_some {o : Oper} {a : Act} {w : World} {K : Act → World → Prop} (h : o.wp P a w K noOut) : ∃ a' w', K a' w' := by
  unfold Oper.wp at h
  generalize (execOp a.eval o).run P w = r at *
  cases r with
  | ok n w' =>
    cases n <;> simp only [Oper.upon] at h
    case value u => exact ⟨_, _, h⟩
    case skip => exact ⟨_, _, h⟩
    case defer d => exact ⟨_, _, h⟩
    case enter f args =>
      obtain ⟨e, w2, fr, hR, _⟩ := h []
      cases e with
      | returned v => exact ⟨_, _, hR⟩
      | panicked c => exact hR.elim
      | outgrown => obtain ⟨_, _, hx⟩ := hR; exact hx.elim
    case row row args =>
      obtain ⟨v, w2, hR, _⟩ := h default []
      exact ⟨_, _, hR⟩
  | halt x w' => cases x <;> simp only [Oper.upon] at h; exact h.elim

theorem gOp_some {i : Nat} {a : Act} {w : World} {K : Act → World → Prop} (h : gOp P ops i K a w) : ∃ a' w', K a' w' := by
  unfold gOp at h
  split at h
  · exact ⟨_, _, h⟩
  · split at h
    · exact wp_some h
    · exact ⟨_, _, h⟩

def AnyG (P : Program) (md : Region.Mode) (ops : Array Oper) (Qn : Act → World → Prop) (C : World → Prop) : Nat → Array Bool → Act → World → Prop
  | 0, listed, a, w => Region.ready md ops listed = [] ∧ Qn a w
  | fuel + 1, listed, a, w => (Region.ready md ops listed = [] → Qn a w) ∧
      ∀ i ∈ Region.ready md ops listed, gOp P ops i (fun a' w' => C w' ∧ AnyG P md ops Qn C fuel (listed.setIfInBounds i true) a' w') a w

theorem AnyG.mono {Qn : Act → World → Prop} {C C' : World → Prop} (hC : ∀ w, C' w → C w) : ∀ (fuel : Nat) (listed : Array Bool) (a : Act) (w : World), AnyG P md ops Qn C' fuel listed a w → AnyG P md ops Qn C fuel listed a w
  | 0, _, _, _, h => h
  | fuel + 1, _, _, _, h => ⟨h.1, fun i hi => gOp_mono (fun a' w' ⟨hc, hh⟩ => ⟨hC _ hc, AnyG.mono hC fuel _ a' w' hh⟩) (h.2 i hi)⟩

theorem AnyG.sound {Qn : Act → World → Prop} {C : World → Prop} {Q : Exit → Act → World → Prop} (hQ : ∀ a w, Qn a w → Q .normal a w) : ∀ (fuel : Nat) (listed : Array Bool) (a : Act) (w : World), AnyG P md ops Qn C fuel listed a w → wpAny P md ops Q fuel listed a w
  | 0, _, _, _, h => ⟨h.1, hQ _ _ h.2⟩
  | fuel + 1, _, a, w, h => ⟨fun h0 => hQ _ _ (h.1 h0), fun i hi => by
      have h2 := h.2 i hi
      unfold gOp at h2
      unfold wpOp
      split
      · rename_i ho; simp only [ho] at h2; exact AnyG.sound hQ fuel _ _ _ h2.2
      · rename_i o ho
        simp only [ho] at h2
        split
        · rename_i hw
          simp only [hw, if_true] at h2
          refine .inl ?_
          unfold Oper.wp at *
          generalize (execOp a.eval o).run P w = r at *
          cases r with
          | ok n w' =>
            cases n <;> simp only [Oper.upon] at h2 ⊢
            case value u => exact AnyG.sound hQ fuel _ _ _ h2.2
            case skip => exact AnyG.sound hQ fuel _ _ _ h2.2
            case defer d => exact AnyG.sound hQ fuel _ _ _ h2.2
            case enter f args =>
              refine Calls.mono h2 fun e w'' he => ?_
              cases e with
              | returned u => exact AnyG.sound hQ fuel _ _ _ he.2
              | panicked c => exact he.elim
              | outgrown => obtain ⟨_, _, hx⟩ := he; exact hx.elim
            case row row args => exact Rows.mono h2 fun u w'' he => AnyG.sound hQ fuel _ _ _ he.2
          | halt x w' => cases x <;> simp only [Oper.upon] at h2 ⊢; exact h2.elim
        · rename_i hw
          simp only [hw] at h2
          exact AnyG.sound hQ fuel _ _ _ h2.2⟩

/-- In every world of the class the operation leaves 'v', and the world as it was. -/
def StillY (P : Program) (ops : Array Oper) (C : World → Prop) (o : Oper) (v : Value) (a : Act) : Prop :=
  (Region.wanted o (yielded ops a.tmps) = true ∧ ∀ w, C w → (execOp a.eval o).run P w = .ok (.value v) w) ∨ (Region.wanted o (yielded ops a.tmps) = false ∧ v = undef)

theorem StillY.gOp {C : World → Prop} {i : Nat} {o : Oper} {v : Value} {a : Act} (hi : ops[i]? = some o) (hy : StillY P ops C o v a) {K : Act → World → Prop} {w : World} (hw : C w) (h : K (a.put o.dst v) w) : gOp P ops i K a w := by
  unfold Go.Pw.gOp
  simp only [hi]
  rcases hy with ⟨h1, hv⟩ | ⟨h1, rfl⟩
  · simp only [h1, if_true, Oper.wp, hv w hw, Oper.upon]; exact h
  · simp only [h1, Bool.false_eq_true, if_false]; exact h

/-- What a still operation hands on. -/
theorem StillY.out {C : World → Prop} {i : Nat} {o : Oper} {v : Value} {a : Act} (hi : ops[i]? = some o) (hy : StillY P ops C o v a) {K : Act → World → Prop} {w : World} (hw : C w) (h : Go.Pw.gOp P ops i K a w) : K (a.put o.dst v) w := by
  unfold Go.Pw.gOp at h
  simp only [hi] at h
  rcases hy with ⟨h1, hv⟩ | ⟨h1, rfl⟩
  · simp only [h1, if_true, Oper.wp, hv w hw, Oper.upon] at h; exact h
  · simp only [h1, Bool.false_eq_true, if_false] at h; exact h

theorem StillY.of_same {C : World → Prop} {o : Oper} {v : Value} {a a' : Act} (hy : StillY P ops C o v a) (he : execOp a'.eval o = execOp a.eval o)
    (hw : Region.wanted o (yielded ops a'.tmps) = Region.wanted o (yielded ops a.tmps)) : StillY P ops C o v a' := by
  unfold StillY at *
  rw [he, hw]
  exact hy

/-- An operation is carried out beside one that is apart from it and whose value is there already. -/
theorem gOp_put {C : World → Prop} {j : Nat} {oi oj : Oper} {v : Value} (hj : ops[j]? = some oj) (hap : oi.apart ops oj = true) (hsi : ∀ cs b, oi.op ≠ .select cs b) (hsj : ∀ cs b, oj.op ≠ .select cs b)
    {K : Act → World → Prop} {a : Act} {w : World} (hy : StillY P ops C oi v a) (h : gOp P ops j K (a.put oi.dst v) w) : gOp P ops j (fun a' w' => StillY P ops C oi v a' ∧ K (a'.put oi.dst v) w') a w := by
  obtain ⟨h1, h2, h3⟩ := Oper.apart_spec hap
  have keep : ∀ (a : Act), StillY P ops C oi v a → ∀ u, StillY P ops C oi v (a.put oj.dst u) := fun a hy u => hy.of_same (execOp_put oi hsi a oj.dst u h3) (wanted_put oi a oj.dst u h3)
  have keepD : ∀ d, StillY P ops C oi v { a with defers := d :: a.defers } := fun d => hy.of_same rfl rfl
  unfold gOp at *
  simp only [hj] at *
  rw [wanted_put oj a oi.dst v h1] at h
  split
  · rename_i hw
    simp only [hw, if_true] at h
    unfold Oper.wp at *
    rw [execOp_put oj hsj a oi.dst v h1] at h
    generalize (execOp a.eval oj).run P w = r at *
    cases r with
    | ok n w' =>
      cases n <;> simp only [Oper.upon] at h ⊢
      case value u => exact ⟨keep a hy u, by rw [← Act.put_comm a v u h2]; exact h⟩
      case skip => exact ⟨keep a hy _, by rw [← Act.put_comm a v undef h2]; exact h⟩
      case defer d =>
        refine ⟨keep _ (keepD d) _, ?_⟩
        rw [← Act.put_comm _ v undef h2, ← Act.put_defers]
        exact h
      case enter f args =>
        refine Calls.mono h fun e w'' he => ?_
        cases e with
        | returned u => exact ⟨keep a hy u, by rw [← Act.put_comm a v u h2]; exact he⟩
        | panicked c => exact he.elim
        | outgrown => obtain ⟨_, _, hx⟩ := he; exact hx.elim
      case row row args => exact Rows.mono h fun u w'' he => ⟨keep a hy u, by rw [← Act.put_comm a v u h2]; exact he⟩
    | halt x w' => cases x <;> simp only [Oper.upon] at h ⊢; exact h.elim
  · rename_i hw
    simp only [hw] at h
    exact ⟨keep a hy _, by rw [← Act.put_comm a v undef h2]; exact h⟩

/-- .. the other way round. -/
theorem gOp_tup {C : World → Prop} {i : Nat} {oi oj : Oper} {v : Value} (hi : ops[i]? = some oi) (hap : oj.apart ops oi = true) (hsi : ∀ cs b, oi.op ≠ .select cs b) (hsj : ∀ cs b, oj.op ≠ .select cs b)
    {K : Act → World → Prop} {a : Act} {w : World} (hy : StillY P ops C oj v a) (h : gOp P ops i K a w) : gOp P ops i (fun a'' w' => ∃ a', K a' w' ∧ StillY P ops C oj v a' ∧ a'' = a'.put oj.dst v) (a.put oj.dst v) w := by
  obtain ⟨h1, h2, h3⟩ := Oper.apart_spec hap
  have keep : ∀ (a : Act), StillY P ops C oj v a → ∀ u, StillY P ops C oj v (a.put oi.dst u) := fun a hy u => hy.of_same (execOp_put oj hsj a oi.dst u h3) (wanted_put oj a oi.dst u h3)
  have keepD : ∀ d, StillY P ops C oj v { a with defers := d :: a.defers } := fun d => hy.of_same rfl rfl
  unfold gOp at *
  simp only [hi] at *
  rw [wanted_put oi a oj.dst v h1]
  split
  · rename_i hw
    simp only [hw, if_true] at h
    unfold Oper.wp at *
    rw [execOp_put oi hsi a oj.dst v h1]
    generalize (execOp a.eval oi).run P w = r at *
    cases r with
    | ok n w' =>
      cases n <;> simp only [Oper.upon] at h ⊢
      case value u => exact ⟨_, h, keep a hy u, Act.put_comm a v u h2⟩
      case skip => exact ⟨_, h, keep a hy _, Act.put_comm a v undef h2⟩
      case defer d => exact ⟨_, h, keep _ (keepD d) _, by rw [Act.put_defers, Act.put_comm _ v undef h2]⟩
      case enter f args =>
        refine Calls.mono h fun e w'' he => ?_
        cases e with
        | returned u => exact ⟨_, he, keep a hy u, Act.put_comm a v u h2⟩
        | panicked c => exact he.elim
        | outgrown => obtain ⟨_, _, hx⟩ := he; exact hx.elim
      case row row args => exact Rows.mono h fun u w'' he => ⟨_, he, keep a hy u, Act.put_comm a v u h2⟩
    | halt x w' => cases x <;> simp only [Oper.upon] at h ⊢; exact h.elim
  · rename_i hw
    simp only [hw] at h
    exact ⟨_, h, keep a hy _, Act.put_comm a v undef h2⟩

/-- A still operation that may come up may be taken first. -/
theorem AnyG.first {Qn : Act → World → Prop} {C : World → Prop} {i : Nat} {oi : Oper} {v : Value} (hi : ops[i]? = some oi) (hsel : ∀ (j : Nat) (o : Oper) cs b, ops[j]? = some o → o.op ≠ .select cs b) :
    ∀ (fuel : Nat) (listed : Array Bool) (a : Act) (w : World),
      (∀ j oj, ops[j]? = some oj → j ≠ i → listed.getD j true = false → (∀ e ∈ oj.after, Region.binds md e = true → e.on ≠ i) → oi.apart ops oj = true) →
      i ∈ Region.ready md ops listed → StillY P ops C oi v a → C w →
      AnyG P md ops Qn C fuel (listed.setIfInBounds i true) (a.put oi.dst v) w → AnyG P md ops Qn C (fuel + 1) listed a w := by
  intro fuel
  induction fuel with
  | zero =>
    intro listed a w _ hr hy hC H
    refine ⟨fun h => (by rw [h] at hr; cases hr), fun j hj => ?_⟩
    by_cases hji : j = i
    · subst hji; exact hy.gOp hi hC ⟨hC, H⟩
    · have := ready_mono hj hji
      rw [H.1] at this
      cases this
  | succ fuel ih =>
    intro listed a w hfree hr hy hC H
    refine ⟨fun h => (by rw [h] at hr; cases hr), fun j hj => ?_⟩
    by_cases hji : j = i
    · subst hji; exact hy.gOp hi hC ⟨hC, H⟩
    · have h1 := H.2 j (ready_mono hj hji)
      obtain ⟨hjun, oj, hoj, hall⟩ := mem_ready.1 hj
      have hnot : ∀ e ∈ oj.after, Region.binds md e = true → e.on ≠ i := fun e he hb heq => by
        have h1 := hall e he hb
        have h0 := (mem_ready.1 hr).1
        rw [heq] at h1
        rcases Nat.lt_or_ge i listed.size with h' | h'
        · simp [h'] at h0 h1; rw [h0] at h1; cases h1
        · simp [Array.getElem?_eq_none h'] at h1
      have h2 := gOp_put hoj (hfree j oj hoj hji hjun hnot) (fun cs b => hsel i oi cs b hi) (fun cs b => hsel j oj cs b hoj) hy h1
      have hfree' : ∀ k ok, ops[k]? = some ok → k ≠ i → (listed.setIfInBounds j true).getD k true = false →
          (∀ e ∈ ok.after, Region.binds md e = true → e.on ≠ i) → oi.apart ops ok = true := fun k ok hk hki hun hno => by
        refine hfree k ok hk hki ?_ hno
        by_cases hjk : j = k
        · subst hjk; exact hjun
        · rw [getD_set_ne true hjk] at hun; exact hun
      refine gOp_mono (fun a' w' ⟨h3, h4, h5⟩ => ⟨h4, ih (listed.setIfInBounds j true) a' w' hfree' (ready_mono hr (Ne.symm hji)) h3 h4 ?_⟩) h2
      rw [Array.setIfInBounds_comm _ _ hji]
      exact h5

/-- Operation m waits for operation i. -/
def waitsOn (md : Region.Mode) (ops : Array Oper) (i : Nat) : Nat → Nat → Bool
  | 0, _ => false
  | f + 1, m => match ops[m]? with
    | some o => o.after.any fun e => Region.binds md e && (e.on == i || waitsOn md ops i f e.on)
    | none => false

def Closed (md : Region.Mode) (ops : Array Oper) (listed : Array Bool) : Prop := ∀ m o, ops[m]? = some o → listed.getD m false = true → ∀ e ∈ o.after, Region.binds md e = true → listed.getD e.on false = true

theorem waits_listed {i : Nat} {listed : Array Bool} (hcl : Closed md ops listed) (f : Nat) : ∀ (m : Nat) (o : Oper), ops[m]? = some o → waitsOn md ops i f m = true → (∀ e ∈ o.after, Region.binds md e = true → listed.getD e.on false = true) → listed.getD i false = true := by
  induction f with
  | zero => intro m o _ h; simp [waitsOn] at h
  | succ f ih =>
    intro m o ho h hall
    unfold waitsOn at h
    simp only [ho] at h
    obtain ⟨e, he, hb⟩ := Array.any_eq_true'.1 h
    simp only [Bool.and_eq_true, Bool.or_eq_true, beq_iff_eq] at hb
    obtain ⟨hb1, hb2⟩ := hb
    have hl := hall e he hb1
    rcases hb2 with hb2 | hb2
    · rw [← hb2]; exact hl
    · cases hoe : ops[e.on]? with
      | none => cases f <;> simp [waitsOn, hoe] at hb2
      | some oe => exact ih e.on oe hoe hb2 (hcl e.on oe hoe hl)

theorem Closed.set {i : Nat} {listed : Array Bool} (hcl : Closed md ops listed) (hr : i ∈ Region.ready md ops listed) : Closed md ops (listed.setIfInBounds i true) := by
  intro m o ho hm e he hb
  by_cases hmi : i = m
  · subst hmi
    obtain ⟨_, o', ho', hall⟩ := mem_ready.1 hr
    rw [ho] at ho'
    obtain rfl := Option.some.inj ho'
    exact getD_set_true (hall e he hb)
  · rw [getD_set_ne false hmi] at hm
    exact getD_set_true (hcl m o ho hm e he hb)

def isMove (o : Oper) : Bool := match o.op with | .move _ => true | _ => false

theorem move_still {C : World → Prop} {o : Oper} (h : isMove o = true) (a : Act) : ∃ v, StillY P ops C o v a := by
  unfold isMove at h
  split at h
  · rename_i x hx
    by_cases hw : Region.wanted o (yielded ops a.tmps) = true
    · exact ⟨a.eval x, .inl ⟨hw, fun w _ => by simp [execOp, hx]⟩⟩
    · exact ⟨undef, .inr ⟨by simpa using hw, rfl⟩⟩
  · cases h

/-- An operation for which all others wait, but for moves. -/
theorem AnyG.only {Qn : Act → World → Prop} {C : World → Prop} {i : Nat} {oi : Oper} (hi : ops[i]? = some oi) (hsel : ∀ (j : Nat) (o : Oper) cs b, ops[j]? = some o → o.op ≠ .select cs b) :
    ∀ (fuel : Nat) (listed : Array Bool) (a : Act) (w : World), Closed md ops listed →
      (∀ j oj, ops[j]? = some oj → j ≠ i → listed.getD j true = false → waitsOn md ops i ops.size j = true ∨ (isMove oj = true ∧ oj.apart ops oi = true)) →
      i ∈ Region.ready md ops listed → C w →
      gOp P ops i (fun a' w' => C w' ∧ AnyG P md ops Qn C fuel (listed.setIfInBounds i true) a' w') a w → AnyG P md ops Qn C (fuel + 1) listed a w := by
  intro fuel
  induction fuel with
  | zero =>
    intro listed a w _ _ hr _ H
    refine ⟨fun h => (by rw [h] at hr; cases hr), fun j hj => ?_⟩
    by_cases hji : j = i
    · subst hji; exact H
    · obtain ⟨a', w', _, h0, _⟩ := gOp_some H
      have := ready_mono hj hji
      rw [h0] at this
      cases this
  | succ fuel ih =>
    intro listed a w hcl hst hr hC H
    refine ⟨fun h => (by rw [h] at hr; cases hr), fun j hj => ?_⟩
    by_cases hji : j = i
    · subst hji; exact H
    · obtain ⟨hjun, oj, hoj, hall⟩ := mem_ready.1 hj
      rcases hst j oj hoj hji hjun with hw | ⟨hmv, hap⟩
      · exfalso
        have h1 := waits_listed hcl _ _ _ hoj hw hall
        have h0 := (mem_ready.1 hr).1
        rcases Nat.lt_or_ge i listed.size with h' | h'
        · simp [h'] at h0 h1; rw [h0] at h1; cases h1
        · simp [Array.getElem?_eq_none h'] at h1
      · obtain ⟨v, hy⟩ := move_still (P := P) (ops := ops) (C := fun _ => True) hmv a
        refine hy.gOp hoj trivial ⟨hC, ?_⟩
        refine ih (listed.setIfInBounds j true) (a.put oj.dst v) w (hcl.set hj) (fun k ok hk hki hun => hst k ok hk hki ?_) (ready_mono hr (Ne.symm hji)) hC ?_
        · by_cases hjk : j = k
          · subst hjk; exact hjun
          · rw [getD_set_ne true hjk] at hun; exact hun
        · refine gOp_mono ?_ (gOp_tup hi hap (fun cs b => hsel i oi cs b hi) (fun cs b => hsel j oj cs b hoj) hy H)
          rintro a'' w' ⟨a', ⟨hc', h5⟩, hy', rfl⟩
          refine ⟨hc', ?_⟩
          have h6 := (hy'.out hoj trivial (h5.2 j (ready_mono hj hji))).2
          rw [Array.setIfInBounds_comm _ _ (Ne.symm hji)] at h6
          exact h6

/-- Operations that look and leave the world alone. -/
def lookKind (o : Oper) : Bool := match o.op with
  | .nilCheck _ | .move _ | .assign _ | .pick .. | .load .. | .binOp .. | .unOp .. | .fieldAddr .. | .field .. | .indexAddr .. | .index .. | .slice .. => true
  | .call { callee := .builtin .len, .. } => true
  | _ => false

/-- The walk in the order of the text. -/
def wpM (P : Program) (ops : Array Oper) (Qn : Act → World → Prop) : List Oper → Act → (World → Prop) → Prop
  | [], a, C => ∀ w, C w → Qn a w
  | o :: rest, a, C =>
    if Region.wanted o (yielded ops a.tmps) then
      (lookKind o = true ∧ ∃ v, (∀ w, C w → (execOp a.eval o).run P w = .ok (.value v) w) ∧ wpM P ops Qn rest (a.put o.dst v) C) ∨
      (lookKind o = false ∧ ∀ w, C w → o.wp P a w (fun a' w' => ∃ C' : World → Prop, C' w' ∧ (∀ w, C' w → C w) ∧ wpM P ops Qn rest a' C') noOut)
    else wpM P ops Qn rest (a.put o.dst undef) C

def onlyB (md : Region.Mode) (ops : Array Oper) (listed : Array Bool) (k : Nat) : Bool := match ops[k]? with
  | none => false
  | some ok => (List.range ops.size).all fun j => j == k || listed.getD j true || waitsOn md ops k ops.size j || (match ops[j]? with | some oj => isMove oj && oj.apart ops ok | none => true)

theorem onlyB_spec {listed : Array Bool} {k : Nat} {ok : Oper} (hk : ops[k]? = some ok) (h : onlyB md ops listed k = true) : ∀ j oj, ops[j]? = some oj → j ≠ k → listed.getD j true = false → waitsOn md ops k ops.size j = true ∨ (isMove oj = true ∧ oj.apart ops ok = true) := by
  intro j oj hj hne hun
  simp only [onlyB, hk, List.all_eq_true, List.mem_range] at h
  have h1 := h j (Array.getElem?_eq_some_iff.1 hj).1
  simp only [hj, Bool.or_eq_true, beq_iff_eq, hne, false_or, hun, Bool.false_eq_true, Bool.and_eq_true] at h1
  exact h1

def mixFrom (md : Region.Mode) (ops : Array Oper) : List Oper → Nat → Array Bool → Bool
  | [], _, listed => (Region.ready md ops listed).isEmpty
  | o :: l, k, listed => (Region.ready md ops listed).contains k && (match lookKind o with | true => Region.free md ops listed k | false => onlyB md ops listed k) && mixFrom md ops l (k + 1) (listed.setIfInBounds k true)

def mixB (ops : List Oper) : Bool := Region.noSelect ops.toArray && mixFrom .any ops.toArray ops 0 (Array.replicate ops.length false)

theorem anyG_lex {Qn : Act → World → Prop} (hs : Region.noSelect ops = true) : ∀ (l : List Oper) (k : Nat) (listed : Array Bool) (a : Act) (C : World → Prop) (w : World), (∀ j, l[j]? = ops[k + j]?) →
    mixFrom md ops l k listed = true → Closed md ops listed → C w → wpM P ops Qn l a C → AnyG P md ops Qn C l.length listed a w
  | [], _, _, _, _, _, _, hB, _, hC, h => ⟨by simpa [mixFrom] using hB, h _ hC⟩
  | o :: l, k, listed, a, C, w, hl, hB, hcl, hC, h => by
    have h0 : ops[k]? = some o := by simpa using (hl 0).symm
    have hl' : ∀ j, l[j]? = ops[(k + 1) + j]? := fun j => by have := hl (j + 1); simpa [Nat.add_assoc, Nat.add_comm 1 j] using this
    simp only [mixFrom, Bool.and_eq_true] at hB
    obtain ⟨⟨hr, hf⟩, hB'⟩ := hB
    have hr' : k ∈ Region.ready md ops listed := by simpa using hr
    unfold wpM at h
    cases hk : lookKind o with
    | true =>
      rw [hk] at hf
      have hgo : ∀ v, StillY P ops C o v a → wpM P ops Qn l (a.put o.dst v) C → AnyG P md ops Qn C (o :: l).length listed a w := fun v hy hK =>
        AnyG.first h0 (Region.noSelect_spec hs) l.length listed a w (Region.free_spec h0 hf) hr' hy hC (anyG_lex hs l (k + 1) _ _ C w hl' hB' (hcl.set hr') hC hK)
      by_cases hw : Region.wanted o (yielded ops a.tmps) = true
      · rw [if_pos hw] at h
        rcases h with ⟨_, v, hv, hK⟩ | ⟨hn, _⟩
        · exact hgo v (.inl ⟨hw, hv⟩) hK
        · rw [hk] at hn; cases hn
      · rw [if_neg hw] at h
        exact hgo undef (.inr ⟨by simpa using hw, rfl⟩) h
    | false =>
      rw [hk] at hf
      refine AnyG.only h0 (Region.noSelect_spec hs) l.length listed a w hcl (onlyB_spec h0 hf) hr' hC ?_
      unfold gOp
      simp only [h0]
      by_cases hw : Region.wanted o (yielded ops a.tmps) = true
      · rw [if_pos hw] at h ⊢
        rcases h with ⟨hn, _⟩ | ⟨_, h⟩
        · rw [hk] at hn; cases hn
        · exact Oper.wp_mono (fun a' w' ⟨C', hc', hsub, hK⟩ => ⟨hsub _ hc', AnyG.mono hsub _ _ _ _ (anyG_lex hs l (k + 1) _ a' C' w' hl' hB' (hcl.set hr') hc' hK)⟩) (h w hC)
      · rw [if_neg hw] at h ⊢
        exact ⟨hC, anyG_lex hs l (k + 1) _ _ C w hl' hB' (hcl.set hr') hC h⟩

theorem wp_region_mixed {id : Nat} {l : List Oper} {Q : Exit → Act → World → Prop} {Qn : Act → World → Prop} {a : Act} {w : World} {C : World → Prop} (hm : P.follows .mixedOrders = true) (hB : mixB l = true) (hC : C { w with drawn := w.drawn + 1 })
    (hQ : ∀ a w, Qn a w → Q .normal a w) (h : wpM P l.toArray Qn l a C) : (Code.region id l.toArray true).wp P Q a w := by
  simp only [mixB, Bool.and_eq_true] at hB
  refine wp_region_any hm (AnyG.sound (C := C) hQ _ _ _ _ ?_)
  have := anyG_lex (P := P) (md := .any) (Qn := Qn) hB.1 l 0 (Array.replicate l.length false) a C _ (by simp) hB.2 (fun m o ho hm e he hb => by
    exfalso
    have hlt : m < l.length := by have := (Array.getElem?_eq_some_iff.1 ho).1; simpa using this
    simp [hlt] at hm) hC h
  simpa using this

/-! .. in another order than the text's. -/
def nthOp : List Oper → Nat → Option Oper
  | [], _ => none
  | o :: _, 0 => some o
  | _ :: r, k + 1 => nthOp r k
theorem nthOp_eq : ∀ (l : List Oper) (k : Nat), nthOp l k = l[k]?
  | [], _ => by simp [nthOp]
  | _ :: _, 0 => by simp [nthOp]
  | _ :: r, k + 1 => by simp [nthOp, nthOp_eq r k]
def pickOps (l : List Oper) : List Nat → List Oper
  | [] => []
  | k :: r => match nthOp l k with
    | some o => o :: pickOps l r
    | none => []
def ordFrom (md : Region.Mode) (l : List Oper) : List Nat → Array Bool → Bool
  | [], listed => (Region.ready md l.toArray listed).isEmpty
  | k :: r, listed => (Region.ready md l.toArray listed).contains k && (match nthOp l k with | some o => (match lookKind o with | true => Region.free md l.toArray listed k | false => onlyB md l.toArray listed k) | none => false) && ordFrom md l r (listed.setIfInBounds k true)
def ordB (l : List Oper) (ord : List Nat) : Bool := Region.noSelect l.toArray && (ord.length == l.length) && ordFrom .any l ord (Array.replicate l.length false)

theorem anyG_ord {L : List Oper} {Qn : Act → World → Prop} (hs : Region.noSelect L.toArray = true) : ∀ (ord : List Nat) (listed : Array Bool) (a : Act) (C : World → Prop) (w : World),
    ordFrom md L ord listed = true → Closed md L.toArray listed → C w → wpM P L.toArray Qn (pickOps L ord) a C → AnyG P md L.toArray Qn C ord.length listed a w
  | [], _, _, _, _, hB, _, hC, h => ⟨by simpa [ordFrom] using hB, h _ hC⟩
  | k :: r, listed, a, C, w, hB, hcl, hC, h => by
    simp only [ordFrom, Bool.and_eq_true] at hB
    obtain ⟨⟨hr, hf⟩, hB'⟩ := hB
    have hr' : k ∈ Region.ready md L.toArray listed := by simpa using hr
    cases hn : nthOp L k with
    | none => rw [hn] at hf; cases hf
    | some o =>
    have h0 : L.toArray[k]? = some o := by rw [← hn, nthOp_eq]; simp
    unfold pickOps at h
    rw [hn] at hf h
    dsimp only at hf h
    unfold wpM at h
    cases hk : lookKind o with
    | true =>
      rw [hk] at hf
      have hgo : ∀ v, StillY P L.toArray C o v a → wpM P L.toArray Qn (pickOps L r) (a.put o.dst v) C → AnyG P md L.toArray Qn C (k :: r).length listed a w := fun v hy hK =>
        AnyG.first h0 (Region.noSelect_spec hs) r.length listed a w (Region.free_spec h0 hf) hr' hy hC (anyG_ord hs r _ _ C w hB' (hcl.set hr') hC hK)
      by_cases hw : Region.wanted o (yielded L.toArray a.tmps) = true
      · rw [if_pos hw] at h
        rcases h with ⟨_, v, hv, hK⟩ | ⟨hn, _⟩
        · exact hgo v (.inl ⟨hw, hv⟩) hK
        · rw [hk] at hn; cases hn
      · rw [if_neg hw] at h
        exact hgo undef (.inr ⟨by simpa using hw, rfl⟩) h
    | false =>
      rw [hk] at hf
      refine AnyG.only h0 (Region.noSelect_spec hs) r.length listed a w hcl (onlyB_spec h0 hf) hr' hC ?_
      unfold gOp
      simp only [h0]
      by_cases hw : Region.wanted o (yielded L.toArray a.tmps) = true
      · rw [if_pos hw] at h ⊢
        rcases h with ⟨hn, _⟩ | ⟨_, h⟩
        · rw [hk] at hn; cases hn
        · exact Oper.wp_mono (fun a' w' ⟨C', hc', hsub, hK⟩ => ⟨hsub _ hc', AnyG.mono hsub _ _ _ _ (anyG_ord hs r _ a' C' w' hB' (hcl.set hr') hc' hK)⟩) (h w hC)
      · rw [if_neg hw] at h ⊢
        exact ⟨hC, anyG_ord hs r _ _ C w hB' (hcl.set hr') hC h⟩

theorem wp_region_ord {id : Nat} {l : List Oper} (ord : List Nat) {Q : Exit → Act → World → Prop} {Qn : Act → World → Prop} {a : Act} {w : World} {C : World → Prop} (hm : P.follows .mixedOrders = true) (hB : ordB l ord = true) (hC : C { w with drawn := w.drawn + 1 })
    (hQ : ∀ a w, Qn a w → Q .normal a w) (h : wpM P l.toArray Qn (pickOps l ord) a C) : (Code.region id l.toArray true).wp P Q a w := by
  simp only [ordB, Bool.and_eq_true, beq_iff_eq] at hB
  refine wp_region_any hm (AnyG.sound (C := C) hQ _ _ _ _ ?_)
  have := anyG_ord (P := P) (md := .any) (Qn := Qn) hB.1.1 ord (Array.replicate l.length false) a C _ hB.2 (fun m o ho hm e he hb => by
    exfalso
    have hlt : m < l.length := by have := (Array.getElem?_eq_some_iff.1 ho).1; simpa using this
    simp [hlt] at hm) hC h
  simpa [hB.1.2] using this
end
end Go.Pw
