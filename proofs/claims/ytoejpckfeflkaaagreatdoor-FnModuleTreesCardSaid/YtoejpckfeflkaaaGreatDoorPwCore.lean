import Derived.WalkKit
import Derived.Deep.Quiet
import Derived.Deep.LoopGhost
/- Regions that draw their order, in which some operations only look at what is there and the others make new blocks alone: the order of the text serves for every order. -/
namespace Go.Pw
open Go Go.RowKit

section
variable {P : Program} {ops : Array Oper} {md : Region.Mode}

def noOut : Exit → Act → World → Prop := fun _ _ _ => False

def gOp (P : Program) (ops : Array Oper) (i : Nat) (K : Act → World → Prop) (a : Act) (w : World) : Prop :=
  match ops[i]? with
  | none => K a w
  | some o => if Region.wanted o (yielded ops a.tmps) then o.wp P a w K noOut else K (a.put o.dst undef) w

theorem gOp_mono {i : Nat} {a : Act} {w : World} {K K' : Act → World → Prop} (h : ∀ a w, K a w → K' a w) (hh : gOp P ops i K a w) : gOp P ops i K' a w := by
  unfold gOp at *
  split
  · exact h _ _ (by simpa [*] using hh)
  · rename_i o ho
    simp only [ho] at hh
    split
    · rename_i hw; simp only [hw, if_true] at hh; exact Oper.wp_mono h hh
    · rename_i hw; simp only [hw] at hh; exact h _ _ hh

theorem wp_some {o : Oper} {a : Act} {w : World} {K : Act → World → Prop} (h : o.wp P a w K noOut) : ∃ a' w', K a' w' := by
  unfold Oper.wp at h
  generalize (execOp a.eval o).run P w = r at *
  cases r with
  | ok n w' =>
    cases n <;> simp only [Oper.upon] at h
    case value u => exact ⟨_, _, h⟩
    case skip => exact ⟨_, _, h⟩
    case defer d => exact ⟨_, _, h⟩
    case enter f args =>
      obtain ⟨e, w2, fr, hR, _⟩ := h []
      cases e with
      | returned v => exact ⟨_, _, hR⟩
      | panicked c => exact hR.elim
      | outgrown => obtain ⟨_, _, hx⟩ := hR; exact hx.elim
    case row row args =>
      obtain ⟨v, w2, hR, _⟩ := h default []
      exact ⟨_, _, hR⟩
  | halt x w' => cases x <;> simp only [Oper.upon] at h; exact h.elim

theorem gOp_some {i : Nat} {a : Act} {w : World} {K : Act → World → Prop} (h : gOp P ops i K a w) : ∃ a' w', K a' w' := by
  unfold gOp at h
  split at h
  · exact ⟨_, _, h⟩
  · split at h
    · exact wp_some h
    · exact ⟨_, _, h⟩

def AnyG (P : Program) (md : Region.Mode) (ops : Array Oper) (Qn : Act → World → Prop) (C : World → Prop) : Nat → Array Bool → Act → World → Prop
  | 0, listed, a, w => Region.ready md ops listed = [] ∧ Qn a w
  | fuel + 1, listed, a, w => (Region.ready md ops listed = [] → Qn a w) ∧
      ∀ i ∈ Region.ready md ops listed, gOp P ops i (fun a' w' => C w' ∧ AnyG P md ops Qn C fuel (listed.setIfInBounds i true) a' w') a w

theorem AnyG.mono {Qn : Act → World → Prop} {C C' : World → Prop} (hC : ∀ w, C' w → C w) : ∀ (fuel : Nat) (listed : Array Bool) (a : Act) (w : World), AnyG P md ops Qn C' fuel listed a w → AnyG P md ops Qn C fuel listed a w
  | 0, _, _, _, h => h
  | fuel + 1, _, _, _, h => ⟨h.1, fun i hi => gOp_mono (fun a' w' ⟨hc, hh⟩ => ⟨hC _ hc, AnyG.mono hC fuel _ a' w' hh⟩) (h.2 i hi)⟩

theorem AnyG.sound {Qn : Act → World → Prop} {C : World → Prop} {Q : Exit → Act → World → Prop} (hQ : ∀ a w, Qn a w → Q .normal a w) : ∀ (fuel : Nat) (listed : Array Bool) (a : Act) (w : World), AnyG P md ops Qn C fuel listed a w → wpAny P md ops Q fuel listed a w
  | 0, _, _, _, h => ⟨h.1, hQ _ _ h.2⟩
  | fuel + 1, _, a, w, h => ⟨fun h0 => hQ _ _ (h.1 h0), fun i hi => by
      have h2 := h.2 i hi
      unfold gOp at h2
      unfold wpOp
      split
      · rename_i ho; simp only [ho] at h2; exact AnyG.sound hQ fuel _ _ _ h2.2
      · rename_i o ho
        simp only [ho] at h2
        split
        · rename_i hw
          simp only [hw, if_true] at h2
          refine .inl ?_
          unfold Oper.wp at *
          generalize (execOp a.eval o).run P w = r at *
          cases r with
          | ok n w' =>
            cases n <;> simp only [Oper.upon] at h2 ⊢
            case value u => exact AnyG.sound hQ fuel _ _ _ h2.2
            case skip => exact AnyG.sound hQ fuel _ _ _ h2.2
            case defer d => exact AnyG.sound hQ fuel _ _ _ h2.2
            case enter f args =>
              refine Calls.mono h2 fun e w'' he => ?_
              cases e with
              | returned u => exact AnyG.sound hQ fuel _ _ _ he.2
              | panicked c => exact he.elim
              | outgrown => obtain ⟨_, _, hx⟩ := he; exact hx.elim
            case row row args => exact Rows.mono h2 fun u w'' he => AnyG.sound hQ fuel _ _ _ he.2
          | halt x w' => cases x <;> simp only [Oper.upon] at h2 ⊢; exact h2.elim
        · rename_i hw
          simp only [hw] at h2
          exact AnyG.sound hQ fuel _ _ _ h2.2⟩

/-- In every world of the class the operation leaves 'v', and the world as it was. -/
def StillY (P : Program) (ops : Array Oper) (C : World → Prop) (o : Oper) (v : Value) (a : Act) : Prop :=
  (Region.wanted o (yielded ops a.tmps) = true ∧ ∀ w, C w → (execOp a.eval o).run P w = .ok (.value v) w) ∨ (Region.wanted o (yielded ops a.tmps) = false ∧ v = undef)

theorem StillY.gOp {C : World → Prop} {i : Nat} {o : Oper} {v : Value} {a : Act} (hi : ops[i]? = some o) (hy : StillY P ops C o v a) {K : Act → World → Prop} {w : World} (hw : C w) (h : K (a.put o.dst v) w) : gOp P ops i K a w := by
  unfold Go.Pw.gOp
  simp only [hi]
  rcases hy with ⟨h1, hv⟩ | ⟨h1, rfl⟩
  · simp only [h1, if_true, Oper.wp, hv w hw, Oper.upon]; exact h
  · simp only [h1, Bool.false_eq_true, if_false]; exact h

/-- What a still operation hands on. -/
theorem StillY.out {C : World → Prop} {i : Nat} {o : Oper} {v : Value} {a : Act} (hi : ops[i]? = some o) (hy : StillY P ops C o v a) {K : Act → World → Prop} {w : World} (hw : C w) (h : Go.Pw.gOp P ops i K a w) : K (a.put o.dst v) w := by
  unfold Go.Pw.gOp at h
  simp only [hi] at h
  rcases hy with ⟨h1, hv⟩ | ⟨h1, rfl⟩
  · simp only [h1, if_true, Oper.wp, hv w hw, Oper.upon] at h; exact h
  · simp only [h1, Bool.false_eq_true, if_false] at h; exact h

theorem StillY.of_same {C : World → Prop} {o : Oper} {v : Value} {a a' : Act} (hy : StillY P ops C o v a) (he : execOp a'.eval o = execOp a.eval o)
    (hw : Region.wanted o (yielded ops a'.tmps) = Region.wanted o (yielded ops a.tmps)) : StillY P ops C o v a' := by
  unfold StillY at *
  rw [he, hw]
  exact hy

/-- An operation is carried out beside one that is apart from it and whose value is there already. -/
theorem gOp_put {C : World → Prop} {j : Nat} {oi oj : Oper} {v : Value} (hj : ops[j]? = some oj) (hap : oi.apart ops oj = true) (hsi : ∀ cs b, oi.op ≠ .select cs b) (hsj : ∀ cs b, oj.op ≠ .select cs b)
    {K : Act → World → Prop} {a : Act} {w : World} (hy : StillY P ops C oi v a) (h : gOp P ops j K (a.put oi.dst v) w) : gOp P ops j (fun a' w' => StillY P ops C oi v a' ∧ K (a'.put oi.dst v) w') a w := by
  obtain ⟨h1, h2, h3⟩ := Oper.apart_spec hap
  have keep : ∀ (a : Act), StillY P ops C oi v a → ∀ u, StillY P ops C oi v (a.put oj.dst u) := fun a hy u => hy.of_same (execOp_put oi hsi a oj.dst u h3) (wanted_put oi a oj.dst u h3)
  have keepD : ∀ d, StillY P ops C oi v { a with defers := d :: a.defers } := fun d => hy.of_same rfl rfl
  unfold gOp at *
  simp only [hj] at *
  rw [wanted_put oj a oi.dst v h1] at h
  split
  · rename_i hw
    simp only [hw, if_true] at h
    unfold Oper.wp at *
    rw [execOp_put oj hsj a oi.dst v h1] at h
    generalize (execOp a.eval oj).run P w = r at *
    cases r with
    | ok n w' =>
      cases n <;> simp only [Oper.upon] at h ⊢
      case value u => exact ⟨keep a hy u, by rw [← Act.put_comm a v u h2]; exact h⟩
      case skip => exact ⟨keep a hy _, by rw [← Act.put_comm a v undef h2]; exact h⟩
      case defer d =>
        refine ⟨keep _ (keepD d) _, ?_⟩
        rw [← Act.put_comm _ v undef h2, ← Act.put_defers]
        exact h
      case enter f args =>
        refine Calls.mono h fun e w'' he => ?_
        cases e with
        | returned u => exact ⟨keep a hy u, by rw [← Act.put_comm a v u h2]; exact he⟩
        | panicked c => exact he.elim
        | outgrown => obtain ⟨_, _, hx⟩ := he; exact hx.elim
      case row row args => exact Rows.mono h fun u w'' he => ⟨keep a hy u, by rw [← Act.put_comm a v u h2]; exact he⟩
    | halt x w' => cases x <;> simp only [Oper.upon] at h ⊢; exact h.elim
  · rename_i hw
    simp only [hw] at h
    exact ⟨keep a hy _, by rw [← Act.put_comm a v undef h2]; exact h⟩

/-- .. the other way round. -/
theorem gOp_tup {C : World → Prop} {i : Nat} {oi oj : Oper} {v : Value} (hi : ops[i]? = some oi) (hap : oj.apart ops oi = true) (hsi : ∀ cs b, oi.op ≠ .select cs b) (hsj : ∀ cs b, oj.op ≠ .select cs b)
    {K : Act → World → Prop} {a : Act} {w : World} (hy : StillY P ops C oj v a) (h : gOp P ops i K a w) : gOp P ops i (fun a'' w' => ∃ a', K a' w' ∧ StillY P ops C oj v a' ∧ a'' = a'.put oj.dst v) (a.put oj.dst v) w := by
  obtain ⟨h1, h2, h3⟩ := Oper.apart_spec hap
  have keep : ∀ (a : Act), StillY P ops C oj v a → ∀ u, StillY P ops C oj v (a.put oi.dst u) := fun a hy u => hy.of_same (execOp_put oj hsj a oi.dst u h3) (wanted_put oj a oi.dst u h3)
  have keepD : ∀ d, StillY P ops C oj v { a with defers := d :: a.defers } := fun d => hy.of_same rfl rfl
  unfold gOp at *
  simp only [hi] at *
  rw [wanted_put oi a oj.dst v h1]
  split
  · rename_i hw
    simp only [hw, if_true] at h
    unfold Oper.wp at *
    rw [execOp_put oi hsi a oj.dst v h1]
    generalize (execOp a.eval oi).run P w = r at *
    cases r with
    | ok n w' =>
      cases n <;> simp only [Oper.upon] at h ⊢
      case value u => exact ⟨_, h, keep a hy u, Act.put_comm a v u h2⟩
      case skip => exact ⟨_, h, keep a hy _, Act.put_comm a v undef h2⟩
      case defer d => exact ⟨_, h, keep _ (keepD d) _, by rw [Act.put_defers, Act.put_comm _ v undef h2]⟩
      case enter f args =>
        refine Calls.mono h fun e w'' he => ?_
        cases e with
        | returned u => exact ⟨_, he, keep a hy u, Act.put_comm a v u h2⟩
        | panicked c => exact he.elim
        | outgrown => obtain ⟨_, _, hx⟩ := he; exact hx.elim
      case row row args => exact Rows.mono h fun u w'' he => ⟨_, he, keep a hy u, Act.put_comm a v u h2⟩
    | halt x w' => cases x <;> simp only [Oper.upon] at h ⊢; exact h.elim
  · rename_i hw
    simp only [hw] at h
    exact ⟨_, h, keep a hy _, Act.put_comm a v undef h2⟩

/-- A still operation that may come up may be taken first. -/
theorem AnyG.first {Qn : Act → World → Prop} {C : World → Prop} {i : Nat} {oi : Oper} {v : Value} (hi : ops[i]? = some oi) (hsel : ∀ (j : Nat) (o : Oper) cs b, ops[j]? = some o → o.op ≠ .select cs b) :
    ∀ (fuel : Nat) (listed : Array Bool) (a : Act) (w : World),
      (∀ j oj, ops[j]? = some oj → j ≠ i → listed.getD j true = false → (∀ e ∈ oj.after, Region.binds md e = true → e.on ≠ i) → oi.apart ops oj = true) →
      i ∈ Region.ready md ops listed → StillY P ops C oi v a → C w →
      AnyG P md ops Qn C fuel (listed.setIfInBounds i true) (a.put oi.dst v) w → AnyG P md ops Qn C (fuel + 1) listed a w := by
  intro fuel
  induction fuel with
  | zero =>
    intro listed a w _ hr hy hC H
    refine ⟨fun h => (by rw [h] at hr; cases hr), fun j hj => ?_⟩
    by_cases hji : j = i
    · subst hji; exact hy.gOp hi hC ⟨hC, H⟩
    · have := ready_mono hj hji
      rw [H.1] at this
      cases this
  | succ fuel ih =>
    intro listed a w hfree hr hy hC H
    refine ⟨fun h => (by rw [h] at hr; cases hr), fun j hj => ?_⟩
    by_cases hji : j = i
    · subst hji; exact hy.gOp hi hC ⟨hC, H⟩
    · have h1 := H.2 j (ready_mono hj hji)
      obtain ⟨hjun, oj, hoj, hall⟩ := mem_ready.1 hj
      have hnot : ∀ e ∈ oj.after, Region.binds md e = true → e.on ≠ i := fun e he hb heq => by
        have h1 := hall e he hb
        have h0 := (mem_ready.1 hr).1
        rw [heq] at h1
        rcases Nat.lt_or_ge i listed.size with h' | h'
        · simp [h'] at h0 h1; rw [h0] at h1; cases h1
        · simp [Array.getElem?_eq_none h'] at h1
      have h2 := gOp_put hoj (hfree j oj hoj hji hjun hnot) (fun cs b => hsel i oi cs b hi) (fun cs b => hsel j oj cs b hoj) hy h1
      have hfree' : ∀ k ok, ops[k]? = some ok → k ≠ i → (listed.setIfInBounds j true).getD k true = false →
          (∀ e ∈ ok.after, Region.binds md e = true → e.on ≠ i) → oi.apart ops ok = true := fun k ok hk hki hun hno => by
        refine hfree k ok hk hki ?_ hno
        by_cases hjk : j = k
        · subst hjk; exact hjun
        · rw [getD_set_ne true hjk] at hun; exact hun
      refine gOp_mono (fun a' w' ⟨h3, h4, h5⟩ => ⟨h4, ih (listed.setIfInBounds j true) a' w' hfree' (ready_mono hr (Ne.symm hji)) h3 h4 ?_⟩) h2
      rw [Array.setIfInBounds_comm _ _ hji]
      exact h5

/-- Operation m waits for operation i. -/
def waitsOn (md : Region.Mode) (ops : Array Oper) (i : Nat) : Nat → Nat → Bool
  | 0, _ => false
  | f + 1, m => match ops[m]? with
    | some o => o.after.any fun e => Region.binds md e && (e.on == i || waitsOn md ops i f e.on)
    | none => false

def Closed (md : Region.Mode) (ops : Array Oper) (listed : Array Bool) : Prop := ∀ m o, ops[m]? = some o → listed.getD m false = true → ∀ e ∈ o.after, Region.binds md e = true → listed.getD e.on false = true

theorem waits_listed {i : Nat} {listed : Array Bool} (hcl : Closed md ops listed) (f : Nat) : ∀ (m : Nat) (o : Oper), ops[m]? = some o → waitsOn md ops i f m = true → (∀ e ∈ o.after, Region.binds md e = true → listed.getD e.on false = true) → listed.getD i false = true := by
  induction f with
  | zero => intro m o _ h; simp [waitsOn] at h
  | succ f ih =>
    intro m o ho h hall
    unfold waitsOn at h
    simp only [ho] at h
    obtain ⟨e, he, hb⟩ := Array.any_eq_true'.1 h
    simp only [Bool.and_eq_true, Bool.or_eq_true, beq_iff_eq] at hb
    obtain ⟨hb1, hb2⟩ := hb
    have hl := hall e he hb1
    rcases hb2 with hb2 | hb2
    · rw [← hb2]; exact hl
    · cases hoe : ops[e.on]? with
      | none => cases f <;> simp [waitsOn, hoe] at hb2
      | some oe => exact ih e.on oe hoe hb2 (hcl e.on oe hoe hl)

theorem Closed.set {i : Nat} {listed : Array Bool} (hcl : Closed md ops listed) (hr : i ∈ Region.ready md ops listed) : Closed md ops (listed.setIfInBounds i true) := by
  intro m o ho hm e he hb
  by_cases hmi : i = m
  · subst hmi
    obtain ⟨_, o', ho', hall⟩ := mem_ready.1 hr
    rw [ho] at ho'
    obtain rfl := Option.some.inj ho'
    exact getD_set_true (hall e he hb)
  · rw [getD_set_ne false hmi] at hm
    exact getD_set_true (hcl m o ho hm e he hb)

def isMove (o : Oper) : Bool := match o.op with | .move _ => true | _ => false

theorem move_still {C : World → Prop} {o : Oper} (h : isMove o = true) (a : Act) : ∃ v, StillY P ops C o v a := by
  unfold isMove at h
  split at h
  · rename_i x hx
    by_cases hw : Region.wanted o (yielded ops a.tmps) = true
    · exact ⟨a.eval x, .inl ⟨hw, fun w _ => by simp [execOp, hx]⟩⟩
    · exact ⟨undef, .inr ⟨by simpa using hw, rfl⟩⟩
  · cases h

/-- An operation for which all others wait, but for moves. -/
theorem AnyG.only {Qn : Act → World → Prop} {C : World → Prop} {i : Nat} {oi : Oper} (hi : ops[i]? = some oi) (hsel : ∀ (j : Nat) (o : Oper) cs b, ops[j]? = some o → o.op ≠ .select cs b) :
    ∀ (fuel : Nat) (listed : Array Bool) (a : Act) (w : World), Closed md ops listed →
      (∀ j oj, ops[j]? = some oj → j ≠ i → listed.getD j true = false → waitsOn md ops i ops.size j = true ∨ (isMove oj = true ∧ oj.apart ops oi = true)) →
      i ∈ Region.ready md ops listed → C w →
      gOp P ops i (fun a' w' => C w' ∧ AnyG P md ops Qn C fuel (listed.setIfInBounds i true) a' w') a w → AnyG P md ops Qn C (fuel + 1) listed a w := by
  intro fuel
  induction fuel with
  | zero =>
    intro listed a w _ _ hr _ H
    refine ⟨fun h => (by rw [h] at hr; cases hr), fun j hj => ?_⟩
    by_cases hji : j = i
    · subst hji; exact H
    · obtain ⟨a', w', _, h0, _⟩ := gOp_some H
      have := ready_mono hj hji
      rw [h0] at this
      cases this
  | succ fuel ih =>
    intro listed a w hcl hst hr hC H
    refine ⟨fun h => (by rw [h] at hr; cases hr), fun j hj => ?_⟩
    by_cases hji : j = i
    · subst hji; exact H
    · obtain ⟨hjun, oj, hoj, hall⟩ := mem_ready.1 hj
      rcases hst j oj hoj hji hjun with hw | ⟨hmv, hap⟩
      · exfalso
        have h1 := waits_listed hcl _ _ _ hoj hw hall
        have h0 := (mem_ready.1 hr).1
        rcases Nat.lt_or_ge i listed.size with h' | h'
        · simp [h'] at h0 h1; rw [h0] at h1; cases h1
        · simp [Array.getElem?_eq_none h'] at h1
      · obtain ⟨v, hy⟩ := move_still (P := P) (ops := ops) (C := fun _ => True) hmv a
        refine hy.gOp hoj trivial ⟨hC, ?_⟩
        refine ih (listed.setIfInBounds j true) (a.put oj.dst v) w (hcl.set hj) (fun k ok hk hki hun => hst k ok hk hki ?_) (ready_mono hr (Ne.symm hji)) hC ?_
        · by_cases hjk : j = k
          · subst hjk; exact hjun
          · rw [getD_set_ne true hjk] at hun; exact hun
        · refine gOp_mono ?_ (gOp_tup hi hap (fun cs b => hsel i oi cs b hi) (fun cs b => hsel j oj cs b hoj) hy H)
          rintro a'' w' ⟨a', ⟨hc', h5⟩, hy', rfl⟩
          refine ⟨hc', ?_⟩
          have h6 := (hy'.out hoj trivial (h5.2 j (ready_mono hj hji))).2
          rw [Array.setIfInBounds_comm _ _ (Ne.symm hji)] at h6
          exact h6

/-- Operations that look and leave the world alone. -/
def lookKind (o : Oper) : Bool := match o.op with
  | .nilCheck _ | .move _ | .assign _ | .pick .. | .load .. | .binOp .. | .unOp .. | .fieldAddr .. | .field .. | .indexAddr .. | .index .. | .slice .. => true
  | .call { callee := .builtin .len, .. } => true
  | _ => false

/-- The walk in the order of the text. -/
def wpM (P : Program) (ops : Array Oper) (Qn : Act → World → Prop) : List Oper → Act → (World → Prop) → Prop
  | [], a, C => ∀ w, C w → Qn a w
  | o :: rest, a, C =>
    if Region.wanted o (yielded ops a.tmps) then
      (lookKind o = true ∧ ∃ v, (∀ w, C w → (execOp a.eval o).run P w = .ok (.value v) w) ∧ wpM P ops Qn rest (a.put o.dst v) C) ∨
      (lookKind o = false ∧ ∀ w, C w → o.wp P a w (fun a' w' => ∃ C' : World → Prop, C' w' ∧ (∀ w, C' w → C w) ∧ wpM P ops Qn rest a' C') noOut)
    else wpM P ops Qn rest (a.put o.dst undef) C

def onlyB (md : Region.Mode) (ops : Array Oper) (listed : Array Bool) (k : Nat) : Bool := match ops[k]? with
  | none => false
  | some ok => (List.range ops.size).all fun j => j == k || listed.getD j true || waitsOn md ops k ops.size j || (match ops[j]? with | some oj => isMove oj && oj.apart ops ok | none => true)

theorem onlyB_spec {listed : Array Bool} {k : Nat} {ok : Oper} (hk : ops[k]? = some ok) (h : onlyB md ops listed k = true) : ∀ j oj, ops[j]? = some oj → j ≠ k → listed.getD j true = false → waitsOn md ops k ops.size j = true ∨ (isMove oj = true ∧ oj.apart ops ok = true) := by
  intro j oj hj hne hun
  simp only [onlyB, hk, List.all_eq_true, List.mem_range] at h
  have h1 := h j (Array.getElem?_eq_some_iff.1 hj).1
  simp only [hj, Bool.or_eq_true, beq_iff_eq, hne, false_or, hun, Bool.false_eq_true, Bool.and_eq_true] at h1
  exact h1

def mixFrom (md : Region.Mode) (ops : Array Oper) : List Oper → Nat → Array Bool → Bool
  | [], _, listed => (Region.ready md ops listed).isEmpty
  | o :: l, k, listed => (Region.ready md ops listed).contains k && (match lookKind o with | true => Region.free md ops listed k | false => onlyB md ops listed k) && mixFrom md ops l (k + 1) (listed.setIfInBounds k true)

def mixB (ops : List Oper) : Bool := Region.noSelect ops.toArray && mixFrom .any ops.toArray ops 0 (Array.replicate ops.length false)

theorem anyG_lex {Qn : Act → World → Prop} (hs : Region.noSelect ops = true) : ∀ (l : List Oper) (k : Nat) (listed : Array Bool) (a : Act) (C : World → Prop) (w : World), (∀ j, l[j]? = ops[k + j]?) →
    mixFrom md ops l k listed = true → Closed md ops listed → C w → wpM P ops Qn l a C → AnyG P md ops Qn C l.length listed a w
  | [], _, _, _, _, _, _, hB, _, hC, h => ⟨by simpa [mixFrom] using hB, h _ hC⟩
  | o :: l, k, listed, a, C, w, hl, hB, hcl, hC, h => by
    have h0 : ops[k]? = some o := by simpa using (hl 0).symm
    have hl' : ∀ j, l[j]? = ops[(k + 1) + j]? := fun j => by have := hl (j + 1); simpa [Nat.add_assoc, Nat.add_comm 1 j] using this
    simp only [mixFrom, Bool.and_eq_true] at hB
    obtain ⟨⟨hr, hf⟩, hB'⟩ := hB
    have hr' : k ∈ Region.ready md ops listed := by simpa using hr
    unfold wpM at h
    cases hk : lookKind o with
    | true =>
      rw [hk] at hf
      have hgo : ∀ v, StillY P ops C o v a → wpM P ops Qn l (a.put o.dst v) C → AnyG P md ops Qn C (o :: l).length listed a w := fun v hy hK =>
        AnyG.first h0 (Region.noSelect_spec hs) l.length listed a w (Region.free_spec h0 hf) hr' hy hC (anyG_lex hs l (k + 1) _ _ C w hl' hB' (hcl.set hr') hC hK)
      by_cases hw : Region.wanted o (yielded ops a.tmps) = true
      · rw [if_pos hw] at h
        rcases h with ⟨_, v, hv, hK⟩ | ⟨hn, _⟩
        · exact hgo v (.inl ⟨hw, hv⟩) hK
        · rw [hk] at hn; cases hn
      · rw [if_neg hw] at h
        exact hgo undef (.inr ⟨by simpa using hw, rfl⟩) h
    | false =>
      rw [hk] at hf
      refine AnyG.only h0 (Region.noSelect_spec hs) l.length listed a w hcl (onlyB_spec h0 hf) hr' hC ?_
      unfold gOp
      simp only [h0]
      by_cases hw : Region.wanted o (yielded ops a.tmps) = true
      · rw [if_pos hw] at h ⊢
        rcases h with ⟨hn, _⟩ | ⟨_, h⟩
        · rw [hk] at hn; cases hn
        · exact Oper.wp_mono (fun a' w' ⟨C', hc', hsub, hK⟩ => ⟨hsub _ hc', AnyG.mono hsub _ _ _ _ (anyG_lex hs l (k + 1) _ a' C' w' hl' hB' (hcl.set hr') hc' hK)⟩) (h w hC)
      · rw [if_neg hw] at h ⊢
        exact ⟨hC, anyG_lex hs l (k + 1) _ _ C w hl' hB' (hcl.set hr') hC h⟩

theorem wp_region_mixed {id : Nat} {l : List Oper} {Q : Exit → Act → World → Prop} {Qn : Act → World → Prop} {a : Act} {w : World} {C : World → Prop} (hm : P.follows .mixedOrders = true) (hB : mixB l = true) (hC : C { w with drawn := w.drawn + 1 })
    (hQ : ∀ a w, Qn a w → Q .normal a w) (h : wpM P l.toArray Qn l a C) : (Code.region id l.toArray true).wp P Q a w := by
  simp only [mixB, Bool.and_eq_true] at hB
  refine wp_region_any hm (AnyG.sound (C := C) hQ _ _ _ _ ?_)
  have := anyG_lex (P := P) (md := .any) (Qn := Qn) hB.1 l 0 (Array.replicate l.length false) a C _ (by simp) hB.2 (fun m o ho hm e he hb => by
    exfalso
    have hlt : m < l.length := by have := (Array.getElem?_eq_some_iff.1 ho).1; simpa using this
    simp [hlt] at hm) hC h
  simpa using this

/-! .. in another order than the text's. -/
def nthOp : List Oper → Nat → Option Oper
  | [], _ => none
  | o :: _, 0 => some o
  | _ :: r, k + 1 => nthOp r k
theorem nthOp_eq : ∀ (l : List Oper) (k : Nat), nthOp l k = l[k]?
  | [], _ => by simp [nthOp]
  | _ :: _, 0 => by simp [nthOp]
  | _ :: r, k + 1 => by simp [nthOp, nthOp_eq r k]
def pickOps (l : List Oper) : List Nat → List Oper
  | [] => []
  | k :: r => match nthOp l k with
    | some o => o :: pickOps l r
    | none => []
def ordFrom (md : Region.Mode) (l : List Oper) : List Nat → Array Bool → Bool
  | [], listed => (Region.ready md l.toArray listed).isEmpty
  | k :: r, listed => (Region.ready md l.toArray listed).contains k && (match nthOp l k with | some o => (match lookKind o with | true => Region.free md l.toArray listed k | false => onlyB md l.toArray listed k) | none => false) && ordFrom md l r (listed.setIfInBounds k true)
def ordB (l : List Oper) (ord : List Nat) : Bool := Region.noSelect l.toArray && (ord.length == l.length) && ordFrom .any l ord (Array.replicate l.length false)

theorem anyG_ord {L : List Oper} {Qn : Act → World → Prop} (hs : Region.noSelect L.toArray = true) : ∀ (ord : List Nat) (listed : Array Bool) (a : Act) (C : World → Prop) (w : World),
    ordFrom md L ord listed = true → Closed md L.toArray listed → C w → wpM P L.toArray Qn (pickOps L ord) a C → AnyG P md L.toArray Qn C ord.length listed a w
  | [], _, _, _, _, hB, _, hC, h => ⟨by simpa [ordFrom] using hB, h _ hC⟩
  | k :: r, listed, a, C, w, hB, hcl, hC, h => by
    simp only [ordFrom, Bool.and_eq_true] at hB
    obtain ⟨⟨hr, hf⟩, hB'⟩ := hB
    have hr' : k ∈ Region.ready md L.toArray listed := by simpa using hr
    cases hn : nthOp L k with
    | none => rw [hn] at hf; cases hf
    | some o =>
    have h0 : L.toArray[k]? = some o := by rw [← hn, nthOp_eq]; simp
    unfold pickOps at h
    rw [hn] at hf h
    dsimp only at hf h
    unfold wpM at h
    cases hk : lookKind o with
    | true =>
      rw [hk] at hf
      have hgo : ∀ v, StillY P L.toArray C o v a → wpM P L.toArray Qn (pickOps L r) (a.put o.dst v) C → AnyG P md L.toArray Qn C (k :: r).length listed a w := fun v hy hK =>
        AnyG.first h0 (Region.noSelect_spec hs) r.length listed a w (Region.free_spec h0 hf) hr' hy hC (anyG_ord hs r _ _ C w hB' (hcl.set hr') hC hK)
      by_cases hw : Region.wanted o (yielded L.toArray a.tmps) = true
      · rw [if_pos hw] at h
        rcases h with ⟨_, v, hv, hK⟩ | ⟨hn, _⟩
        · exact hgo v (.inl ⟨hw, hv⟩) hK
        · rw [hk] at hn; cases hn
      · rw [if_neg hw] at h
        exact hgo undef (.inr ⟨by simpa using hw, rfl⟩) h
    | false =>
      rw [hk] at hf
      refine AnyG.only h0 (Region.noSelect_spec hs) r.length listed a w hcl (onlyB_spec h0 hf) hr' hC ?_
      unfold gOp
      simp only [h0]
      by_cases hw : Region.wanted o (yielded L.toArray a.tmps) = true
      · rw [if_pos hw] at h ⊢
        rcases h with ⟨hn, _⟩ | ⟨_, h⟩
        · rw [hk] at hn; cases hn
        · exact Oper.wp_mono (fun a' w' ⟨C', hc', hsub, hK⟩ => ⟨hsub _ hc', AnyG.mono hsub _ _ _ _ (anyG_ord hs r _ a' C' w' hB' (hcl.set hr') hc' hK)⟩) (h w hC)
      · rw [if_neg hw] at h ⊢
        exact ⟨hC, anyG_ord hs r _ _ C w hB' (hcl.set hr') hC h⟩

theorem wp_region_ord {id : Nat} {l : List Oper} (ord : List Nat) {Q : Exit → Act → World → Prop} {Qn : Act → World → Prop} {a : Act} {w : World} {C : World → Prop} (hm : P.follows .mixedOrders = true) (hB : ordB l ord = true) (hC : C { w with drawn := w.drawn + 1 })
    (hQ : ∀ a w, Qn a w → Q .normal a w) (h : wpM P l.toArray Qn (pickOps l ord) a C) : (Code.region id l.toArray true).wp P Q a w := by
  simp only [ordB, Bool.and_eq_true, beq_iff_eq] at hB
  refine wp_region_any hm (AnyG.sound (C := C) hQ _ _ _ _ ?_)
  have := anyG_ord (P := P) (md := .any) (Qn := Qn) hB.1.1 ord (Array.replicate l.length false) a C _ hB.2 (fun m o ho hm e he hb => by
    exfalso
    have hlt : m < l.length := by have := (Array.getElem?_eq_some_iff.1 ho).1; simpa using this
    simp [hlt] at hm) hC h
  simpa [hB.1.2] using this
end
end Go.Pw
/- A calculus of frames as functions and worlds as classes, over the guide's wp: the structural rules. -/
namespace Go.Pw
open Go Go.RowKit

abbrev Env := Nat → Value
abbrev Cls := World → Prop

def upd (E : Env) (d : Nat) (v : Value) : Env := fun t => cond (Nat.beq t d) v (E t)
def updo (E : Env) (d : Option Nat) (v : Value) : Env := match d with | some d => upd E d v | none => E
def ev (E : Env) : Operand → Value
  | .tmp t => E t
  | .const v => v
  | .global g => .pointer (some ⟨g, 0, none⟩)
  | .func f => .func (.func f) #[] #[]

theorem beq_false {a b : Nat} (h : a ≠ b) : Nat.beq a b = false := by
  cases hb : Nat.beq a b with
  | false => rfl
  | true => exact absurd (Nat.eq_of_beq_eq_true hb) h
theorem beq_true {a b : Nat} (h : a = b) : Nat.beq a b = true := by subst h; exact Nat.beq_refl a

theorem upd_same (E : Env) (d : Nat) (v : Value) : upd E d v d = v := by simp [upd]
theorem upd_other (E : Env) {d t : Nat} (v : Value) (h : t ≠ d) : upd E d v t = E t := by
  have : Nat.beq t d = false := beq_false h
  simp [upd, this]

structure Fr (a : Act) (E : Env) (n : Nat) : Prop where
  defers : a.defers = []
  size : a.tmps.size = n
  get : ∀ t, a.tmps.getD t undef = E t

theorem Fr.eval {a : Act} {E : Env} {n : Nat} (h : Fr a E n) : a.eval = ev E := by
  funext x
  cases x <;> simp [Act.eval, ev, h.get]

def okDst (d : Option Nat) (n : Nat) : Bool := match d with | some d => Nat.blt d n | none => true

theorem Fr.put {a : Act} {E : Env} {n : Nat} (h : Fr a E n) {d : Option Nat} (hd : okDst d n = true) (v : Value) : Fr (a.put d v) (updo E d v) n := by
  cases d with
  | none => exact h
  | some d =>
    have hd' : d < n := by simpa [okDst, Nat.blt_eq] using hd
    refine ⟨h.defers, by simp [Act.put, h.size], fun t => ?_⟩
    show (a.tmps.setIfInBounds d v).getD t undef = upd E d v t
    by_cases ht : t = d
    · subst ht
      rw [upd_same]
      have : t < a.tmps.size := by rw [h.size]; exact hd'
      simp [Array.getD_eq_getD_getElem?, this]
    · rw [upd_other _ _ ht, ← h.get t]
      simp [Array.getD_eq_getD_getElem?, Ne.symm ht]

def yieldE (ops : Array Oper) (E : Env) (j : Nat) : Option Bool :=
  match (ops[j]?).bind (·.dst) with
  | some d => (match E d with | .bool b => some b | _ => none)
  | none => none

theorem Fr.yielded {a : Act} {E : Env} {n : Nat} (h : Fr a E n) (ops : Array Oper) : yielded ops a.tmps = yieldE ops E := by
  funext j
  unfold Go.yielded yieldE
  cases (ops[j]?).bind (·.dst) with
  | none => rfl
  | some d =>
    have hg := h.get d
    simp only [Option.bind_some]
    rw [Array.getD_eq_getD_getElem?] at hg
    cases hx : a.tmps[d]? with
    | none => rw [hx] at hg; simp only [Option.getD_none] at hg; rw [← hg]; rfl
    | some v => rw [hx] at hg; simp only [Option.getD_some] at hg; rw [← hg]; clear hx hg; cases v <;> rfl

/-- A class that new blocks and draws do not leave. -/
def Stable (C : Cls) : Prop := ∀ w w', C w → Below w.heap.size w w' → C w'

theorem below_drawn (w : World) : Below w.heap.size w { w with drawn := w.drawn + 1 } := ⟨rfl, rfl, rfl, Nat.le_refl _, fun _ _ => rfl⟩

/-- The quiet operations. -/
structure Opv (P : Program) (C : Cls) (ρ : Operand → Value) (o : Oper) (v : Value) : Prop where
  out : ∀ w, C w → Oper.quietUpon P C w v ((execOp ρ o).run P w)

/-- The slot of operation number j. -/
def dstAt : List Oper → Nat → Option Nat
  | [], _ => none
  | o :: _, 0 => o.dst
  | _ :: r, j + 1 => dstAt r j
theorem dstAt_eq : ∀ (l : List Oper) (j : Nat), dstAt l j = ((l.toArray)[j]?).bind (·.dst)
  | [], _ => by simp [dstAt]
  | o :: r, 0 => by simp [dstAt]
  | o :: r, j + 1 => by have := dstAt_eq r j; simpa [dstAt] using this

def wantE (ops : List Oper) (E : Env) (g : Option (Nat × Bool)) : Bool := match g with
  | none => true
  | some (j, b) => match dstAt ops j with
    | some d => (match E d with | .bool c => c == b | _ => false)
    | none => false

theorem wantE_eq (ops : List Oper) (E : Env) (o : Oper) : Region.wanted o (yieldE ops.toArray E) = wantE ops E o.guard := by
  unfold Region.wanted wantE
  cases o.guard with
  | none => rfl
  | some g =>
    obtain ⟨j, b⟩ := g
    show (yieldE ops.toArray E j == some b) = _
    unfold yieldE
    show _ = (match dstAt ops j with
      | some d => (match E d with | .bool c => c == b | _ => false)
      | none => false)
    rw [dstAt_eq]
    cases ((ops.toArray)[j]?).bind (·.dst) with
    | none => rfl
    | some d => dsimp only; generalize E d = v; cases v <;> first | rfl | (rename_i c; cases c <;> cases b <;> rfl)

/-- The post: how the code was left, the frame, what is known of the world. -/
abbrev Post := Exit → Env → Cls → Prop

theorem bind_value {P : Program} {α : Type} {s : Sem α} {f : α → Value} {w w' : World} {n : Next} (h : (s >>= fun x => Pure.pure (Next.value (f x)) : Sem Next).run P w = .ok n w') : ∃ x, n = .value x := by
  rw [Sem.run_bind] at h
  cases hr : s.run P w with
  | ok x w2 => rw [hr] at h; simp only [Result.andThen_ok, Sem.run_pure, Result.ok.injEq] at h; exact ⟨f x, h.1.symm⟩
  | halt x w2 => rw [hr] at h; simp [Result.andThen] at h

theorem look_value {P : Program} {ρ : Operand → Value} {o : Oper} {w w' : World} {n : Next} (hk : lookKind o = true) (h : (execOp ρ o).run P w = .ok n w') : ∃ x, n = .value x := by
  obtain ⟨d, op, ty, pos, af, g⟩ := o
  unfold lookKind at hk
  cases op <;> (try dsimp only at hk) <;> first | (cases hk; done) | skip
  case move x => simp only [execOp, Sem.run_pure, Result.ok.injEq] at h; exact ⟨_, h.1.symm⟩
  case assign x => simp only [execOp, Sem.run_pure, Result.ok.injEq] at h; exact ⟨_, h.1.symm⟩
  case nilCheck x =>
    have hrt : ∀ (w2 : World), ¬ ∃ n2 w3, (runtimePanic .nilDeref : Sem Next).run P w2 = .ok n2 w3 := fun w2 ⟨n2, w3, hh⟩ => by
      simp [runtimePanic, goPanic, Sem.run_bind] at hh
    unfold execOp at h
    dsimp only at h
    split at h
    · exact absurd ⟨_, _, h⟩ (hrt w)
    · exact absurd ⟨_, _, h⟩ (hrt w)
    · exact absurd ⟨_, _, h⟩ (hrt w)
    · split at h
      · exact absurd ⟨_, _, h⟩ (hrt w)
      · simp only [Sem.run_bind, run_program, Result.andThen_ok] at h
        generalize hz : (nilAhead _ _ _ _ : Sem _).run P w = z at h
        cases z with
        | halt e w2 => simp [Result.andThen] at h
        | ok b w2 =>
          simp only [Result.andThen_ok] at h
          split at h
          · simp [Result.andThen] at h
          · simp only [Sem.run_pure, Result.andThen_ok, Result.ok.injEq] at h
            exact ⟨_, h.1.symm⟩
      · simp only [Sem.run_pure, Result.ok.injEq] at h; exact ⟨_, h.1.symm⟩
    · simp only [Sem.run_pure, Result.ok.injEq] at h; exact ⟨_, h.1.symm⟩
  case call c =>
    obtain ⟨callee, args, ats⟩ := c
    cases callee <;> (try dsimp only at hk) <;> first | (cases hk; done) | skip
    rename_i b
    cases b <;> (try dsimp only at hk) <;> first | (cases hk; done) | skip
    unfold execOp at h
    simp only [resolve, invoke, builtin, Sem.run_bind, Sem.run_pure, Result.andThen_ok] at h
    cases hr : (Builtin.len_ ats ty (Array.map ρ args)).run P w with
    | ok x w2 => rw [hr] at h; simp only [Result.andThen_ok, Result.ok.injEq] at h; exact ⟨x, h.1.symm⟩
    | halt x w2 => rw [hr] at h; simp [Result.andThen] at h
  all_goals (unfold execOp at h; dsimp only at h)
  all_goals exact bind_value h

inductive Md where
  | seq
  | mix
  | quiet

/-- A list of operations, walked in the order of the text: of a region that does not draw ('seq'); of one that draws ('mix': some look, the others make new blocks alone; 'quiet': each leaves one value and what was there as it was). -/
structure Px (P : Program) (n : Nat) (ops : List Oper) (md : Md) (l : List Oper) (Q : Post) (E : Env) (C : Cls) : Prop where
  out : match md with
    | .quiet => ∀ a, Fr a E n → wpQuiet P ops.toArray C (fun a' => ∃ E', Fr a' E' n ∧ Q .normal E' C) l a
    | .mix => ∀ a, Fr a E n → wpM P ops.toArray (fun a' w' => ∃ E' C', Fr a' E' n ∧ C' w' ∧ Q .normal E' C') l a C
    | .seq => ∀ a w, Fr a E n → C w → wpList P ops.toArray (fun e a' w' => ∃ E' C', Fr a' E' n ∧ C' w' ∧ Q e E' C') l a w

section
variable {P : Program} {C : Cls} {n : Nat} {ops : List Oper} {md : Md} {l : List Oper} {E : Env} {Q : Post}

theorem px_nil (h : Q .normal E C) : Px P n ops md [] Q E C := ⟨by
  cases md with
  | quiet => exact fun _ hf => wpQuiet_nil ⟨E, hf, h⟩
  | mix => exact fun _ hf _ hw => ⟨E, C, hf, hw, h⟩
  | seq => exact fun _ _ hf hc => wpList_nil ⟨E, C, hf, hc, h⟩⟩

theorem px_run {d : Option Nat} {op : Op} {ty : TypeId} {pos : String} {af : Array Edge} {g : Option (Nat × Bool)} {v : Value} (hv : Opv P C (ev E) ⟨d, op, ty, pos, af, g⟩ v)
    (hw : wantE ops E g = true) (hd : okDst d n = true) (h : Px P n ops md l Q (updo E d v) C) : Px P n ops md (⟨d, op, ty, pos, af, g⟩ :: l) Q E C := ⟨by
  cases md with
  | quiet =>
    exact fun a hf => wpQuiet_step fun K' hK => by
      rw [hf.yielded, wantE_eq, if_pos hw]
      refine ⟨v, fun w hw => ?_, hK _ (h.out _ (hf.put hd v))⟩
      have := hv.out w hw
      unfold Oper.quietAt
      rwa [hf.eval]
  | mix =>
    exact fun a hf => by
      unfold wpM
      rw [hf.yielded, wantE_eq, if_pos hw]
      cases hk : lookKind ⟨d, op, ty, pos, af, g⟩ with
      | true =>
        refine .inl ⟨rfl, v, fun w hC => ?_, h.out _ (hf.put hd v)⟩
        have h1 := hv.out w hC
        rw [hf.eval]
        generalize hr : (execOp (ev E) ⟨d, op, ty, pos, af, g⟩).run P w = r at *
        cases r with
        | ok m w' =>
          obtain ⟨x, rfl⟩ := look_value hk hr
          obtain ⟨e1, e2⟩ := h1
          rw [e1, e2]
        | halt x w' => exact h1.elim
      | false =>
        refine .inr ⟨rfl, fun w hC => ?_⟩
        refine Oper.wp_of_quiet (C := C) (K := fun a' => wpM P ops.toArray (fun a' w' => ∃ E' C', Fr a' E' n ∧ C' w' ∧ Q .normal E' C') l a' C) hC (fun a' w' hw' hK => ⟨C, hw', fun _ h => h, hK⟩) ⟨v, fun w hw => ?_, h.out _ (hf.put hd v)⟩
        have := hv.out w hw
        unfold Oper.quietAt
        rwa [hf.eval]
  | seq =>
    exact fun a w hf hc => wpList_step fun K' hK => by
      rw [hf.yielded, wantE_eq, if_pos hw]
      have h1 := hv.out w hc
      rw [← hf.eval] at h1
      unfold Oper.wp
      generalize (execOp a.eval _).run P w = r at *
      cases r with
      | ok m w' =>
        cases m <;> simp only [Oper.quietUpon] at h1 <;> simp only [Oper.upon]
        case value u =>
          obtain ⟨e1, e2⟩ := h1
          rw [e1, e2]
          exact hK _ _ (h.out _ _ (hf.put hd v) hc)
        case skip =>
          obtain ⟨e1, e2⟩ := h1
          rw [e1, ← e2]
          exact hK _ _ (h.out _ _ (hf.put hd v) hc)
        case enter f args =>
          obtain ⟨e1, hcall⟩ := h1
          rw [e1]
          exact hcall.mono fun e w'' ⟨he, hw''⟩ => by subst he; exact hK _ _ (h.out _ _ (hf.put hd v) hw'')
      | halt x w' => simp only [Oper.quietUpon] at h1⟩

theorem px_skip {d : Option Nat} {op : Op} {ty : TypeId} {pos : String} {af : Array Edge} {g : Option (Nat × Bool)} (hw : wantE ops E g = false) (hd : okDst d n = true)
    (h : Px P n ops md l Q (updo E d undef) C) : Px P n ops md (⟨d, op, ty, pos, af, g⟩ :: l) Q E C := ⟨by
  cases md with
  | quiet =>
    exact fun a hf => wpQuiet_step fun K' hK => by
      rw [hf.yielded, wantE_eq, if_neg (by rw [hw]; exact Bool.false_ne_true)]
      exact hK _ (h.out _ (hf.put hd undef))
  | mix =>
    exact fun a hf => by
      unfold wpM
      rw [hf.yielded, wantE_eq, if_neg (by rw [hw]; exact Bool.false_ne_true)]
      exact h.out _ (hf.put hd undef)
  | seq =>
    exact fun a w hf hc => wpList_step fun K' hK => by
      rw [hf.yielded, wantE_eq, if_neg (by rw [hw]; exact Bool.false_ne_true)]
      exact hK _ _ (h.out _ _ (hf.put hd undef) hc)⟩

theorem upd_self (E : Env) (d : Nat) : upd E d (E d) = E := by
  funext t
  by_cases h : t = d
  · subst h; rw [upd_same]
  · rw [upd_other _ _ h]

/-- The cases of a Bool in a slot. -/
theorem px_case (d : Nat) {b : Bool} (hE : E d = .bool b) (ht : b = true → Px P n ops md l Q (upd E d (.bool true)) C) (hf : b = false → Px P n ops md l Q (upd E d (.bool false)) C) :
    Px P n ops md l Q E C := by
  cases b with
  | true => have := ht rfl; rw [← hE, upd_self] at this; exact this
  | false => have := hf rfl; rw [← hE, upd_self] at this; exact this

/-- The next operation's guard is not decided. -/
theorem px_guard {o : Oper} {j d : Nat} {want b : Bool} (_hg : o.guard = some (j, want)) (_hd : dstAt ops j = some d) (hE : E d = .bool b)
    (ht : b = true → Px P n ops md (o :: l) Q (upd E d (.bool true)) C) (hf : b = false → Px P n ops md (o :: l) Q (upd E d (.bool false)) C) :
    Px P n ops md (o :: l) Q E C := px_case d hE ht hf
theorem px_guard_dec {p : Prop} {_inst : Decidable p} {o : Oper} {j d : Nat} {want : Bool} (_hg : o.guard = some (j, want)) (_hd : dstAt ops j = some d) (hE : E d = .bool (decide p))
    (ht : p → Px P n ops md (o :: l) Q (upd E d (.bool true)) C) (hf : ¬p → Px P n ops md (o :: l) Q (upd E d (.bool false)) C) :
    Px P n ops md (o :: l) Q E C := px_case d hE (fun h => ht (of_decide_eq_true h)) (fun h => hf (of_decide_eq_false h))
theorem px_guard_ndec {p : Prop} {_inst : Decidable p} {o : Oper} {j d : Nat} {want : Bool} (_hg : o.guard = some (j, want)) (_hd : dstAt ops j = some d) (hE : E d = .bool (decide (¬p)))
    (ht : ¬p → Px P n ops md (o :: l) Q (upd E d (.bool true)) C) (hf : p → Px P n ops md (o :: l) Q (upd E d (.bool false)) C) :
    Px P n ops md (o :: l) Q E C := px_case d hE (fun h => ht (of_decide_eq_true h)) (fun h => hf (Decidable.not_not.1 (of_decide_eq_false h)))
theorem px_guard_not {b : Bool} {o : Oper} {j d : Nat} {want : Bool} (_hg : o.guard = some (j, want)) (_hd : dstAt ops j = some d) (hE : E d = .bool (!b))
    (ht : b = false → Px P n ops md (o :: l) Q (upd E d (.bool true)) C) (hf : b = true → Px P n ops md (o :: l) Q (upd E d (.bool false)) C) :
    Px P n ops md (o :: l) Q E C := px_case d hE (fun h => ht (by simpa using h)) (fun h => hf (by simpa using h))

/-- A slot's value may be written otherwise. -/
theorem px_same (d : Nat) {v v' : Value} (hE : E d = v) (hv : v = v') (h : Px P n ops md l Q (upd E d v') C) : Px P n ops md l Q E C := by
  subst hv; rw [← hE, upd_self] at h; exact h

theorem px_cls (C' : Cls) (hC : ∀ w, C w → C' w) (h : Px P n ops .seq l Q E C') : Px P n ops .seq l Q E C := ⟨fun a w hf hc => h.out a w hf (hC w hc)⟩

/-- An operation that turns the world. -/
theorem px_op {d : Option Nat} {op : Op} {ty : TypeId} {pos : String} {af : Array Edge} {g : Option (Nat × Bool)} (hw : wantE ops E g = true) (hd : okDst d n = true)
    (h : ∀ w, C w → ∃ v w' C', (execOp (ev E) ⟨d, op, ty, pos, af, g⟩).run P w = .ok (.value v) w' ∧ C' w' ∧ Px P n ops .seq l Q (updo E d v) C') :
    Px P n ops .seq (⟨d, op, ty, pos, af, g⟩ :: l) Q E C := ⟨fun a w hf hc => wpList_step fun K' hK => by
  rw [hf.yielded, wantE_eq, if_pos hw]
  obtain ⟨v, w', C', h1, h2, h3⟩ := h w hc
  rw [← hf.eval] at h1
  unfold Oper.wp
  rw [h1]
  exact hK _ _ (h3.out _ _ (hf.put hd v) h2)⟩

/-- The same, without a value. -/
theorem px_op_skip {d : Option Nat} {op : Op} {ty : TypeId} {pos : String} {af : Array Edge} {g : Option (Nat × Bool)} (hw : wantE ops E g = true) (hd : okDst d n = true)
    (h : ∀ w, C w → ∃ w' C', (execOp (ev E) ⟨d, op, ty, pos, af, g⟩).run P w = .ok .skip w' ∧ C' w' ∧ Px P n ops .seq l Q (updo E d undef) C') :
    Px P n ops .seq (⟨d, op, ty, pos, af, g⟩ :: l) Q E C := ⟨fun a w hf hc => wpList_step fun K' hK => by
  rw [hf.yielded, wantE_eq, if_pos hw]
  obtain ⟨w', C', h1, h2, h3⟩ := h w hc
  rw [← hf.eval] at h1
  unfold Oper.wp
  rw [h1]
  exact hK _ _ (h3.out _ _ (hf.put hd undef) h2)⟩

/-- May an operation that makes new blocks stand in a list of this mode? -/
def mdOk : Md → Op → Bool
  | .seq, _ => true
  | .mix, op => !lookKind ⟨none, op, 0, "", #[], none⟩
  | .quiet, _ => false
theorem mdOk_mix {d : Option Nat} {op : Op} {ty : TypeId} {pos : String} {af : Array Edge} {g : Option (Nat × Bool)} (h : mdOk .mix op = true) : lookKind ⟨d, op, ty, pos, af, g⟩ = false := by
  have h1 : (!lookKind ⟨none, op, 0, "", #[], none⟩) = true := h
  have h2 : lookKind ⟨d, op, ty, pos, af, g⟩ = lookKind ⟨none, op, 0, "", #[], none⟩ := rfl
  rw [h2]; simpa using h1

/-- An operation that makes new blocks. -/
theorem px_opN {d : Option Nat} {op : Op} {ty : TypeId} {pos : String} {af : Array Edge} {g : Option (Nat × Bool)} (hm : mdOk md op = true) (hw : wantE ops E g = true) (hd : okDst d n = true)
    (h : ∀ w, C w → ∃ v w' C', (execOp (ev E) ⟨d, op, ty, pos, af, g⟩).run P w = .ok (.value v) w' ∧ C' w' ∧ (∀ w, C' w → C w) ∧ Px P n ops md l Q (updo E d v) C') :
    Px P n ops md (⟨d, op, ty, pos, af, g⟩ :: l) Q E C := by
  cases md with
  | quiet => cases hm
  | seq => exact px_op hw hd fun w hC => let ⟨v, w', C', h1, h2, _, h4⟩ := h w hC; ⟨v, w', C', h1, h2, h4⟩
  | mix =>
    refine ⟨fun a hf => ?_⟩
    show wpM _ _ _ _ _ _
    unfold wpM
    rw [hf.yielded, wantE_eq, if_pos hw]
    refine .inr ⟨mdOk_mix hm, fun w hC => ?_⟩
    obtain ⟨v, w', C', h1, h2, h3, h4⟩ := h w hC
    rw [← hf.eval] at h1
    unfold Oper.wp
    rw [h1]
    exact ⟨C', h2, h3, h4.out _ (hf.put hd v)⟩

/-- A call that makes new blocks. -/
theorem px_callN {d : Option Nat} {op : Op} {ty : TypeId} {pos : String} {af : Array Edge} {g : Option (Nat × Bool)} {f : FuncId} {args : Array Value} (hm : mdOk md op = true) (hw : wantE ops E g = true) (hd : okDst d n = true)
    (hop : ∀ w, C w → (execOp (ev E) ⟨d, op, ty, pos, af, g⟩).run P w = .ok (.enter f args) w)
    (h : ∀ w, C w → Calls P f args w (fun e w' => ∃ v C', e = .returned v ∧ C' w' ∧ (∀ w, C' w → C w) ∧ Px P n ops md l Q (updo E d v) C')) :
    Px P n ops md (⟨d, op, ty, pos, af, g⟩ :: l) Q E C := by
  cases md with
  | quiet => cases hm
  | seq =>
    refine ⟨fun a w hf hc => wpList_step fun K' hK => ?_⟩
    rw [hf.yielded, wantE_eq, if_pos hw]
    have h1 := hop w hc
    rw [← hf.eval] at h1
    unfold Oper.wp
    rw [h1]
    exact (h w hc).mono fun e w' ⟨v, C', he, hc', _, hx⟩ => by subst he; exact hK _ _ (hx.out _ _ (hf.put hd v) hc')
  | mix =>
    refine ⟨fun a hf => ?_⟩
    show wpM _ _ _ _ _ _
    unfold wpM
    rw [hf.yielded, wantE_eq, if_pos hw]
    refine .inr ⟨mdOk_mix hm, fun w hC => ?_⟩
    have h1 := hop w hC
    rw [← hf.eval] at h1
    unfold Oper.wp
    rw [h1]
    exact (h w hC).mono fun e w' ⟨v, C', he, hc', hsub, hx⟩ => by subst he; exact ⟨C', hc', hsub, hx.out _ (hf.put hd v)⟩

/-- A call that may turn the world. -/
theorem px_call {d : Option Nat} {op : Op} {ty : TypeId} {pos : String} {af : Array Edge} {g : Option (Nat × Bool)} {f : FuncId} {args : Array Value} (hw : wantE ops E g = true) (hd : okDst d n = true)
    (hop : ∀ w, C w → (execOp (ev E) ⟨d, op, ty, pos, af, g⟩).run P w = .ok (.enter f args) w)
    (h : ∀ w, C w → Calls P f args w (fun e w' => ∃ v C', e = .returned v ∧ C' w' ∧ Px P n ops .seq l Q (updo E d v) C')) :
    Px P n ops .seq (⟨d, op, ty, pos, af, g⟩ :: l) Q E C := ⟨fun a w hf hc => wpList_step fun K' hK => by
  rw [hf.yielded, wantE_eq, if_pos hw]
  have h1 := hop w hc
  rw [← hf.eval] at h1
  unfold Oper.wp
  rw [h1]
  exact (h w hc).mono fun e w' ⟨v, C', he, hc', hx⟩ => by subst he; exact hK _ _ (hx.out _ _ (hf.put hd v) hc')⟩
end

structure Pwp (P : Program) (n : Nat) (c : Code) (Q : Post) (E : Env) (C : Cls) : Prop where
  out : ∀ a w, Fr a E n → C w → c.wp P (fun e a' w' => ∃ E' C', Fr a' E' n ∧ C' w' ∧ Q e E' C') a w

def qseq (P : Program) (n : Nat) (c : Code) (Q : Post) : Post
  | .normal, E, C => Pwp P n c Q E C
  | e, E, C => Q e E C

def qblock (id : Nat) (Q : Post) : Post
  | .exit id', E, C => cond (Nat.beq id' id) (Q .normal E C) (Q (.exit id') E C)
  | e, E, C => Q e E C

section
variable {P : Program} {C : Cls} {n : Nat} {E : Env} {Q : Post}

theorem pwp_seq {x y : Code} (h : Pwp P n x (qseq P n y Q) E C) : Pwp P n (.seq x y) Q E C := ⟨fun a w hf hc => wp_seq (wp_mono (h.out a w hf hc) fun e a' w' ⟨E', C', hf', hc', hq⟩ => by
  cases e with
  | normal => exact hq.out a' w' hf' hc'
  | _ => exact ⟨E', C', hf', hc', hq⟩)⟩

theorem qseq_normal {c : Code} (h : Pwp P n c Q E C) : qseq P n c Q .normal E C := h
theorem qseq_ret {c : Code} (h : Q .ret E C) : qseq P n c Q .ret E C := h
theorem qseq_exit {c : Code} {id : Nat} (h : Q (.exit id) E C) : qseq P n c Q (.exit id) E C := h

theorem pwp_block {id : Nat} {c : Code} (h : Pwp P n c (qblock id Q) E C) : Pwp P n (.block id c) Q E C := ⟨fun a w hf hc => wp_block (wp_mono (h.out a w hf hc) fun e a' w' ⟨E', C', hf', hc', hq⟩ => by
  cases e with
  | exit id' =>
    show if id' = id then _ else _
    by_cases hi : id' = id
    · rw [if_pos hi]
      refine ⟨E', C', hf', hc', ?_⟩
      have : Nat.beq id' id = true := beq_true hi
      simpa [qblock, this] using hq
    · rw [if_neg hi]
      refine ⟨E', C', hf', hc', ?_⟩
      have : Nat.beq id' id = false := beq_false hi
      simpa [qblock, this] using hq
  | _ => exact ⟨E', C', hf', hc', hq⟩)⟩

theorem qblock_normal {id : Nat} (h : Q .normal E C) : qblock id Q .normal E C := h
theorem qblock_ret {id : Nat} (h : Q .ret E C) : qblock id Q .ret E C := h
theorem qblock_exit_same {id id' : Nat} (hi : Nat.beq id' id = true) (h : Q .normal E C) : qblock id Q (.exit id') E C := by simpa [qblock, hi] using h
theorem qblock_exit_other {id id' : Nat} (hi : Nat.beq id' id = false) (h : Q (.exit id') E C) : qblock id Q (.exit id') E C := by simpa [qblock, hi] using h

theorem pwp_skip (h : Q .normal E C) : Pwp P n .skip Q E C := ⟨fun _ _ hf hc => wp_skip ⟨E, C, hf, hc, h⟩⟩
theorem pwp_exit {id : Nat} (h : Q (.exit id) E C) : Pwp P n (.exit id) Q E C := ⟨fun _ _ hf hc => wp_exit ⟨E, C, hf, hc, h⟩⟩
theorem pwp_ret (h : Q .ret E C) : Pwp P n .ret Q E C := ⟨fun _ _ hf hc => wp_ret ⟨E, C, hf, hc, h⟩⟩

theorem pwp_cond_t {c : Operand} {x y : Code} (hc : ev E c = .bool true) (h : Pwp P n x Q E C) : Pwp P n (.cond c x y) Q E C :=
  ⟨fun a w hf hC => wp_cond_true (by rw [hf.eval]; exact hc) (h.out a w hf hC)⟩
theorem pwp_cond_f {c : Operand} {x y : Code} (hc : ev E c = .bool false) (h : Pwp P n y Q E C) : Pwp P n (.cond c x y) Q E C :=
  ⟨fun a w hf hC => wp_cond_false (by rw [hf.eval]; exact hc) (h.out a w hf hC)⟩
theorem pwp_cond {c : Operand} {x y : Code} {b : Bool} (hc : ev E c = .bool b) (ht : b = true → Pwp P n x Q E C) (hf : b = false → Pwp P n y Q E C) : Pwp P n (.cond c x y) Q E C := by
  cases b with
  | true => exact pwp_cond_t hc (ht rfl)
  | false => exact pwp_cond_f hc (hf rfl)

theorem pwp_cond_dec {p : Prop} {_inst : Decidable p} {c : Operand} {x y : Code} (hc : ev E c = .bool (decide p)) (ht : p → Pwp P n x Q E C) (hf : ¬p → Pwp P n y Q E C) : Pwp P n (.cond c x y) Q E C :=
  pwp_cond hc (fun h => ht (of_decide_eq_true h)) (fun h => hf (of_decide_eq_false h))
theorem pwp_cond_ndec {p : Prop} {_inst : Decidable p} {c : Operand} {x y : Code} (hc : ev E c = .bool (decide (¬p))) (ht : ¬p → Pwp P n x Q E C) (hf : p → Pwp P n y Q E C) : Pwp P n (.cond c x y) Q E C :=
  pwp_cond hc (fun h => ht (of_decide_eq_true h)) (fun h => hf (Decidable.not_not.1 (of_decide_eq_false h)))
theorem pwp_cond_not {b : Bool} {c : Operand} {x y : Code} (hc : ev E c = .bool (!b)) (ht : b = false → Pwp P n x Q E C) (hf : b = true → Pwp P n y Q E C) : Pwp P n (.cond c x y) Q E C :=
  pwp_cond hc (fun h => ht (by simpa using h)) (fun h => hf (by simpa using h))

/-- What is known of the world may be said otherwise. -/
theorem pwp_cls {c : Code} (C' : Cls) (hC : ∀ w, C w → C' w) (h : Pwp P n c Q E C') : Pwp P n c Q E C := ⟨fun a w hf hc => h.out a w hf (hC w hc)⟩

theorem pwp_env {c : Code} {E' : Env} (hE : E = E') (h : Pwp P n c Q E' C) : Pwp P n c Q E C := hE ▸ h

theorem pwp_region {id : Nat} {l : List Oper} (h : Px P n l .seq l Q E C) : Pwp P n (.region id l.toArray false) Q E C :=
  ⟨fun a w hf hc => wp_region_lit (h.out a w hf hc)⟩

theorem pwp_region_draw {id : Nat} {l : List Oper} (hm : P.follows .mixedOrders = true) (hB : Region.lexB .any l.toArray = true) (hS : Stable C)
    (h : Px P n l .quiet l Q E C) : Pwp P n (.region id l.toArray true) Q E C :=
  ⟨fun a w hf hc => wp_region_quiet (C := C) hm hB (hS _ _ hc (below_drawn w)) (by
    have := h.out a hf
    generalize hops : l.toArray = ops at *
    have hl : ops.toList = l := by rw [← hops]
    rw [hl]
    have key : ∀ (l : List Oper) (a : Act), wpQuiet P ops C (fun a' => ∃ E', Fr a' E' n ∧ Q .normal E' C) l a → wpQuiet P ops C (fun a' => ∀ w', C w' → ∃ E' C', Fr a' E' n ∧ C' w' ∧ Q .normal E' C') l a := by
      intro l
      induction l with
      | nil => intro a h w' hw'; obtain ⟨E', hf', hq⟩ := h; exact ⟨E', C, hf', hw', hq⟩
      | cons o l ih =>
        intro a h
        unfold wpQuiet at h ⊢
        split
        · rename_i hg; rw [if_pos hg] at h; exact Oper.quiet_mono ih h
        · rename_i hg; rw [if_neg hg] at h; exact ih _ h
    exact key _ _ this)⟩
theorem pwp_region_mix {id : Nat} {l : List Oper} (hm : P.follows .mixedOrders = true) (hB : mixB l = true) (hS : Stable C)
    (h : Px P n l .mix l Q E C) : Pwp P n (.region id l.toArray true) Q E C :=
  ⟨fun a w hf hc => wp_region_mixed hm hB (hS _ _ hc (below_drawn w)) (fun _ _ h => h) (h.out a hf)⟩
theorem pwp_region_ord (ord : List Nat) {id : Nat} {l : List Oper} (hm : P.follows .mixedOrders = true) (hB : ordB l ord = true) (hS : Stable C)
    (h : Px P n l .mix (pickOps l ord) Q E C) : Pwp P n (.region id l.toArray true) Q E C :=
  ⟨fun a w hf hc => wp_region_ord ord hm hB (hS _ _ hc (below_drawn w)) (fun _ _ h => h) (h.out a hf)⟩
end

/-- Slots in intervals. -/
def inS : List (Nat × Nat) → Nat → Bool
  | [], _ => false
  | (a, b) :: r, t => cond (Nat.ble a t) (cond (Nat.ble t b) true (inS r t)) (inS r t)
/-- A frame with some slots overwritten by junk. -/
def junk (S : List (Nat × Nat)) (J E : Env) : Env := fun t => cond (inS S t) (J t) (E t)
def upds : List (Nat × Value) → Env → Env
  | [], E => E
  | (d, v) :: r, E => upd (upds r E) d v

/-- What a list of slots must hold. -/
def Holds (E : Env) : List (Nat × Value) → Prop
  | [] => True
  | (d, v) :: r => E d = v ∧ Holds E r
theorem holds_nil {E : Env} : Holds E [] := trivial
theorem holds_cons {E : Env} {d : Nat} {v : Value} {r : List (Nat × Value)} (h : E d = v) (hr : Holds E r) : Holds E ((d, v) :: r) := ⟨h, hr⟩

theorem holds_upds : ∀ (l : List (Nat × Value)) (E : Env), Holds E l → upds l E = E
  | [], _, _ => rfl
  | (d, v) :: r, E, ⟨h, hr⟩ => by
    show upd (upds r E) d v = E
    rw [holds_upds r E hr, ← h, upd_self]

structure Same (S : List (Nat × Nat)) (E E' : Env) : Prop where
  out : ∀ t, inS S t = false → E' t = E t
theorem same_refl {S : List (Nat × Nat)} {E : Env} : Same S E E := ⟨fun _ _ => rfl⟩
theorem same_upd {S : List (Nat × Nat)} {E E' : Env} {d : Nat} {v : Value} (hd : inS S d = true) (h : Same S E E') : Same S E (upd E' d v) :=
  ⟨fun t ht => by rw [upd_other _ _ (fun e => by subst e; rw [hd] at ht; cases ht)]; exact h.out t ht⟩
/-- All slots of the smaller set lie in the greater. -/
def subS (S' S : List (Nat × Nat)) : Bool := S'.all fun (a, b) => S.any fun (c, d) => Nat.ble c a && Nat.ble b d
theorem subS_spec {S' S : List (Nat × Nat)} (h : subS S' S = true) : ∀ t, inS S t = false → inS S' t = false := by
  have key : ∀ (S : List (Nat × Nat)) t, inS S t = true ↔ ∃ p ∈ S, p.1 ≤ t ∧ t ≤ p.2 := by
    intro S t
    induction S with
    | nil => simp [inS]
    | cons p r ih =>
      obtain ⟨a, b⟩ := p
      unfold inS
      cases h1 : Nat.ble a t <;> cases h2 : Nat.ble t b <;> simp [ih]
      all_goals (try have h1' := Nat.le_of_ble_eq_true h1)
      all_goals (try have h2' := Nat.le_of_ble_eq_true h2)
      · intro h; have := Nat.ble_eq_true_of_le h; rw [this] at h1; cases h1
      · intro h; have := Nat.ble_eq_true_of_le h; rw [this] at h1; cases h1
      · intro _ h; have := Nat.ble_eq_true_of_le h; rw [this] at h2; cases h2
      · exact .inl ⟨h1', h2'⟩
  intro t ht
  cases hs : inS S' t with
  | false => rfl
  | true =>
    obtain ⟨p, hp, h1, h2⟩ := (key S' t).1 hs
    have h3 := List.all_eq_true.1 h p hp
    obtain ⟨q, hq, h4⟩ := List.any_eq_true.1 h3
    simp only [Bool.and_eq_true, Nat.ble_eq] at h4
    have : inS S t = true := (key S t).2 ⟨q, hq, Nat.le_trans h4.1 h1, Nat.le_trans h2 h4.2⟩
    rw [this] at ht; cases ht
theorem same_junk {S S' : List (Nat × Nat)} {E E' J : Env} (hs : subS S' S = true) (h : Same S E E') : Same S E (junk S' J E') :=
  ⟨fun t ht => by unfold junk; rw [subS_spec hs t ht]; exact h.out t ht⟩

theorem junk_of_same {S : List (Nat × Nat)} {E E' : Env} (h : Same S E E') : junk S E' E = E' := by
  funext t
  unfold junk
  cases hs : inS S t with
  | true => rfl
  | false => exact (h.out t hs).symm

def qround {τ : Type} (S : List (Nat × Nat)) (st : τ → List (Nat × Value)) (CC : τ → Cls) (inv : τ → Prop) (μ : τ → Nat) (E : Env) (x : τ) (Q : Post) : Post
  | .normal, E', C' => Same S E E' ∧ ∃ x', Holds E' (st x') ∧ inv x' ∧ μ x' < μ x ∧ ∀ w, C' w → CC x' w
  | e, E', C' => Q e E' C'

theorem qround_normal {τ : Type} {S : List (Nat × Nat)} {st : τ → List (Nat × Value)} {CC : τ → Cls} {inv : τ → Prop} {μ : τ → Nat} {E E' : Env} {C' : Cls} {x : τ} {Q : Post}
    (hs : Same S E E') (h : ∃ x', Holds E' (st x') ∧ inv x' ∧ μ x' < μ x ∧ ∀ w, C' w → CC x' w) : qround S st CC inv μ E x Q .normal E' C' := ⟨hs, h⟩
theorem qround_ret {τ : Type} {S : List (Nat × Nat)} {st : τ → List (Nat × Value)} {CC : τ → Cls} {inv : τ → Prop} {μ : τ → Nat} {E E' : Env} {C' : Cls} {x : τ} {Q : Post}
    (h : Q .ret E' C') : qround S st CC inv μ E x Q .ret E' C' := h
theorem qround_exit {τ : Type} {S : List (Nat × Nat)} {st : τ → List (Nat × Value)} {CC : τ → Cls} {inv : τ → Prop} {μ : τ → Nat} {E E' : Env} {C' : Cls} {x : τ} {Q : Post} {id : Nat}
    (h : Q (.exit id) E' C') : qround S st CC inv μ E x Q (.exit id) E' C' := h

/-- A loop. 'S': the slots that its body writes; 'st': what the carried slots hold; 'CC': what is known of the world. -/
theorem pwp_loop {P : Program} {n : Nat} {c : Code} {Q : Post} {E : Env} {C : Cls} {τ : Type} (S : List (Nat × Nat)) (st : τ → List (Nat × Value)) (CC : τ → Cls) (inv : τ → Prop) (μ : τ → Nat) (x0 : τ)
    (hst : Holds E (st x0)) (hinv : inv x0) (hC : ∀ w, C w → CC x0 w)
    (round : ∀ (J : Env) (x : τ), inv x → Pwp P n c (qround S st CC inv μ E x Q) (upds (st x) (junk S J E)) (CC x)) :
    Pwp P n (.loop c) Q E C := by
  refine ⟨fun a w hf hc => ?_⟩
  refine wp_loop_ghost (fun m a w => ∃ x E', m = μ x ∧ Fr a E' n ∧ CC x w ∧ inv x ∧ Same S E E' ∧ Holds E' (st x)) (μ x0) ⟨x0, E, rfl, hf, hC w hc, hinv, same_refl, hst⟩ ?_
  rintro m a w ⟨x, E', rfl, hf, hc, hi, hs, hh⟩
  have hE : upds (st x) (junk S E' E) = E' := by rw [junk_of_same hs, holds_upds _ _ hh]
  have hr := round E' x hi
  rw [hE] at hr
  refine wp_mono (hr.out a w hf hc) fun e a' w' ⟨E1, C1, hf1, hc1, hq⟩ => ?_
  cases e with
  | normal =>
    obtain ⟨hs', x', hh', hi', hlt, hcc⟩ := hq
    exact ⟨μ x', hlt, x', E1, rfl, hf1, hcc w' hc1, hi', hs', hh'⟩
  | _ => exact ⟨E1, C1, hf1, hc1, hq⟩

/-- A loop whose first round leaves it. -/
def qonce (Q : Post) : Post
  | .normal, _, _ => False
  | e, E', C' => Q e E' C'
theorem qonce_ret {Q : Post} {E' : Env} {C' : Cls} (h : Q .ret E' C') : qonce Q .ret E' C' := h
theorem qonce_exit {Q : Post} {E' : Env} {C' : Cls} {id : Nat} (h : Q (.exit id) E' C') : qonce Q (.exit id) E' C' := h
theorem pwp_loop_once {P : Program} {n : Nat} {c : Code} {Q : Post} {E : Env} {C : Cls} (h : Pwp P n c (qonce Q) E C) : Pwp P n (.loop c) Q E C :=
  ⟨fun a w hf hc => wp_loop_once (wp_mono (h.out a w hf hc) fun e a' w' ⟨E', C', hf', hc', hq⟩ => by
    cases e with
    | normal => exact hq.elim
    | _ => exact ⟨E', C', hf', hc', hq⟩)⟩

/-- A call, from any world of a class. -/
structure PCall (P : Program) (f : FuncId) (args : Array Value) (C : Cls) (R : Value → Cls → Prop) : Prop where
  out : ∀ w, C w → Calls P f args w (fun e w' => ∃ v C', e = .returned v ∧ C' w' ∧ R v C')

def envOf (l : List Value) : Env := fun t => l.getD t undef

/-- The post of a body. -/
def qbody (P : Program) (fn : Func) (R : Value → Cls → Prop) : Post
  | .normal, E, C | .ret, E, C => ∃ v, (∀ (a : Act) w, (∀ t, a.tmps.getD t undef = E t) → C w → (results fn a.tmps).run P w = .ok v w) ∧ R v C
  | _, _, _ => False

theorem pcall_enter {P : Program} {f : FuncId} {fn : Func} {c : Code} {args : List Value} {C : Cls} {R : Value → Cls → Prop} {n : Nat}
    (hf : P.funcs[f]? = some fn) (hb : fn.body = some c) (hn : fn.ntmps = n) (hle : args.length ≤ n) (h : Pwp P n c (qbody P fn R) (envOf args) C) :
    PCall P f args.toArray C R := by
  refine ⟨fun w hw => calls_of_wp hf hb (wp_mono (h.out _ w ⟨rfl, by simp [hn]; omega, fun t => ?_⟩ hw) fun e a' w' ⟨E', C', hf', hc', hq⟩ => ?_)⟩
  · unfold envOf
    simp only [Array.getD_eq_getD_getElem?, List.getD_eq_getElem?_getD]
    by_cases ht : t < args.length
    · rw [Array.getElem?_append_left (by simpa using ht)]; simp
    · rw [Array.getElem?_append_right (by simpa using ht)]
      rw [Array.getElem?_replicate, List.getElem?_eq_none (by omega)]
      split <;> simp
  · cases e with
    | normal =>
      obtain ⟨v, hr, hR⟩ := hq
      exact ⟨hf'.defers, v, hr a' w' hf'.get hc', v, C', rfl, hc', hR⟩
    | ret =>
      obtain ⟨v, hr, hR⟩ := hq
      exact ⟨hf'.defers, v, hr a' w' hf'.get hc', v, C', rfl, hc', hR⟩
    | _ => exact hq.elim

section
variable {P : Program} {fn : Func} {R : Value → Cls → Prop} {E : Env} {C : Cls}
theorem qbody_ret1 {t : Tmp} {v : Value} (hr : fn.results = #[.tmp t]) (hE : E t = v) (h : R v C) : qbody P fn R .ret E C :=
  ⟨v, fun _ _ ha _ => by rw [results_tmp hr, ha t, hE], h⟩
theorem qbody_ret2 {t u : Tmp} {v v' : Value} (hr : fn.results = #[.tmp t, .tmp u]) (hE : E t = v) (hE' : E u = v') (h : R (.tuple #[v, v']) C) : qbody P fn R .ret E C :=
  ⟨_, fun _ _ ha _ => by rw [results_tmp2 hr, ha t, ha u, hE, hE'], h⟩
theorem qbody_ret3 {t u s : Tmp} {v v' v'' : Value} (hr : fn.results = #[.tmp t, .tmp u, .tmp s]) (hE : E t = v) (hE' : E u = v') (hE'' : E s = v'') (h : R (.tuple #[v, v', v'']) C) : qbody P fn R .ret E C :=
  ⟨_, fun _ _ ha _ => by subst hE hE' hE''; simp [results, hr, ← ha], h⟩
theorem qbody_end0 (hr : fn.results = #[]) (h : R (.tuple #[]) C) : qbody P fn R .normal E C :=
  ⟨_, fun _ _ _ _ => results_none hr _ _ _, h⟩
end
attribute [irreducible] qseq qblock qround qonce qbody
end Go.Pw
