/- Regions that draw their order, at large: operations that only look are taken first, the others in each order that the edges leave. -/
import Derived.Test.YtoejpckfeflkaaaGreatDoorPwTail
namespace Go.Pw
open Go Go.RowKit

section
variable {P : Program} {ops : Array Oper} {md : Region.Mode}

/-- What is known of the world: the class, until a barrier is behind. -/
def Dk (B : List Nat) (C : World → Prop) (L : Array Bool) (w : World) : Prop := (B.any fun b => L.getD b false) = true ∨ C w

def AnyD (P : Program) (md : Region.Mode) (ops : Array Oper) (Qn : Act → World → Prop) (B : List Nat) (C : World → Prop) : Nat → Array Bool → Act → World → Prop
  | 0, listed, a, w => Region.ready md ops listed = [] ∧ Qn a w
  | fuel + 1, listed, a, w => (Region.ready md ops listed = [] → Qn a w) ∧
      ∀ i ∈ Region.ready md ops listed, gOp P ops i (fun a' w' => Dk B C (listed.setIfInBounds i true) w' ∧ AnyD P md ops Qn B C fuel (listed.setIfInBounds i true) a' w') a w

theorem AnyD.anyG {Qn : Act → World → Prop} {B : List Nat} {C : World → Prop} : ∀ (fuel : Nat) (listed : Array Bool) (a : Act) (w : World), AnyD P md ops Qn B C fuel listed a w → AnyG P md ops Qn (fun _ => True) fuel listed a w
  | 0, _, _, _, h => h
  | fuel + 1, _, _, _, h => ⟨h.1, fun i hi => gOp_mono (fun a' w' ⟨_, hh⟩ => ⟨trivial, AnyD.anyG fuel _ a' w' hh⟩) (h.2 i hi)⟩

theorem getD_set_other {L : Array Bool} {i b : Nat} (h : i ≠ b) : (L.setIfInBounds i true).getD b false = L.getD b false := getD_set_ne false h
theorem Dk.swap {B : List Nat} {C : World → Prop} {L : Array Bool} {i j : Nat} {w : World} (hi : i ∉ B) (h : Dk B C ((L.setIfInBounds i true).setIfInBounds j true) w) : Dk B C (L.setIfInBounds j true) w := by
  rcases h with h | h
  · left
    obtain ⟨b, hb, h1⟩ := List.any_eq_true.1 h
    refine List.any_eq_true.2 ⟨b, hb, ?_⟩
    by_cases hjb : j = b
    · subst hjb
      by_cases hlt : j < L.size
      · simp [hlt]
      · simp [hlt] at h1
    · rw [getD_set_other hjb] at h1 ⊢
      rwa [getD_set_other (fun e => hi (by rw [e]; exact hb))] at h1
  · exact .inr h

/-- A still operation that may come up may be taken first. -/
theorem AnyD.first {Qn : Act → World → Prop} {B : List Nat} {C C0 : World → Prop} {i : Nat} {oi : Oper} {v : Value} (hi : ops[i]? = some oi) (hsel : ∀ (j : Nat) (o : Oper) cs b, ops[j]? = some o → o.op ≠ .select cs b)
    (hB : i ∉ B) (hC : (∀ w, C0 w) ∨ ((∀ w, C w → C0 w) ∧ ∀ b ∈ B, ∃ ob, ops[b]? = some ob ∧ waitsOn md ops i ops.size b = true)) :
    ∀ (fuel : Nat) (listed : Array Bool) (a : Act) (w : World), Closed md ops listed →
      (∀ j oj, ops[j]? = some oj → j ≠ i → listed.getD j true = false → (∀ e ∈ oj.after, Region.binds md e = true → e.on ≠ i) → oi.apart ops oj = true) →
      i ∈ Region.ready md ops listed → StillY P ops C0 oi v a → Dk B C listed w →
      AnyD P md ops Qn B C fuel (listed.setIfInBounds i true) (a.put oi.dst v) w → AnyD P md ops Qn B C (fuel + 1) listed a w := by
  have hin : ∀ {listed : Array Bool} {w : World}, Closed md ops listed → i ∈ Region.ready md ops listed → Dk B C listed w → C0 w := by
    intro listed w hcl hr hd
    rcases hC with h | ⟨h, hw⟩
    · exact h w
    · rcases hd with hd | hd
      · exfalso
        obtain ⟨b, hb, h1⟩ := List.any_eq_true.1 hd
        obtain ⟨ob, hob, hwt⟩ := hw b hb
        have h2 := waits_listed hcl _ _ _ hob hwt (hcl b ob hob h1)
        have h0 := (mem_ready.1 hr).1
        rcases Nat.lt_or_ge i listed.size with h' | h'
        · simp [h'] at h0 h2; rw [h0] at h2; cases h2
        · simp [Array.getElem?_eq_none h'] at h2
      · exact h w hd
  have hdi : ∀ {listed : Array Bool} {w : World}, Dk B C listed w → Dk B C (listed.setIfInBounds i true) w := by
    intro listed w hd
    rcases hd with hd | hd
    · left
      obtain ⟨b, hb, h1⟩ := List.any_eq_true.1 hd
      exact List.any_eq_true.2 ⟨b, hb, by rw [getD_set_other (fun e => hB (by rw [e]; exact hb))]; exact h1⟩
    · exact .inr hd
  intro fuel
  induction fuel with
  | zero =>
    intro listed a w hcl _ hr hy hd H
    refine ⟨fun h => (by rw [h] at hr; cases hr), fun j hj => ?_⟩
    by_cases hji : j = i
    · subst hji; exact hy.gOp hi (hin hcl hr hd) ⟨hdi hd, H⟩
    · have := ready_mono hj hji
      rw [H.1] at this
      cases this
  | succ fuel ih =>
    intro listed a w hcl hfree hr hy hd H
    refine ⟨fun h => (by rw [h] at hr; cases hr), fun j hj => ?_⟩
    by_cases hji : j = i
    · subst hji; exact hy.gOp hi (hin hcl hr hd) ⟨hdi hd, H⟩
    · have h1 := H.2 j (ready_mono hj hji)
      obtain ⟨hjun, oj, hoj, hall⟩ := mem_ready.1 hj
      have hnot : ∀ e ∈ oj.after, Region.binds md e = true → e.on ≠ i := fun e he hb heq => by
        have h1 := hall e he hb
        have h0 := (mem_ready.1 hr).1
        rw [heq] at h1
        rcases Nat.lt_or_ge i listed.size with h' | h'
        · simp [h'] at h0 h1; rw [h0] at h1; cases h1
        · simp [Array.getElem?_eq_none h'] at h1
      have h2 := gOp_put hoj (hfree j oj hoj hji hjun hnot) (fun cs b => hsel i oi cs b hi) (fun cs b => hsel j oj cs b hoj) hy h1
      have hfree' : ∀ k ok, ops[k]? = some ok → k ≠ i → (listed.setIfInBounds j true).getD k true = false →
          (∀ e ∈ ok.after, Region.binds md e = true → e.on ≠ i) → oi.apart ops ok = true := fun k ok hk hki hun hno => by
        refine hfree k ok hk hki ?_ hno
        by_cases hjk : j = k
        · subst hjk; exact hjun
        · rw [getD_set_ne true hjk] at hun; exact hun
      refine gOp_mono (fun a' w' ⟨h3, h4, h5⟩ => ⟨h4.swap hB, ih (listed.setIfInBounds j true) a' w' (hcl.set hj) hfree' (ready_mono hr (Ne.symm hji)) h3 (h4.swap hB) ?_⟩) h2
      rw [Array.setIfInBounds_comm _ _ hji]
      exact h5

/-- May operation k, which only looks, be taken first? -/
def lookB (ops : List Oper) (B : List Nat) (listed : Array Bool) (k : Nat) : Bool := match nthOp ops k with
  | none => false
  | some o => (Region.ready .any ops.toArray listed).contains k && Region.free .any ops.toArray listed k && lookKind o && !B.contains k && (isMove o || B.all fun b => Nat.blt b ops.length && waitsOn .any ops.toArray k ops.toArray.size b)
def looksB (ops : List Oper) (B : List Nat) : List Nat → Array Bool → Bool
  | [], _ => true
  | k :: r, listed => lookB ops B listed k && looksB ops B r (listed.setIfInBounds k true)

theorem looks_anyD {l : List Oper} {Qn : Act → World → Prop} {Qn' : Act → Prop} {B : List Nat} {C : World → Prop} {m : Nat} {w : World} (hs : Region.noSelect l.toArray = true) (hC : C w) {L0 : Array Bool} :
    ∀ (ks : List Nat) (listed : Array Bool) (a : Act), endOrd ks listed = L0 → looksB l B ks listed = true → Closed .any l.toArray listed → (Closed .any l.toArray L0 → ∀ a, Qn' a → AnyD P .any l.toArray Qn B C m L0 a w) →
    wpM P l.toArray (fun a _ => Qn' a) (pickOps l ks) a C → AnyD P .any l.toArray Qn B C (ks.length + m) listed a w
  | [], listed, a, he, _, hcl, hgo, h => by
    subst he
    rw [List.length_nil, Nat.zero_add]
    exact hgo hcl a (h w hC)
  | k :: r, listed, a, he, hB, hcl, hgo, h => by
    simp only [looksB, Bool.and_eq_true] at hB
    obtain ⟨hk, hB'⟩ := hB
    unfold lookB at hk
    cases hn : nthOp l k with
    | none => rw [hn] at hk; cases hk
    | some o =>
    rw [hn] at hk
    simp only [Bool.and_eq_true, Bool.or_eq_true, List.all_eq_true, Bool.not_eq_true'] at hk
    obtain ⟨⟨⟨⟨hr, hf⟩, hlk⟩, hnB⟩, hmv⟩ := hk
    have hr' : k ∈ Region.ready .any l.toArray listed := by simpa using hr
    have h0 : l.toArray[k]? = some o := by rw [← hn, nthOp_eq]; simp
    have hnB' : k ∉ B := by simpa using hnB
    unfold pickOps at h
    rw [hn] at h
    dsimp only at h
    unfold wpM at h
    rw [List.length_cons, show r.length + 1 + m = (r.length + m) + 1 by omega]
    have hrec : ∀ v, wpM P l.toArray (fun a _ => Qn' a) (pickOps l r) (a.put o.dst v) C → AnyD P .any l.toArray Qn B C (r.length + m) (listed.setIfInBounds k true) (a.put o.dst v) w := fun v hK => looks_anyD hs hC r _ _ he hB' (hcl.set hr') hgo hK
    have hst : (∃ v, StillY P l.toArray C o v a ∧ wpM P l.toArray (fun a _ => Qn' a) (pickOps l r) (a.put o.dst v) C) := by
      by_cases hw : Region.wanted o (yielded l.toArray a.tmps) = true
      · rw [if_pos hw] at h
        rcases h with ⟨_, v, hv, hK⟩ | ⟨hn', _⟩
        · exact ⟨v, .inl ⟨hw, hv⟩, hK⟩
        · rw [hlk] at hn'; cases hn'
      · rw [if_neg hw] at h
        exact ⟨undef, .inr ⟨by simpa using hw, rfl⟩, h⟩
    obtain ⟨v, hy, hK⟩ := hst
    rcases hmv with hmv | hmv
    · obtain ⟨v0, hy0⟩ := move_still (P := P) (ops := l.toArray) (C := fun _ => True) hmv a
      have e : v = v0 := by
        rcases hy with ⟨h1, h2⟩ | ⟨h1, h2⟩ <;> rcases hy0 with ⟨h3, h4⟩ | ⟨h3, h4⟩
        · have e1 := h2 w hC
          rw [h4 w trivial] at e1
          injection e1 with e1 _; injection e1 with e1; exact e1.symm
        · rw [h1] at h3; cases h3
        · rw [h1] at h3; cases h3
        · rw [h2, h4]
      subst e
      exact AnyD.first h0 (Region.noSelect_spec hs) hnB' (.inl fun _ => trivial) (r.length + m) listed a w hcl (Region.free_spec h0 hf) hr' hy0 (.inr hC) (hrec v hK)
    · refine AnyD.first h0 (Region.noSelect_spec hs) hnB' (.inr ⟨fun _ h => h, fun b hb => ?_⟩) (r.length + m) listed a w hcl (Region.free_spec h0 hf) hr' hy (.inr hC) (hrec v hK)
      have := hmv b hb
      simp only [Nat.blt_eq] at this
      exact ⟨l.toArray[b]'(by simpa using this.1), by simp [this.1], this.2⟩
end

/-- The rest of a region that draws its order. -/
structure Pxa (P : Program) (n : Nat) (ops : List Oper) (B : List Nat) (C0 : Cls) (fuel : Nat) (listed : Array Bool) (Q : Post) (E : Env) (C : Cls) : Prop where
  out : Closed .any ops.toArray listed → ∀ a w, Fr a E n → C w → AnyD P .any ops.toArray (fun a' w' => ∃ E' C', Fr a' E' n ∧ C' w' ∧ Q .normal E' C') B C0 fuel listed a w

def qstep (P : Program) (n : Nat) (ops : List Oper) (B : List Nat) (C0 : Cls) (fuel : Nat) (listed : Array Bool) (Q : Post) : Post
  | .normal, E, C => ((B.any fun b => listed.getD b false) = true ∨ ∀ w, C w → C0 w) ∧ Pxa P n ops B C0 fuel listed Q E C
  | _, _, _ => False
theorem qstep_in {P : Program} {n : Nat} {ops : List Oper} {B : List Nat} {C0 : Cls} {fuel : Nat} {listed : Array Bool} {Q : Post} {E : Env} {C : Cls} (h1 : ∀ w, C w → C0 w) (h : Pxa P n ops B C0 fuel listed Q E C) : qstep P n ops B C0 fuel listed Q .normal E C := ⟨.inr h1, h⟩
theorem qstep_out {P : Program} {n : Nat} {ops : List Oper} {B : List Nat} {C0 : Cls} {fuel : Nat} {listed : Array Bool} {Q : Post} {E : Env} {C : Cls} (h1 : (B.any fun b => listed.getD b false) = true) (h : Pxa P n ops B C0 fuel listed Q E C) : qstep P n ops B C0 fuel listed Q .normal E C := ⟨.inl h1, h⟩

section
variable {P : Program} {n : Nat} {ops : List Oper} {B : List Nat} {C0 : Cls} {fuel : Nat} {listed : Array Bool} {Q : Post} {E : Env} {C : Cls}
theorem pxa_nil (hr : (Region.ready .any ops.toArray listed).isEmpty = true) (h : Q .normal E C) : Pxa P n ops B C0 0 listed Q E C := ⟨fun _ a w hf hc => ⟨by simpa using hr, E, C, hf, hc, h⟩⟩

theorem pxa_op {j : Nat} {o : Oper} (ho : nthOp ops j = some o) (hr : j ∈ Region.ready .any ops.toArray listed) (h : Px P n ops .seq [o] (qstep P n ops B C0 fuel (listed.setIfInBounds j true) Q) E C) (hcl : Closed .any ops.toArray listed) {a : Act} {w : World} (hf : Fr a E n) (hc : C w) :
    gOp P ops.toArray j (fun a' w' => Dk B C0 (listed.setIfInBounds j true) w' ∧ AnyD P .any ops.toArray (fun a' w' => ∃ E' C', Fr a' E' n ∧ C' w' ∧ Q .normal E' C') B C0 fuel (listed.setIfInBounds j true) a' w') a w := by
  have h0 : ops.toArray[j]? = some o := by rw [← ho, nthOp_eq]; simp
  have h1 := h.out a w hf hc
  unfold gOp
  simp only [h0]
  unfold wpList at h1
  have fin : ∀ a' w', (∃ E' C', Fr a' E' n ∧ C' w' ∧ qstep P n ops B C0 fuel (listed.setIfInBounds j true) Q .normal E' C') →
      Dk B C0 (listed.setIfInBounds j true) w' ∧ AnyD P .any ops.toArray (fun a' w' => ∃ E' C', Fr a' E' n ∧ C' w' ∧ Q .normal E' C') B C0 fuel (listed.setIfInBounds j true) a' w' := by
    rintro a' w' ⟨E', C', hf', hc', hd, hx⟩
    exact ⟨hd.imp id (fun h => h w' hc'), hx.out (hcl.set hr) a' w' hf' hc'⟩
  have hxn : ∀ e (a : Act) (w : World), (∃ E' C', Fr a E' n ∧ C' w ∧ qstep P n ops B C0 fuel (listed.setIfInBounds j true) Q e E' C') → e = .normal := by
    rintro e a w ⟨E', C', _, _, hq⟩
    cases e <;> first | rfl | exact hq.elim
  split
  · rename_i hw
    rw [if_pos hw] at h1
    rcases h1 with h1 | ⟨_, a0, w0, h1⟩
    · refine wp_noOut hxn (Oper.wp_mono (fun a' w' hK => ?_) h1)
      unfold wpList at hK
      exact fin a' w' hK
    · have := hxn _ _ _ h1; cases this
  · rename_i hw
    rw [if_neg hw] at h1
    unfold wpList at h1
    exact fin _ _ h1

/-- One operation alone may come up. -/
theorem pxa_one (j : Nat) {o : Oper} (hr : (Region.ready .any ops.toArray listed == [j]) = true) (ho : nthOp ops j = some o) (h : Px P n ops .seq [o] (qstep P n ops B C0 fuel (listed.setIfInBounds j true) Q) E C) : Pxa P n ops B C0 (fuel + 1) listed Q E C := ⟨fun hcl a w hf hc => by
  have hr := eq_of_beq hr
  refine ⟨fun h0 => (by rw [hr] at h0; cases h0), fun i hi => ?_⟩
  have hi' := hi
  rw [hr] at hi
  have e := List.mem_singleton.1 hi
  subst e
  exact pxa_op ho hi' h hcl hf hc⟩
/-- Either of two may come up. -/
theorem pxa_two (j k : Nat) {o o' : Oper} (hr : (Region.ready .any ops.toArray listed == [j, k]) = true) (ho : nthOp ops j = some o) (ho' : nthOp ops k = some o') (h : Px P n ops .seq [o] (qstep P n ops B C0 fuel (listed.setIfInBounds j true) Q) E C)
    (h' : Px P n ops .seq [o'] (qstep P n ops B C0 fuel (listed.setIfInBounds k true) Q) E C) : Pxa P n ops B C0 (fuel + 1) listed Q E C := ⟨fun hcl a w hf hc => by
  have hr := eq_of_beq hr
  refine ⟨fun h0 => (by rw [hr] at h0; cases h0), fun i hi => ?_⟩
  have hi' := hi
  rw [hr] at hi
  rcases List.mem_cons.1 hi with e | hi
  · subst e; exact pxa_op ho hi' h hcl hf hc
  · have e := List.mem_singleton.1 hi
    subst e
    exact pxa_op ho' hi' h' hcl hf hc⟩

def qlooks (P : Program) (n : Nat) (ops : List Oper) (B : List Nat) (C0 : Cls) (fuel : Nat) (listed : Array Bool) (Q : Post) (C : Cls) : Post
  | .normal, E, _ => Pxa P n ops B C0 fuel listed Q E C
  | _, _, _ => False
theorem qlooks_normal {C1 : Cls} (h : Pxa P n ops B C0 fuel listed Q E C) : qlooks P n ops B C0 fuel listed Q C .normal E C1 := h

/-- A region that draws its order: 'ks' only look, at what 'C0' tells, which the others, up to a barrier of 'B', leave as it is. -/
theorem pwp_region_any (ks B : List Nat) (fuel : Nat) (C0 : Cls) {id : Nat} (hm : P.follows .mixedOrders = true) (hs : (Region.noSelect ops.toArray && (ks.length + fuel == ops.length) && looksB ops B ks (Array.replicate ops.length false)) = true) (hS : Stable C) (hC : ∀ w, C w → C0 w)
    (h : Px P n ops .mix (pickOps ops ks) (qlooks P n ops B C0 fuel (endOrd ks (Array.replicate ops.length false)) Q C) E C0) : Pwp P n (.region id ops.toArray true) Q E C := by
  simp only [Bool.and_eq_true, beq_iff_eq] at hs
  obtain ⟨⟨h1, h2⟩, h3⟩ := hs
  refine ⟨fun a w hf hc => wp_region_any hm ?_⟩
  have hz : Closed .any ops.toArray (Array.replicate ops.length false) := fun m o ho hm e he hb => by
    exfalso
    have hlt : m < ops.length := by have := (Array.getElem?_eq_some_iff.1 ho).1; simpa using this
    simp [hlt] at hm
  have hc1 := hS _ _ hc (below_drawn w)
  have fin := looks_anyD (P := P) (B := B) (C := C0) (m := fuel) (Qn := fun a' w' => ∃ E' C', Fr a' E' n ∧ C' w' ∧ Q .normal E' C') (Qn' := fun a' => ∃ E', Fr a' E' n ∧ Pxa P n ops B C0 fuel (endOrd ks (Array.replicate ops.length false)) Q E' C) h1 (hC _ hc1) ks (Array.replicate ops.length false) a rfl h3 hz
    (fun hcl a' ⟨E', hf', hx⟩ => hx.out hcl a' _ hf' hc1) (wpM_mono (fun a' w' ⟨E', C', hf', _, hq⟩ => ⟨E', hf', hq⟩) _ _ _ (h.out a hf))
  have hsz : ks.length + fuel = ops.toArray.size := by simpa using h2
  rw [hsz] at fin
  exact AnyG.sound (C := fun _ => True) (fun a' w' h => h) _ _ _ _ fin.anyG
end
attribute [irreducible] qstep qlooks
end Go.Pw
