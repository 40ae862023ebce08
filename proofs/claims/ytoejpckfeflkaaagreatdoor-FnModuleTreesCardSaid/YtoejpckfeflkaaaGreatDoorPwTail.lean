/- Regions that draw their order and end in operations that come one after the other: a store behind loads, two stores. -/
import Derived.Test.YtoejpckfeflkaaaGreatDoorPwCore
namespace Go.Pw
open Go Go.RowKit

section
variable {P : Program} {ops : Array Oper} {md : Region.Mode}

def AnyT (P : Program) (md : Region.Mode) (ops : Array Oper) (Bot : Array Bool → Act → World → Prop) (C : World → Prop) : Nat → Array Bool → Act → World → Prop
  | 0, listed, a, w => Bot listed a w
  | fuel + 1, listed, a, w => Region.ready md ops listed ≠ [] ∧
      ∀ i ∈ Region.ready md ops listed, gOp P ops i (fun a' w' => C w' ∧ AnyT P md ops Bot C fuel (listed.setIfInBounds i true) a' w') a w

theorem AnyT.mono {Bot : Array Bool → Act → World → Prop} {C C' : World → Prop} (hC : ∀ w, C' w → C w) : ∀ (fuel : Nat) (listed : Array Bool) (a : Act) (w : World), AnyT P md ops Bot C' fuel listed a w → AnyT P md ops Bot C fuel listed a w
  | 0, _, _, _, h => h
  | fuel + 1, _, _, _, h => ⟨h.1, fun i hi => gOp_mono (fun a' w' ⟨hc, hh⟩ => ⟨hC _ hc, AnyT.mono hC fuel _ a' w' hh⟩) (h.2 i hi)⟩

theorem AnyT.sound {Bot : Array Bool → Act → World → Prop} {C : World → Prop} {Q : Exit → Act → World → Prop} {m : Nat} (hQ : ∀ L a w, Bot L a w → wpAny P md ops Q m L a w) : ∀ (fuel : Nat) (listed : Array Bool) (a : Act) (w : World), AnyT P md ops Bot C fuel listed a w → wpAny P md ops Q (fuel + m) listed a w
  | 0, _, _, _, h => by rw [Nat.zero_add]; exact hQ _ _ _ h
  | fuel + 1, _, a, w, h => by
    rw [show fuel + 1 + m = (fuel + m) + 1 by omega]
    refine ⟨fun h0 => absurd h0 h.1, fun i hi => ?_⟩
    have h2 := h.2 i hi
    unfold gOp at h2
    unfold wpOp
    split
    · rename_i ho; simp only [ho] at h2; exact AnyT.sound hQ fuel _ _ _ h2.2
    · rename_i o ho
      simp only [ho] at h2
      split
      · rename_i hw
        simp only [hw, if_true] at h2
        refine .inl ?_
        unfold Oper.wp at *
        generalize (execOp a.eval o).run P w = r at *
        cases r with
        | ok n w' =>
          cases n <;> simp only [Oper.upon] at h2 ⊢
          case value u => exact AnyT.sound hQ fuel _ _ _ h2.2
          case skip => exact AnyT.sound hQ fuel _ _ _ h2.2
          case defer d => exact AnyT.sound hQ fuel _ _ _ h2.2
          case enter f args =>
            refine Calls.mono h2 fun e w'' he => ?_
            cases e with
            | returned u => exact AnyT.sound hQ fuel _ _ _ he.2
            | panicked c => exact he.elim
            | outgrown => obtain ⟨_, _, hx⟩ := he; exact hx.elim
          case row row args => exact Rows.mono h2 fun u w'' he => AnyT.sound hQ fuel _ _ _ he.2
        | halt x w' => cases x <;> simp only [Oper.upon] at h2 ⊢; exact h2.elim
      · rename_i hw
        simp only [hw] at h2
        exact AnyT.sound hQ fuel _ _ _ h2.2

/-- What comes up behind the first part waits for all of it. -/
def Behind (md : Region.Mode) (ops : Array Oper) (Bot : Array Bool → Act → World → Prop) (i : Nat) : Prop := ∀ L a w, Bot L a w → ∀ j ∈ Region.ready md ops L, waitsOn md ops i ops.size j = true

theorem ready_waits {i j : Nat} {listed : Array Bool} (hcl : Closed md ops listed) (hr : i ∈ Region.ready md ops listed) (hj : j ∈ Region.ready md ops listed) (hw : waitsOn md ops i ops.size j = true) : False := by
  obtain ⟨_, oj, hoj, hall⟩ := mem_ready.1 hj
  have h1 := waits_listed hcl _ _ _ hoj hw hall
  have h0 := (mem_ready.1 hr).1
  rcases Nat.lt_or_ge i listed.size with h' | h'
  · simp [h'] at h0 h1; rw [h0] at h1; cases h1
  · simp [Array.getElem?_eq_none h'] at h1

theorem AnyT.first {Bot : Array Bool → Act → World → Prop} {C : World → Prop} {i : Nat} {oi : Oper} {v : Value} (hi : ops[i]? = some oi) (hsel : ∀ (j : Nat) (o : Oper) cs b, ops[j]? = some o → o.op ≠ .select cs b) (hbe : Behind md ops Bot i) :
    ∀ (fuel : Nat) (listed : Array Bool) (a : Act) (w : World), Closed md ops listed →
      (∀ j oj, ops[j]? = some oj → j ≠ i → listed.getD j true = false → (∀ e ∈ oj.after, Region.binds md e = true → e.on ≠ i) → oi.apart ops oj = true) →
      i ∈ Region.ready md ops listed → StillY P ops C oi v a → C w →
      AnyT P md ops Bot C fuel (listed.setIfInBounds i true) (a.put oi.dst v) w → AnyT P md ops Bot C (fuel + 1) listed a w := by
  intro fuel
  induction fuel with
  | zero =>
    intro listed a w hcl _ hr hy hC H
    refine ⟨fun h => (by rw [h] at hr; cases hr), fun j hj => ?_⟩
    by_cases hji : j = i
    · subst hji; exact hy.gOp hi hC ⟨hC, H⟩
    · exact (ready_waits hcl hr hj (hbe _ _ _ H j (ready_mono hj hji))).elim
  | succ fuel ih =>
    intro listed a w hcl hfree hr hy hC H
    refine ⟨fun h => (by rw [h] at hr; cases hr), fun j hj => ?_⟩
    by_cases hji : j = i
    · subst hji; exact hy.gOp hi hC ⟨hC, H⟩
    · have h1 := H.2 j (ready_mono hj hji)
      obtain ⟨hjun, oj, hoj, hall⟩ := mem_ready.1 hj
      have hnot : ∀ e ∈ oj.after, Region.binds md e = true → e.on ≠ i := fun e he hb heq => by
        have h1 := hall e he hb
        have h0 := (mem_ready.1 hr).1
        rw [heq] at h1
        rcases Nat.lt_or_ge i listed.size with h' | h'
        · simp [h'] at h0 h1; rw [h0] at h1; cases h1
        · simp [Array.getElem?_eq_none h'] at h1
      have h2 := gOp_put hoj (hfree j oj hoj hji hjun hnot) (fun cs b => hsel i oi cs b hi) (fun cs b => hsel j oj cs b hoj) hy h1
      have hfree' : ∀ k ok, ops[k]? = some ok → k ≠ i → (listed.setIfInBounds j true).getD k true = false →
          (∀ e ∈ ok.after, Region.binds md e = true → e.on ≠ i) → oi.apart ops ok = true := fun k ok hk hki hun hno => by
        refine hfree k ok hk hki ?_ hno
        by_cases hjk : j = k
        · subst hjk; exact hjun
        · rw [getD_set_ne true hjk] at hun; exact hun
      refine gOp_mono (fun a' w' ⟨h3, h4, h5⟩ => ⟨h4, ih (listed.setIfInBounds j true) a' w' (hcl.set hj) hfree' (ready_mono hr (Ne.symm hji)) h3 h4 ?_⟩) h2
      rw [Array.setIfInBounds_comm _ _ hji]
      exact h5

theorem AnyT.only {Bot : Array Bool → Act → World → Prop} {C : World → Prop} {i : Nat} {oi : Oper} (hi : ops[i]? = some oi) (hsel : ∀ (j : Nat) (o : Oper) cs b, ops[j]? = some o → o.op ≠ .select cs b) (hbe : Behind md ops Bot i) :
    ∀ (fuel : Nat) (listed : Array Bool) (a : Act) (w : World), Closed md ops listed →
      (∀ j oj, ops[j]? = some oj → j ≠ i → listed.getD j true = false → waitsOn md ops i ops.size j = true ∨ (isMove oj = true ∧ oj.apart ops oi = true)) →
      i ∈ Region.ready md ops listed → C w →
      gOp P ops i (fun a' w' => C w' ∧ AnyT P md ops Bot C fuel (listed.setIfInBounds i true) a' w') a w → AnyT P md ops Bot C (fuel + 1) listed a w := by
  intro fuel
  induction fuel with
  | zero =>
    intro listed a w hcl _ hr _ H
    refine ⟨fun h => (by rw [h] at hr; cases hr), fun j hj => ?_⟩
    by_cases hji : j = i
    · subst hji; exact H
    · obtain ⟨a', w', _, h0⟩ := gOp_some H
      exact (ready_waits hcl hr hj (hbe _ _ _ h0 j (ready_mono hj hji))).elim
  | succ fuel ih =>
    intro listed a w hcl hst hr hC H
    refine ⟨fun h => (by rw [h] at hr; cases hr), fun j hj => ?_⟩
    by_cases hji : j = i
    · subst hji; exact H
    · obtain ⟨hjun, oj, hoj, hall⟩ := mem_ready.1 hj
      rcases hst j oj hoj hji hjun with hw | ⟨hmv, hap⟩
      · exact (ready_waits hcl hr hj hw).elim
      · obtain ⟨v, hy⟩ := move_still (P := P) (ops := ops) (C := fun _ => True) hmv a
        refine hy.gOp hoj trivial ⟨hC, ?_⟩
        refine ih (listed.setIfInBounds j true) (a.put oj.dst v) w (hcl.set hj) (fun k ok hk hki hun => hst k ok hk hki ?_) (ready_mono hr (Ne.symm hji)) hC ?_
        · by_cases hjk : j = k
          · subst hjk; exact hjun
          · rw [getD_set_ne true hjk] at hun; exact hun
        · refine gOp_mono ?_ (gOp_tup hi hap (fun cs b => hsel i oi cs b hi) (fun cs b => hsel j oj cs b hoj) hy H)
          rintro a'' w' ⟨a', ⟨hc', h5⟩, hy', rfl⟩
          refine ⟨hc', ?_⟩
          have h6 := (hy'.out hoj trivial (h5.2 j (ready_mono hj hji))).2
          rw [Array.setIfInBounds_comm _ _ (Ne.symm hji)] at h6
          exact h6

/-- The first part, in a given order. -/
def headOrd (md : Region.Mode) (l : List Oper) : List Nat → Array Bool → Bool
  | [], _ => true
  | k :: r, listed => (Region.ready md l.toArray listed).contains k && (match nthOp l k with | some o => (match lookKind o with | true => Region.free md l.toArray listed k | false => onlyB md l.toArray listed k) | none => false) && headOrd md l r (listed.setIfInBounds k true)
def endOrd : List Nat → Array Bool → Array Bool
  | [], listed => listed
  | k :: r, listed => endOrd r (listed.setIfInBounds k true)

theorem anyT_ord {L : List Oper} {Qn : Act → World → Prop} {L0 : Array Bool} (hs : Region.noSelect L.toArray = true) : ∀ (ord : List Nat) (listed : Array Bool) (a : Act) (C : World → Prop) (w : World),
    (∀ i ∈ ord, ∀ j ∈ Region.ready md L.toArray L0, waitsOn md L.toArray i L.toArray.size j = true) → endOrd ord listed = L0 →
    headOrd md L ord listed = true → Closed md L.toArray listed → C w → wpM P L.toArray Qn (pickOps L ord) a C → AnyT P md L.toArray (fun L' a w => L' = L0 ∧ Qn a w) C ord.length listed a w
  | [], _, _, _, _, _, he, _, _, hC, h => ⟨he, h _ hC⟩
  | k :: r, listed, a, C, w, hbe, he, hB, hcl, hC, h => by
    simp only [headOrd, Bool.and_eq_true] at hB
    obtain ⟨⟨hr, hf⟩, hB'⟩ := hB
    have hr' : k ∈ Region.ready md L.toArray listed := by simpa using hr
    have hbe' : ∀ i ∈ r, ∀ j ∈ Region.ready md L.toArray L0, waitsOn md L.toArray i L.toArray.size j = true := fun i hi => hbe i (List.mem_cons_of_mem _ hi)
    have hbk : ∀ Q : Act → World → Prop, Behind md L.toArray (fun L' a w => L' = L0 ∧ Q a w) k := fun Q L' a w ⟨e, _⟩ j hj => by subst e; exact hbe k (List.mem_cons_self ..) j hj
    cases hn : nthOp L k with
    | none => rw [hn] at hf; cases hf
    | some o =>
    have h0 : L.toArray[k]? = some o := by rw [← hn, nthOp_eq]; simp
    unfold pickOps at h
    rw [hn] at hf h
    dsimp only at hf h
    unfold wpM at h
    cases hk : lookKind o with
    | true =>
      rw [hk] at hf
      have hgo : ∀ v, StillY P L.toArray C o v a → wpM P L.toArray Qn (pickOps L r) (a.put o.dst v) C → AnyT P md L.toArray (fun L' a w => L' = L0 ∧ Qn a w) C (k :: r).length listed a w := fun v hy hK =>
        AnyT.first h0 (Region.noSelect_spec hs) (hbk Qn) r.length listed a w hcl (Region.free_spec h0 hf) hr' hy hC (anyT_ord hs r _ _ C w hbe' he hB' (hcl.set hr') hC hK)
      by_cases hw : Region.wanted o (yielded L.toArray a.tmps) = true
      · rw [if_pos hw] at h
        rcases h with ⟨_, v, hv, hK⟩ | ⟨hn, _⟩
        · exact hgo v (.inl ⟨hw, hv⟩) hK
        · rw [hk] at hn; cases hn
      · rw [if_neg hw] at h
        exact hgo undef (.inr ⟨by simpa using hw, rfl⟩) h
    | false =>
      rw [hk] at hf
      refine AnyT.only h0 (Region.noSelect_spec hs) (hbk Qn) r.length listed a w hcl (onlyB_spec h0 hf) hr' hC ?_
      unfold gOp
      simp only [h0]
      by_cases hw : Region.wanted o (yielded L.toArray a.tmps) = true
      · rw [if_pos hw] at h ⊢
        rcases h with ⟨hn, _⟩ | ⟨_, h⟩
        · rw [hk] at hn; cases hn
        · exact Oper.wp_mono (fun a' w' ⟨C', hc', hsub, hK⟩ => ⟨hsub _ hc', AnyT.mono hsub _ _ _ _ (anyT_ord hs r _ a' C' w' hbe' he hB' (hcl.set hr') hc' hK)⟩) (h w hC)
      · rw [if_neg hw] at h ⊢
        exact ⟨hC, anyT_ord hs r _ _ C w hbe' he hB' (hcl.set hr') hC h⟩

theorem AnyT.anyG {Bot : Array Bool → Act → World → Prop} {C : World → Prop} {Qn : Act → World → Prop} {m : Nat} (hQ : ∀ L a w, Bot L a w → AnyG P md ops Qn (fun _ => True) m L a w) :
    ∀ (fuel : Nat) (listed : Array Bool) (a : Act) (w : World), AnyT P md ops Bot C fuel listed a w → AnyG P md ops Qn (fun _ => True) (fuel + m) listed a w
  | 0, _, _, _, h => by rw [Nat.zero_add]; exact hQ _ _ _ h
  | fuel + 1, _, a, w, h => by
    rw [show fuel + 1 + m = (fuel + m) + 1 by omega]
    exact ⟨fun h0 => absurd h0 h.1, fun i hi => gOp_mono (fun a' w' ⟨_, hh⟩ => ⟨trivial, AnyT.anyG hQ fuel _ a' w' hh⟩) (h.2 i hi)⟩

/-- No way out but the normal one. -/
theorem wp_noOut {o : Oper} {a : Act} {w : World} {K : Act → World → Prop} {Qx : Exit → Act → World → Prop} (hx : ∀ e a w, Qx e a w → e = .normal) (h : o.wp P a w K Qx) : o.wp P a w K noOut := by
  unfold Oper.wp at *
  generalize (execOp a.eval o).run P w = r at *
  cases r with
  | ok n w' =>
    cases n <;> simp only [Oper.upon] at h ⊢
    case value u => exact h
    case skip => exact h
    case defer d => exact h
    case enter f args =>
      refine Calls.mono h fun e w'' he => ?_
      cases e with
      | returned u => exact he
      | panicked c => have := hx _ _ _ he; cases this
      | outgrown => obtain ⟨a, w, hq⟩ := he; have := hx _ _ _ hq; cases this
    case row row args => exact h
  | halt x w' => cases x <;> simp only [Oper.upon] at h ⊢ <;> first | exact h | (have := hx _ _ _ h; cases this)

/-- The last part: one operation at a time. -/
def chainOrd (md : Region.Mode) (l : List Oper) : List Nat → Array Bool → Bool
  | [], listed => (Region.ready md l.toArray listed).isEmpty
  | k :: r, listed => Region.ready md l.toArray listed == [k] && chainOrd md l r (listed.setIfInBounds k true)
theorem chain_anyG {L : List Oper} {Qx : Exit → Act → World → Prop} (hx : ∀ e a w, Qx e a w → e = .normal) : ∀ (ord : List Nat) (listed : Array Bool) (a : Act) (w : World), chainOrd md L ord listed = true →
    wpList P L.toArray Qx (pickOps L ord) a w → AnyG P md L.toArray (Qx .normal) (fun _ => True) ord.length listed a w
  | [], _, _, _, hB, h => ⟨by simpa [chainOrd] using hB, h⟩
  | k :: r, listed, a, w, hB, h => by
    simp only [chainOrd, Bool.and_eq_true, beq_iff_eq] at hB
    rw [List.length_cons]
    unfold AnyG
    refine ⟨fun h1 => (by rw [hB.1] at h1; cases h1), fun i hi => ?_⟩
    rw [hB.1] at hi
    have hik := List.mem_singleton.1 hi
    subst hik
    have hr : i ∈ Region.ready md L.toArray listed := by rw [hB.1]; exact List.mem_singleton_self _
    obtain ⟨_, o, ho, _⟩ := mem_ready.1 hr
    have hn : nthOp L i = some o := by rw [nthOp_eq]; simpa using ho
    unfold pickOps at h
    rw [hn] at h
    dsimp only at h
    unfold gOp
    simp only [ho]
    unfold wpList at h
    split
    · rename_i hw
      rw [if_pos hw] at h
      rcases h with h | ⟨_, a0, w0, h⟩
      · exact Oper.wp_mono (fun a' w' hK => ⟨trivial, chain_anyG hx r _ a' w' hB.2 hK⟩) (wp_noOut hx h)
      · have := hx _ _ _ h; cases this
    · rename_i hw
      rw [if_neg hw] at h
      exact ⟨trivial, chain_anyG hx r _ _ _ hB.2 h⟩

/-- Moves may be taken ahead of all. -/
def movesOrd (md : Region.Mode) (l : List Oper) : List Nat → Array Bool → Bool
  | [], _ => true
  | k :: r, listed => (Region.ready md l.toArray listed).contains k && (match nthOp l k with | some o => isMove o && Region.free md l.toArray listed k | none => false) && movesOrd md l r (listed.setIfInBounds k true)
theorem isMove_look {o : Oper} (h : isMove o = true) : lookKind o = true := by
  unfold isMove at h
  unfold lookKind
  split at h
  · rename_i x hx; simp [hx]
  · cases h
theorem moves_anyG {L : List Oper} {Qn Qn' : Act → World → Prop} {C : World → Prop} {m : Nat} {w : World} (hs : Region.noSelect L.toArray = true) (hC : C w) {L0 : Array Bool} {rest : List Oper}
    (hgo' : Closed md L.toArray L0 → ∀ a, wpM P L.toArray Qn' rest a C → AnyG P md L.toArray Qn (fun _ => True) m L0 a w) : ∀ (ord : List Nat) (listed : Array Bool) (a : Act), endOrd ord listed = L0 → movesOrd md L ord listed = true → Closed md L.toArray listed →
    wpM P L.toArray Qn' (pickOps L ord ++ rest) a C → AnyG P md L.toArray Qn (fun _ => True) (ord.length + m) listed a w
  | [], listed, a, he, _, hcl, h => by
    subst he
    rw [List.length_nil, Nat.zero_add]
    exact hgo' hcl a h
  | k :: r, listed, a, he, hB, hcl, h => by
    simp only [movesOrd, Bool.and_eq_true] at hB
    obtain ⟨⟨hr, hf⟩, hB'⟩ := hB
    have hr' : k ∈ Region.ready md L.toArray listed := by simpa using hr
    cases hn : nthOp L k with
    | none => rw [hn] at hf; cases hf
    | some o =>
    have h0 : L.toArray[k]? = some o := by rw [← hn, nthOp_eq]; simp
    unfold pickOps at h
    rw [hn] at hf h
    dsimp only at hf h
    rw [Bool.and_eq_true] at hf
    obtain ⟨hmv, hf⟩ := hf
    rw [List.cons_append] at h
    unfold wpM at h
    have hlk := isMove_look hmv
    obtain ⟨v0, hy0⟩ := move_still (P := P) (ops := L.toArray) (C := fun _ => True) hmv a
    rw [List.length_cons, show r.length + 1 + m = (r.length + m) + 1 by omega]
    have hrec : wpM P L.toArray Qn' (pickOps L r ++ rest) (a.put o.dst v0) C := by
      by_cases hw : Region.wanted o (yielded L.toArray a.tmps) = true
      · rw [if_pos hw] at h
        rcases h with ⟨_, v, hv, hK⟩ | ⟨hn', _⟩
        · rcases hy0 with ⟨_, hv0⟩ | ⟨hw', _⟩
          · have e1 := hv w hC
            rw [hv0 w trivial] at e1
            have e2 : v0 = v := by injection e1 with e1 _; injection e1
            rw [e2]; exact hK
          · rw [hw] at hw'; cases hw'
        · rw [hlk] at hn'; cases hn'
      · rw [if_neg hw] at h
        rcases hy0 with ⟨hw', _⟩ | ⟨_, e⟩
        · exact absurd hw' hw
        · rw [e]; exact h
    exact AnyG.first h0 (Region.noSelect_spec hs) (r.length + m) listed a w (Region.free_spec h0 hf) hr' hy0 trivial
      (moves_anyG hs hC hgo' r _ _ he hB' (hcl.set hr') hrec)

def tailB (l : List Oper) (ms pre tl : List Nat) : Bool :=
  let z := Array.replicate l.length false; let L1 := endOrd ms z; let L0 := endOrd pre L1
  (ms.length + (pre.length + tl.length) == l.length) && Region.noSelect l.toArray && movesOrd .any l ms z && headOrd .any l pre L1 && (pre.all fun i => (Region.ready .any l.toArray L0).all fun j => waitsOn .any l.toArray i l.toArray.size j) && chainOrd .any l tl L0

theorem wp_region_tail {id : Nat} {l : List Oper} (ms pre tl : List Nat) {Q Qx : Exit → Act → World → Prop} (hx : ∀ e a w, Qx e a w → e = .normal) (hQ : ∀ a w, Qx .normal a w → Q .normal a w) {a : Act} {w : World} {C : World → Prop}
    (hm : P.follows .mixedOrders = true) (hB : tailB l ms pre tl = true) (hC : C { w with drawn := w.drawn + 1 })
    (h : wpM P l.toArray (fun a w => wpList P l.toArray Qx (pickOps l tl) a w) (pickOps l ms ++ pickOps l pre) a C) : (Code.region id l.toArray true).wp P Q a w := by
  simp only [tailB, Bool.and_eq_true, List.all_eq_true, beq_iff_eq] at hB
  obtain ⟨⟨⟨⟨⟨h1, h2⟩, h3⟩, h4⟩, h5⟩, h6⟩ := hB
  refine wp_region_any hm (AnyG.sound (C := fun _ => True) (Qn := Qx .normal) hQ _ _ _ _ ?_)
  have hsz : ms.length + (pre.length + tl.length) = l.toArray.size := by simpa using h1
  have hz : Closed .any l.toArray (Array.replicate l.length false) := fun m o ho hm e he hb => by
    exfalso
    have hlt : m < l.length := by have := (Array.getElem?_eq_some_iff.1 ho).1; simpa using this
    simp [hlt] at hm
  have hgo : Closed .any l.toArray (endOrd ms (Array.replicate l.length false)) → ∀ a, wpM P l.toArray (fun a w => wpList P l.toArray Qx (pickOps l tl) a w) (pickOps l pre) a C →
      AnyG P .any l.toArray (Qx .normal) (fun _ => True) (pre.length + tl.length) (endOrd ms (Array.replicate l.length false)) a { w with drawn := w.drawn + 1 } := fun hcl a h => by
    have key := anyT_ord (P := P) (md := .any) h2 pre _ a C _ (fun i hi j hj => h5 i hi j hj) rfl h4 hcl hC h
    exact AnyT.anyG (fun L a w ⟨e, hq⟩ => by subst e; exact chain_anyG hx tl _ a w h6 hq) _ _ _ _ key
  have fin := moves_anyG h2 hC (Qn' := fun a w => wpList P l.toArray Qx (pickOps l tl) a w) (rest := pickOps l pre) (m := pre.length + tl.length) hgo ms _ a rfl h3 hz h
  rw [hsz] at fin
  exact fin
end

theorem wpM_mono {P : Program} {ops : Array Oper} {Qn Qn' : Act → World → Prop} (hQ : ∀ a w, Qn a w → Qn' a w) : ∀ (l : List Oper) (a : Act) (C : World → Prop), wpM P ops Qn l a C → wpM P ops Qn' l a C
  | [], _, _, h => fun w hw => hQ _ _ (h w hw)
  | o :: l, a, C, h => by
    unfold wpM at h ⊢
    split
    · rename_i hw
      rw [if_pos hw] at h
      rcases h with ⟨hk, v, h1, h2⟩ | ⟨hk, h1⟩
      · exact .inl ⟨hk, v, h1, wpM_mono hQ l _ _ h2⟩
      · exact .inr ⟨hk, fun w hw => Oper.wp_mono (fun a' w' ⟨C', a1, a2, a3⟩ => ⟨C', a1, a2, wpM_mono hQ l _ _ a3⟩) (h1 w hw)⟩
    · rename_i hw
      rw [if_neg hw] at h
      exact wpM_mono hQ l _ _ h

/-- The post of the last part. -/
def qnorm (Q : Post) : Post
  | .normal, E, C => Q .normal E C
  | _, _, _ => False
theorem qnorm_normal {Q : Post} {E : Env} {C : Cls} (h : Q .normal E C) : qnorm Q .normal E C := h
def qtail (P : Program) (n : Nat) (ops l : List Oper) (Q : Post) : Post
  | .normal, E, C => Px P n ops .seq l (qnorm Q) E C
  | _, _, _ => False
theorem qtail_normal {P : Program} {n : Nat} {ops l : List Oper} {Q : Post} {E : Env} {C : Cls} (h : Px P n ops .seq l (qnorm Q) E C) : qtail P n ops l Q .normal E C := h

theorem pwp_region_tail (ms pre tl : List Nat) {P : Program} {C : Cls} {n : Nat} {E : Env} {Q : Post} {id : Nat} {l : List Oper} (hm : P.follows .mixedOrders = true) (hB : tailB l ms pre tl = true) (hS : Stable C)
    (h : Px P n l .mix (pickOps l (ms ++ pre)) (qtail P n l (pickOps l tl) Q) E C) : Pwp P n (.region id l.toArray true) Q E C := by
  have hpick : ∀ (x y : List Nat), (∀ k ∈ x, ∃ o, nthOp l k = some o) → pickOps l (x ++ y) = pickOps l x ++ pickOps l y := by
    intro x y
    induction x with
    | nil => intro _; rfl
    | cons k r ih =>
      intro hk
      obtain ⟨o, ho⟩ := hk k (List.mem_cons_self ..)
      have := ih fun k hk' => hk k (List.mem_cons_of_mem _ hk')
      simp only [List.cons_append, pickOps, ho, this]
  have hms : ∀ (x : List Nat) (L : Array Bool), movesOrd .any l x L = true → ∀ k ∈ x, ∃ o, nthOp l k = some o := by
    intro x
    induction x with
    | nil => intro _ _ k hk; cases hk
    | cons j r ih =>
      intro L hB k hk
      simp only [movesOrd, Bool.and_eq_true] at hB
      rcases List.mem_cons.1 hk with rfl | hk
      · cases hn : nthOp l k with
        | none => rw [hn] at hB; simp at hB
        | some o => exact ⟨o, rfl⟩
      · exact ih _ hB.2 k hk
  have hB' := hB
  simp only [tailB, Bool.and_eq_true] at hB'
  rw [hpick ms pre (hms ms _ hB'.1.1.1.2)] at h
  refine ⟨fun a w hf hc => wp_region_tail ms pre tl (Qx := fun e a' w' => ∃ E' C', Fr a' E' n ∧ C' w' ∧ qnorm Q e E' C') (fun e a w ⟨E', C', _, _, hq⟩ => ?_) (fun a w ⟨E', C', h1, h2, hq⟩ => ⟨E', C', h1, h2, hq⟩) hm hB (hS _ _ hc (below_drawn w)) (wpM_mono (fun a' w' ⟨E', C', hf', hc', hq⟩ => hq.out a' w' hf' hc') _ _ _ (h.out a hf))⟩
  cases e <;> first | rfl | exact hq.elim
attribute [irreducible] qtail qnorm
end Go.Pw
