import Derived.Test.YtkbjcfabbapnpaaPwPpe
import Derived.Test.YtkbjcfabbapnpaaPwPqg
import Derived.Test.YtkbjcfabbapnpaaPwPmo
import Derived.Test.YtkbjcfabbapnpaaPwPlain
import Derived.Test.YtkbjcfabbapnpaaPwPor
import Derived.Test.YtkbjcfabbapnpaaPwPpm
import Derived.Test.YtkbjcfabbapnpaaPwPcx
import Derived.Test.YtkbjcfabbapnpaaPwLit
/- The plain mathematics of the first ones of the longest chains. -/
namespace Go.Pw
open Go
/-- The order of words. -/
def lessL : List Int → List Int → Bool
  | [], [] => false
  | [], _ :: _ => true
  | _ :: _, [] => false
  | x :: a, y :: b => if x = y then lessL a b else decide (x < y)
theorem lessL_split : ∀ (c b a : List Int), lessL c b = true → lessL c a = true ∨ lessL a b = true
  | [], [], _, h => by simp [lessL] at h
  | [], _ :: _, [], _ => .inr rfl
  | [], _ :: _, _ :: _, _ => .inl rfl
  | _ :: _, [], _, h => by simp [lessL] at h
  | _ :: _, _ :: _, [], _ => .inr rfl
  | x :: c, y :: b, z :: a, h => by
    unfold lessL at h ⊢
    by_cases e1 : x = y
    · subst e1
      rw [if_pos rfl] at h
      by_cases e2 : x = z
      · subst e2; rw [if_pos rfl, if_pos rfl]; exact lessL_split c b a h
      · rw [if_neg e2, if_neg (fun e => e2 e.symm)]
        rcases Int.lt_or_gt_of_ne e2 with h1 | h1
        · exact .inl (decide_eq_true h1)
        · exact .inr (decide_eq_true h1)
    · rw [if_neg e1] at h
      have h := of_decide_eq_true h
      by_cases e2 : x = z
      · subst e2; right; rw [if_neg e1]; exact decide_eq_true h
      · rw [if_neg e2]
        rcases Int.lt_or_gt_of_ne e2 with h1 | h1
        · exact .inl (decide_eq_true h1)
        · right; rw [if_neg (by omega)]; exact decide_eq_true (by omega)
theorem lessL_tri : ∀ (a b : List Int), a.length = b.length → lessL a b = false → lessL b a = false → a = b
  | [], [], _, _, _ => rfl
  | [], _ :: _, h, _, _ => by simp at h
  | _ :: _, [], h, _, _ => by simp at h
  | x :: a, y :: b, h, h1, h2 => by
    unfold lessL at h1 h2
    by_cases e : x = y
    · subst e
      rw [if_pos rfl] at h1 h2
      rw [lessL_tri a b (by simpa using h) h1 h2]
    · rw [if_neg e] at h1
      rw [if_neg (fun e' => e e'.symm)] at h2
      have h1 := of_decide_eq_false h1
      have h2 := of_decide_eq_false h2
      omega
/-- Longer, or as long and before. -/
def bet (a b : List Int) : Prop := b.length < a.length ∨ (a.length = b.length ∧ lessL a b = true)
instance (a b : List Int) : Decidable (bet a b) := by unfold bet; infer_instance
theorem bet_split {c b : List Int} (a : List Int) (h : bet c b) : bet c a ∨ bet a b := by
  unfold bet at *
  rcases h with h | ⟨h1, h2⟩
  · by_cases e : a.length < c.length
    · exact .inl (.inl e)
    · exact .inr (.inl (by omega))
  · by_cases e : a.length = c.length
    · rcases lessL_split c b a h2 with h | h
      · exact .inl (.inr ⟨e.symm, h⟩)
      · exact .inr (.inr ⟨by omega, h⟩)
    · by_cases e2 : a.length < c.length
      · exact .inl (.inl e2)
      · exact .inr (.inl (by omega))
theorem bet_tri {a b : List Int} (h1 : ¬ bet a b) (h2 : ¬ bet b a) : a = b := by
  have hl : a.length = b.length := by
    unfold bet at h1 h2
    have := fun h => h1 (.inl h)
    have := fun h => h2 (.inl h)
    omega
  refine lessL_tri a b hl ?_ ?_
  · cases h : lessL a b with
    | false => rfl
    | true => exact (h1 (.inr ⟨hl, h⟩)).elim
  · cases h : lessL b a with
    | false => rfl
    | true => exact (h2 (.inr ⟨hl.symm, h⟩)).elim
/-- A chain behind a number. -/
def chQ (F : Nat → Nat → Bool) (n : Nat) : Nat → List Int → Prop
  | x, [] => x < n
  | x, y :: r => ∃ k : Nat, y = k ∧ x < k ∧ F x k = true ∧ chQ F n k r
def chS (F : Nat → Nat → Bool) (n i : Nat) (l : List Int) : Prop := ∃ r, l = (i : Int) :: r ∧ chQ F n i r
def isBest (F : Nat → Nat → Bool) (n : Nat) (B : List Int) : Prop := (∃ i, chS F n i B) ∧ ∀ i c, chS F n i c → ¬ bet c B
theorem isBest_uniq {F : Nat → Nat → Bool} {n : Nat} {A B : List Int} (ha : isBest F n A) (hb : isBest F n B) : A = B := by
  obtain ⟨⟨i, hi⟩, h1⟩ := ha
  obtain ⟨⟨j, hj⟩, h2⟩ := hb
  exact bet_tri (h2 i A hi) (h1 j B hj)
theorem chQ_lt {F : Nat → Nat → Bool} {n : Nat} : ∀ (r : List Int) (x : Nat), chQ F n x r → x < n
  | [], _, h => h
  | y :: r, x, h => by
    obtain ⟨k, _, h1, _, h2⟩ := h
    have := chQ_lt r k h2
    omega
theorem chQ_congr {F G : Nat → Nat → Bool} {n : Nat} (hFG : ∀ a b, a < b → b < n → F a b = G a b) : ∀ (r : List Int) (x : Nat), chQ F n x r → chQ G n x r
  | [], _, h => h
  | y :: r, x, h => by
    obtain ⟨k, h0, h1, h2, h3⟩ := h
    exact ⟨k, h0, h1, by rw [← hFG x k h1 (chQ_lt r k h3)]; exact h2, chQ_congr hFG r k h3⟩
theorem isBest_congr {F G : Nat → Nat → Bool} {n : Nat} (hFG : ∀ a b, a < b → b < n → F a b = G a b) {B : List Int} (h : isBest F n B) : isBest G n B := by
  obtain ⟨⟨i, r, hr, hi⟩, h1⟩ := h
  refine ⟨⟨i, r, hr, chQ_congr hFG r i hi⟩, fun j c hc => ?_⟩
  obtain ⟨s, hs, hj⟩ := hc
  exact h1 j c ⟨s, hs, chQ_congr (fun a b h2 h3 => (hFG a b h2 h3).symm) s j hj⟩
/-- The program's way: from behind. -/
def inB (F : Nat → Nat → Bool) (n i : Nat) (B : Nat → List Int) : Nat → List Int
  | 0 => [(i : Int)]
  | j + 1 => if F i (n - 1 - j) = true ∧ (inB F n i B j).length ≤ (B (n - 1 - j)).length + 1 then (i : Int) :: B (n - 1 - j) else inB F n i B j
def bsT (F : Nat → Nat → Bool) (n : Nat) : Nat → Nat → List Int
  | 0, _ => []
  | t + 1, x => if x = n - 1 - t then inB F n (n - 1 - t) (bsT F n t) t else bsT F n t x
def ouT (F : Nat → Nat → Bool) (n : Nat) : Nat → List Int
  | 0 => []
  | t + 1 => if (ouT F n t).length ≤ (bsT F n (t + 1) (n - 1 - t)).length then bsT F n (t + 1) (n - 1 - t) else ouT F n t
theorem bet_cons {x : Int} {a b : List Int} : bet (x :: a) (x :: b) ↔ bet a b := by
  have h : lessL (x :: a) (x :: b) = lessL a b := by rw [lessL, if_pos rfl]
  unfold bet; rw [h]; simp
theorem inB_spec {F : Nat → Nat → Bool} {n i : Nat} {B : Nat → List Int} (hi : i < n) (hB : ∀ x, i < x → x < n → chS F n x (B x) ∧ ∀ c, chS F n x c → ¬ bet c (B x)) : ∀ j, j ≤ n - 1 - i →
    chS F n i (inB F n i B j) ∧ (inB F n i B j = [(i : Int)] ∨ ∃ k : Nat, n - j ≤ k ∧ k < n ∧ inB F n i B j = (i : Int) :: B k) ∧
    ∀ c, chQ F n i c → (c = [] ∨ ∃ (k : Nat) (r : List Int), c = (k : Int) :: r ∧ n - j ≤ k) → ¬ bet ((i : Int) :: c) (inB F n i B j)
  | 0, _ => by
    refine ⟨⟨[], rfl, hi⟩, .inl rfl, fun c hc h => ?_⟩
    rcases h with rfl | ⟨k, r, rfl, hk⟩
    · unfold inB bet; simp [lessL]
    · obtain ⟨k', e, _, _, h4⟩ := hc
      have := chQ_lt r k' h4
      omega
  | j + 1, hj => by
    obtain ⟨h1, h2, h3⟩ := inB_spec hi hB j (by omega)
    have hk1 : i < n - 1 - j := by omega
    obtain ⟨b1, b2⟩ := hB (n - 1 - j) hk1 (by omega)
    unfold inB
    split
    · rename_i hc
      obtain ⟨hF, hl⟩ := hc
      obtain ⟨r, hr, hq⟩ := b1
      refine ⟨⟨B (n - 1 - j), rfl, by rw [hr]; exact ⟨n - 1 - j, rfl, hk1, hF, hq⟩⟩, .inr ⟨n - 1 - j, by omega, by omega, rfl⟩, fun c hc h => ?_⟩
      have hcur : ¬ bet (inB F n i B j) ((i : Int) :: B (n - 1 - j)) := by
        intro hb
        rcases h2 with h2 | ⟨k, hk, hkn, h2⟩
        · rw [h2] at hb
          unfold bet at hb
          rw [hr] at hb
          simp at hb
        · rw [h2] at hb hl
          obtain ⟨r', hr', _⟩ := (hB k (by omega) hkn).1
          rw [bet_cons, hr, hr'] at hb
          rw [hr, hr'] at hl
          unfold bet at hb
          simp only [List.length_cons] at hb hl
          rcases hb with hb | ⟨_, hb⟩
          · omega
          · unfold lessL at hb
            rw [if_neg (by omega)] at hb
            have := of_decide_eq_true hb
            omega
      intro hb
      by_cases hold : c = [] ∨ ∃ (k : Nat) (r : List Int), c = (k : Int) :: r ∧ n - j ≤ k
      · rcases bet_split (inB F n i B j) hb with h4 | h4
        · exact h3 c hc hold h4
        · exact hcur h4
      · rcases h with h | ⟨k, r2, hcr, hk⟩
        · exact hold (.inl h)
        · have hk2 : k = n - 1 - j := by
            apply Classical.byContradiction
            intro hne
            exact hold (.inr ⟨k, r2, hcr, by omega⟩)
          subst hk2
          rw [bet_cons] at hb
          refine b2 c ?_ hb
          subst hcr
          obtain ⟨k', e, _, _, h4⟩ := hc
          obtain rfl : k' = n - 1 - j := by omega
          exact ⟨r2, rfl, h4⟩
    · rename_i hc
      refine ⟨h1, ?_, fun c hcq h => ?_⟩
      · rcases h2 with h2 | ⟨k, hk, hkn, h2⟩
        · exact .inl h2
        · exact .inr ⟨k, by omega, hkn, h2⟩
      · intro hb
        by_cases hold : c = [] ∨ ∃ (k : Nat) (r : List Int), c = (k : Int) :: r ∧ n - j ≤ k
        · exact h3 c hcq hold hb
        · rcases h with h | ⟨k, r2, hcr, hk⟩
          · exact hold (.inl h)
          · have hk2 : k = n - 1 - j := by
              apply Classical.byContradiction
              intro hne
              exact hold (.inr ⟨k, r2, hcr, by omega⟩)
            subst hk2 hcr
            obtain ⟨k', e, _, hF, h4⟩ := hcq
            obtain rfl : k' = n - 1 - j := by omega
            have hl : (B (n - 1 - j)).length + 1 < (inB F n i B j).length := by
              apply Classical.byContradiction
              intro hl
              exact hc ⟨hF, by omega⟩
            have := b2 _ ⟨r2, rfl, h4⟩
            unfold bet at this hb
            simp only [List.length_cons] at this hb
            have h5 := fun h => this (.inl h)
            omega
theorem bsT_spec {F : Nat → Nat → Bool} {n : Nat} : ∀ t, t ≤ n → ∀ x, n - t ≤ x → x < n → chS F n x (bsT F n t x) ∧ ∀ c, chS F n x c → ¬ bet c (bsT F n t x)
  | 0, _, x, h1, h2 => by omega
  | t + 1, ht, x, h1, h2 => by
    have ih := bsT_spec (F := F) (n := n) t (by omega)
    unfold bsT
    by_cases hx : x = n - 1 - t
    · rw [if_pos hx]
      subst hx
      obtain ⟨a1, _, a3⟩ := inB_spec (F := F) (n := n) (i := n - 1 - t) (B := bsT F n t) (by omega) (fun y hy hyn => ih y (by omega) hyn) t (by omega)
      refine ⟨a1, fun c hc => ?_⟩
      obtain ⟨r, rfl, hq⟩ := hc
      refine a3 r hq ?_
      cases r with
      | nil => exact .inl rfl
      | cons y r =>
        obtain ⟨k, rfl, hk, _⟩ := hq
        exact .inr ⟨k, r, rfl, by omega⟩
    · rw [if_neg hx]
      exact ih x (by omega) h2
theorem bsT_keep {F : Nat → Nat → Bool} {n t : Nat} {x : Nat} (h : x ≠ n - 1 - t) : bsT F n (t + 1) x = bsT F n t x := by
  rw [bsT, if_neg h]
theorem bsT_new {F : Nat → Nat → Bool} {n t : Nat} : bsT F n (t + 1) (n - 1 - t) = inB F n (n - 1 - t) (bsT F n t) t := by
  rw [bsT, if_pos rfl]
theorem ouT_spec {F : Nat → Nat → Bool} {n : Nat} : ∀ t, t ≤ n → (t = 0 ∧ ouT F n t = [] ∨ ∃ i, n - t ≤ i ∧ chS F n i (ouT F n t)) ∧ ∀ i, n - t ≤ i → ∀ c, chS F n i c → ¬ bet c (ouT F n t)
  | 0, _ => by
    refine ⟨.inl ⟨rfl, rfl⟩, fun i hi c hc => ?_⟩
    obtain ⟨r, _, hq⟩ := hc
    have := chQ_lt r i hq
    omega
  | t + 1, ht => by
    obtain ⟨h1, h2⟩ := ouT_spec (F := F) (n := n) t (by omega)
    obtain ⟨b1, b2⟩ := bsT_spec (F := F) (n := n) (t + 1) ht (n - 1 - t) (by omega) (by omega)
    unfold ouT
    split
    · rename_i hl
      refine ⟨.inr ⟨n - 1 - t, by omega, b1⟩, fun i hi c hc hb => ?_⟩
      by_cases hit : i = n - 1 - t
      · subst hit; exact b2 c hc hb
      · rcases bet_split (ouT F n t) hb with h3 | h3
        · exact h2 i (by omega) c hc h3
        · obtain ⟨r, hr, _⟩ := b1
          rcases h1 with ⟨_, h1⟩ | ⟨i', hi', r', hr', _⟩
          · rw [h1] at h3
            unfold bet at h3
            rw [hr] at h3
            simp at h3
          · rw [hr, hr'] at h3
            rw [hr, hr'] at hl
            unfold bet at h3
            simp only [List.length_cons] at h3 hl
            rcases h3 with h3 | ⟨_, h3⟩
            · omega
            · unfold lessL at h3
              rw [if_neg (by omega)] at h3
              have := of_decide_eq_true h3
              omega
    · rename_i hl
      refine ⟨.inr ?_, fun i hi c hc hb => ?_⟩
      · rcases h1 with ⟨_, h1⟩ | ⟨i', hi', hr'⟩
        · rw [h1] at hl; simp at hl
        · exact ⟨i', by omega, hr'⟩
      · by_cases hit : i = n - 1 - t
        · subst hit
          have := b2 c hc
          unfold bet at this hb
          have h5 := fun h => this (.inl h)
          omega
        · exact h2 i (by omega) c hc hb
theorem ouT_best {F : Nat → Nat → Bool} {n : Nat} (hn : 1 ≤ n) : isBest F n (ouT F n n) := by
  obtain ⟨h1, h2⟩ := ouT_spec (F := F) (n := n) n (Nat.le_refl _)
  refine ⟨?_, fun i c hc => h2 i (by omega) c hc⟩
  rcases h1 with ⟨h1, _⟩ | ⟨i, _, h1⟩
  · omega
  · exact ⟨i, h1⟩
theorem chQ_len {F : Nat → Nat → Bool} {n : Nat} : ∀ (r : List Int) (x : Nat), chQ F n x r → r.length + x + 1 ≤ n
  | [], x, h => by have h : x < n := h; simp; omega
  | y :: r, x, h => by
    obtain ⟨k, _, h1, _, h2⟩ := h
    have := chQ_len r k h2
    simp only [List.length_cons]
    omega
theorem chS_len {F : Nat → Nat → Bool} {n i : Nat} {l : List Int} (h : chS F n i l) : l.length ≤ n := by
  obtain ⟨r, rfl, h⟩ := h
  have := chQ_len r i h
  simp only [List.length_cons]
  omega
theorem bsT_len {F : Nat → Nat → Bool} {n i k : Nat} (hi : i < n) (hk : i + 1 ≤ k) (hkn : k < n) : (bsT F n (n - (i + 1)) k).length ≤ n :=
  chS_len (bsT_spec (F := F) (n := n) (n - (i + 1)) (by omega) k (by omega) hkn).1
theorem inB_len {F : Nat → Nat → Bool} {n i j : Nat} (hi : i < n) (hj : j ≤ n - 1 - i) : (inB F n i (bsT F n (n - (i + 1))) j).length ≤ n :=
  chS_len (inB_spec (F := F) (n := n) (i := i) (B := bsT F n (n - (i + 1))) hi (fun x h1 h2 => bsT_spec (F := F) (n := n) (n - (i + 1)) (by omega) x (by omega) h2) j hj).1
theorem ouT_len {F : Nat → Nat → Bool} {n t : Nat} (ht : t ≤ n) : (ouT F n t).length ≤ n := by
  rcases (ouT_spec (F := F) (n := n) t ht).1 with ⟨_, h⟩ | ⟨i, _, h⟩
  · rw [h]; simp
  · exact chS_len h
/-- The reference's way: all sets. -/
def adjF (F : Nat → Nat → Bool) (l : List Int) : Prop := ∀ i, i + 1 < l.length → F (l.getD i 0).toNat (l.getD (i + 1) 0).toNat = true
instance (F : Nat → Nat → Bool) (l : List Int) : Decidable (adjF F l) := by
  unfold adjF
  exact decidable_of_iff (∀ i, i < l.length - 1 → F (l.getD i 0).toNat (l.getD (i + 1) 0).toNat = true) ⟨fun h i hi => h i (by omega), fun h i hi => h i (by omega)⟩
def lspB (F : Nat → Nat → Bool) : Nat → List Int
  | 0 => []
  | s + 1 => if 0 < s ∧ adjF F (listS (s : Nat)) ∧ bet (listS (s : Nat)) (lspB F s) then listS (s : Nat) else lspB F s
theorem lspB_spec (F : Nat → Nat → Bool) : ∀ s, (lspB F s = [] ∨ ∃ x : Nat, 0 < x ∧ x < s ∧ adjF F (listS (x : Nat)) ∧ lspB F s = listS (x : Nat)) ∧ ∀ x : Nat, 0 < x → x < s → adjF F (listS (x : Nat)) → ¬ bet (listS (x : Nat)) (lspB F s)
  | 0 => ⟨.inl rfl, fun x _ h => by omega⟩
  | s + 1 => by
    obtain ⟨h1, h2⟩ := lspB_spec F s
    unfold lspB
    split
    · rename_i hc
      refine ⟨.inr ⟨s, hc.1, by omega, hc.2.1, rfl⟩, fun x hx hxs ha hb => ?_⟩
      by_cases e : x = s
      · subst e
        unfold bet at hb
        rcases hb with hb | ⟨_, hb⟩
        · omega
        · rcases lessL_split _ _ (listS (x : Nat)) hb with h | h
          all_goals
            have irr : ∀ l : List Int, lessL l l = false := fun l => by
              induction l with
              | nil => rfl
              | cons y l ih => unfold lessL; rw [if_pos rfl]; exact ih
            rw [irr] at h; cases h
      · rcases bet_split (lspB F s) hb with h | h
        · exact h2 x hx (by omega) ha h
        · have h3 := hc.2.2
          unfold bet at h h3
          have asym : ∀ a b : List Int, lessL a b = true → lessL b a = true → False := by
            intro a
            induction a with
            | nil => intro b h1 h2; cases b <;> simp [lessL] at h1 h2
            | cons y a ih =>
              intro b h1 h2
              cases b with
              | nil => simp [lessL] at h1
              | cons z b =>
                unfold lessL at h1 h2
                by_cases e : y = z
                · subst e; rw [if_pos rfl] at h1 h2; exact ih b h1 h2
                · rw [if_neg e] at h1; rw [if_neg (fun e' => e e'.symm)] at h2
                  have := of_decide_eq_true h1
                  have := of_decide_eq_true h2
                  omega
          rcases h with h | ⟨h4, h⟩
          · rcases h3 with h3 | ⟨h5, h3⟩ <;> omega
          · rcases h3 with h3 | ⟨h5, h3⟩
            · omega
            · exact asym _ _ h h3
    · rename_i hc
      refine ⟨?_, fun x hx hxs ha hb => ?_⟩
      · rcases h1 with h1 | ⟨x, hx, hxs, ha, h1⟩
        · exact .inl h1
        · exact .inr ⟨x, hx, by omega, ha, h1⟩
      · by_cases e : x = s
        · subst e; exact hc ⟨hx, ha, hb⟩
        · exact h2 x hx (by omega) ha hb
theorem listS_pair (S : Nat) (hS : S < 128) : (listS (S : Int)).Pairwise (fun a b => a < b) := by
  rw [listS_nat hS]
  refine List.Pairwise.map _ (fun a b h => ?_) (List.Pairwise.sublist (List.filter_sublist) (List.pairwise_lt_range (n := 7)))
  exact Int.ofNat_lt.2 h
theorem chQ_of_adj {F : Nat → Nat → Bool} {n : Nat} : ∀ (r : List Int) (x : Nat), ((x : Int) :: r).Pairwise (fun a b => a < b) → (∀ y ∈ (x : Int) :: r, 0 ≤ y ∧ y < n) → adjF F ((x : Int) :: r) → chQ F n x r
  | [], x, _, h, _ => by have := h x (List.mem_cons_self ..); show x < n; omega
  | y :: r, x, hp, h, ha => by
    have hy := h y (List.mem_cons_of_mem _ (List.mem_cons_self ..))
    obtain ⟨k, hk⟩ : ∃ k : Nat, y = k := ⟨y.toNat, by omega⟩
    subst hk
    have hp' := List.pairwise_cons.1 hp
    have h1 := hp'.1 (k : Int) (List.mem_cons_self ..)
    refine ⟨k, rfl, by omega, ?_, chQ_of_adj r k hp'.2 (fun z hz => h z (List.mem_cons_of_mem _ hz)) fun i hi => ?_⟩
    · have := ha 0 (by simp)
      simpa [List.getD] using this
    · have := ha (i + 1) (by simp at hi ⊢; omega)
      simpa [List.getD] using this
theorem adj_of_chQ {F : Nat → Nat → Bool} {n : Nat} : ∀ (r : List Int) (x : Nat), chQ F n x r → ((x : Int) :: r).Pairwise (fun a b => a < b) ∧ (∀ y ∈ (x : Int) :: r, (x : Int) ≤ y ∧ y < n) ∧ adjF F ((x : Int) :: r)
  | [], x, h => by
    refine ⟨List.pairwise_singleton _ _, fun y hy => ?_, fun i hi => by simp at hi⟩
    have h : x < n := h
    rw [List.mem_singleton] at hy; omega
  | y :: r, x, h => by
    obtain ⟨k, rfl, h1, h2, h3⟩ := h
    obtain ⟨a1, a2, a3⟩ := adj_of_chQ r k h3
    have hk := chQ_lt r k h3
    refine ⟨List.pairwise_cons.2 ⟨fun z hz => ?_, a1⟩, fun z hz => ?_, fun i hi => ?_⟩
    · have := a2 z hz; omega
    · rcases List.mem_cons.1 hz with rfl | hz
      · omega
      · have := a2 z hz; omega
    · cases i with
      | zero => simpa [List.getD] using h2
      | succ i =>
        have := a3 i (by simp at hi ⊢; omega)
        simpa [List.getD] using this
theorem ch_set {c : List Int} {n : Nat} (hn : n ≤ 7) (hp : c.Pairwise (fun a b => a < b)) (hr : ∀ y ∈ c, 0 ≤ y ∧ y < n) (h0 : c ≠ []) : ∃ S : Nat, 0 < S ∧ S < 2 ^ n ∧ listS (S : Int) = c := by
  refine ⟨maskU (fun v => decide ((v : Int) ∈ c)) n, ?_, maskU_lt _ n, ?_⟩
  · cases c with
    | nil => exact absurd rfl h0
    | cons x r =>
      have hx := hr x (List.mem_cons_self ..)
      obtain ⟨k, rfl⟩ : ∃ k : Nat, x = k := ⟨x.toNat, by omega⟩
      have : (maskU (fun v => decide ((v : Int) ∈ (k : Int) :: r)) n).testBit k = true := by
        rw [maskU_bit]; simp; omega
      apply Nat.pos_of_ne_zero
      intro e
      rw [e] at this
      simp at this
  · have h7 : 2 ^ n ≤ 2 ^ 7 := Nat.pow_le_pow_right (by omega) hn
    have hlt := maskU_lt (fun v => decide ((v : Int) ∈ c)) n
    have hS : maskU (fun v => decide ((v : Int) ∈ c)) n < 128 := by omega
    have hpS := listS_pair _ hS
    have nd : ∀ l : List Int, l.Pairwise (fun a b => a < b) → l.Nodup := fun l h => List.Pairwise.imp (fun h => by omega) h
    refine perm_sorted_eq _ _ (perm_of_mem (nd _ hpS) (nd _ hp) fun x => ?_) (List.Pairwise.imp (fun h => by omega) hpS) (List.Pairwise.imp (fun h => by omega) hp)
    rw [mem_listS]
    constructor
    · rintro ⟨_, v, rfl, hv, hb⟩
      rw [hasB_nat (by omega) (by omega), maskU_bit] at hb
      simp at hb
      exact hb.2
    · intro hx
      have hxr := hr x hx
      refine ⟨⟨by omega, by omega⟩, x.toNat, by omega, by omega, ?_⟩
      rw [hasB_nat (by omega) (by omega), maskU_bit]
      have : ((x.toNat : Nat) : Int) = x := by omega
      simp [this, hx]; omega
theorem lspB_best {F : Nat → Nat → Bool} {n : Nat} (h1 : 1 ≤ n) (hn : n ≤ 7) : isBest F n (lspB F (2 ^ n)) := by
  obtain ⟨a1, a2⟩ := lspB_spec F (2 ^ n)
  have h7 : 2 ^ n ≤ 2 ^ 7 := Nat.pow_le_pow_right (by omega) hn
  have key : ∀ i c, chS F n i c → ¬ bet c (lspB F (2 ^ n)) := fun i c hc => by
    obtain ⟨r, rfl, hq⟩ := hc
    obtain ⟨p1, p2, p3⟩ := adj_of_chQ r i hq
    obtain ⟨S, s1, s2, s3⟩ := ch_set hn p1 (fun y hy => by have := p2 y hy; omega) (by simp)
    have := a2 S s1 s2 (by rw [s3]; exact p3)
    rw [s3] at this
    exact this
  refine ⟨?_, key⟩
  rcases a1 with a1 | ⟨x, hx, hxs, ha, a1⟩
  · exfalso
    refine key 0 [((0 : Nat) : Int)] ⟨[], rfl, show 0 < n by omega⟩ ?_
    rw [a1]; left; simp
  · rw [a1]
    have hp := listS_pair x (by omega)
    have hm : ∀ y ∈ listS (x : Int), 0 ≤ y ∧ y < n := fun y hy => by
      obtain ⟨_, v, rfl, hv, hb⟩ := mem_listS.1 hy
      rw [hasB_nat (by omega) (by omega)] at hb
      have := has_lt hxs hb
      omega
    have hne : listS (x : Int) ≠ [] := by
      intro e
      obtain ⟨v, hv⟩ := Nat.exists_testBit_of_ne_zero (x := x) (by omega)
      have hvn := has_lt hxs hv
      have : ((v : Nat) : Int) ∈ listS (x : Int) := mem_listS.2 ⟨⟨by omega, by omega⟩, v, rfl, by omega, by rw [hasB_nat (by omega) (by omega)]; exact hv⟩
      rw [e] at this; cases this
    cases hl : listS (x : Int) with
    | nil => exact absurd hl hne
    | cons y r =>
      rw [hl] at hp hm ha
      have hy := hm y (List.mem_cons_self ..)
      obtain ⟨k, rfl⟩ : ∃ k : Nat, y = k := ⟨y.toNat, by omega⟩
      exact ⟨k, r, rfl, chQ_of_adj r k hp hm ha⟩
def fallF (p : List Int) (i k : Nat) : Bool := decide (p.getD k 0 < p.getD i 0)
def riseF (p : List Int) (i k : Nat) : Bool := decide (p.getD i 0 < p.getD k 0)
def spF (p : List Int) (fal : Bool) (a b : Nat) : Bool := decide (p.getD b 0 < p.getD a 0) == fal
def loL (F : List Int → Nat → Nat → Bool) (p : List Int) : List Int := if permP p then ouT (F p) p.length p.length else []
theorem loL_len (F : List Int → Nat → Nat → Bool) (p : List Int) : (loL F p).length ≤ 7 := by
  unfold loL
  split
  · rename_i h
    have := ouT_len (F := F p) (Nat.le_refl p.length)
    have := h.1
    omega
  · simp
theorem lspB_ouT {F G : Nat → Nat → Bool} {n : Nat} (h1 : 1 ≤ n) (hn : n ≤ 7) (hFG : ∀ a b, a < b → b < n → F a b = G a b) : lspB F (2 ^ n) = ouT G n n :=
  isBest_uniq (isBest_congr hFG (lspB_best h1 hn)) (ouT_best h1)
theorem lspB_fall {p : List Int} (h : permP p) : lspB (spF p true) (2 ^ p.length) = loL fallF p := by
  unfold loL
  rw [if_pos h]
  have := h.1
  exact lspB_ouT (by omega) (by omega) fun a b _ _ => by unfold spF fallF; simp
theorem lspB_rise {p : List Int} (h : permP p) : lspB (spF p false) (2 ^ p.length) = loL riseF p := by
  unfold loL
  rw [if_pos h]
  have := h.1
  refine lspB_ouT (by omega) (by omega) fun a b h1 h2 => ?_
  have := h.2.2 b h2 a h1
  unfold spF riseF
  by_cases hc : p.getD b 0 < p.getD a 0
  · rw [decide_eq_true hc, decide_eq_false (by omega)]; rfl
  · rw [decide_eq_false hc, decide_eq_true (by omega)]; rfl
end Go.Pw
/- Transitive orientations: forcing, the triangle lemma, classes are transitive, taking a class away makes no new opposites. -/
namespace Go.Pw
/-- An arc forces another. -/
inductive Fo (E : Nat → Nat → Bool) (a b : Nat) : Nat → Nat → Prop
  | refl : E a b = true → Fo E a b a b
  | left {c d e : Nat} : Fo E a b c d → E e d = true → E c e = false → Fo E a b e d
  | right {c d e : Nat} : Fo E a b c d → E c e = true → E d e = false → Fo E a b c e
section
variable {E : Nat → Nat → Bool}
theorem Fo.edge {a b c d : Nat} (h : Fo E a b c d) : E c d = true := by
  cases h <;> assumption
theorem Fo.start {a b c d : Nat} (h : Fo E a b c d) : E a b = true := by
  induction h with
  | refl h => exact h
  | left _ _ _ ih => exact ih
  | right _ _ _ ih => exact ih
theorem Fo.trans {a b c d e f : Nat} (h : Fo E a b c d) (h2 : Fo E c d e f) : Fo E a b e f := by
  induction h2 with
  | refl _ => exact h
  | left _ h3 h4 ih => exact ih.left h3 h4
  | right _ h3 h4 ih => exact ih.right h3 h4
variable (hs : ∀ x y, E x y = E y x)
include hs
theorem Fo.rev {a b c d : Nat} (h : Fo E a b c d) : Fo E b a d c := by
  induction h with
  | refl h => exact .refl (by rw [hs]; exact h)
  | left _ h3 h4 ih => exact ih.right (by rw [hs]; exact h3) h4
  | right _ h3 h4 ih => exact ih.left (by rw [hs]; exact h3) h4
theorem Fo.symm {a b c d : Nat} (h : Fo E a b c d) : Fo E c d a b := by
  induction h with
  | refl h => exact .refl h
  | @left c d e h0 h3 h4 ih => exact ((Fo.refl h3).left h0.edge (by rw [hs]; exact h4)).trans ih
  | @right c d e h0 h3 h4 ih => exact ((Fo.refl h3).right h0.edge (by rw [hs]; exact h4)).trans ih
/-- The triangle lemma: the apex a sees each arc that bc forces as it sees bc. -/
theorem triangle (hirr : ∀ x, E x x = false) {a b c : Nat} (hab : E a b = true) (hac : E a c = true) (h1 : ¬ Fo E b c a c) (h2 : ¬ Fo E b c b a) {p q : Nat} (h : Fo E b c p q) : Fo E a b a p ∧ Fo E a c a q := by
  induction h with
  | refl _ => exact ⟨.refl hab, .refl hac⟩
  | @left c' d e h0 h3 h4 ih =>
    obtain ⟨i1, i2⟩ := ih
    -- c'd in the class, ed beside it, c' and e apart
    have hae : E a e = true := by
      cases h : E a e with
      | true => rfl
      | false =>
        exfalso
        have : Fo E b c a d := (h0.left h3 h4).left i2.edge (by rw [hs]; exact h)
        exact h1 (this.trans (i2.symm hs))
    exact ⟨i1.right hae h4, i2⟩
  | @right c' d e h0 h3 h4 ih =>
    obtain ⟨i1, i2⟩ := ih
    have hae : E a e = true := by
      cases h : E a e with
      | true => rfl
      | false =>
        exfalso
        have : Fo E b c c' a := (h0.right h3 h4).right (by rw [hs]; exact i1.edge) (by rw [hs]; exact h)
        exact h2 (this.trans ((i1.rev hs).symm hs))
    exact ⟨i1, i2.right hae h4⟩
/-- A class without opposites is transitive. -/
theorem Fo.tr (hirr : ∀ x, E x x = false) {x y : Nat} (hno : ¬ Fo E x y y x) {a b c : Nat} (h1 : Fo E x y a b) (h2 : Fo E x y b c) : Fo E x y a c := by
  have hac : E a c = true := by
    cases h : E a c with
    | true => rfl
    | false =>
      exfalso
      have : Fo E x y c b := h1.left (by rw [hs]; exact h2.edge) h
      exact hno (this.trans ((h2.rev hs).symm hs))
  apply Classical.byContradiction
  intro hn
  have t1 : ¬ Fo E b c a c := fun h => hn (h2.trans h)
  have t2 : ¬ Fo E b c b a := fun h => hno ((h2.trans h).trans ((h1.rev hs).symm hs))
  have := (triangle hs hirr h1.edge hac t1 t2 ((h2.symm hs).trans h1)).1.edge
  rw [hirr] at this
  cases this
/-- Arcs that come to force each other when the class of bc is taken away: out of one vertex, or into one. -/
def Mg (E : Nat → Nat → Bool) (A : Nat → Nat → Prop) (a b c d : Nat) : Prop := (a = c ∧ (A b d ∨ A d b)) ∨ (b = d ∧ (A a c ∨ A c a))
/-- Out of an apex: two merges from one class lead to one class. -/
theorem merge_out (hirr : ∀ x, E x x = false) {x y : Nat} (hno : ¬ Fo E x y y x) {a b c : Nat} (hbc : Fo E x y b c) (hab : E a b = true) (hac : E a c = true)
    (nab : ¬ Fo E x y a b) (nba : ¬ Fo E x y b a) (nac : ¬ Fo E x y a c) (nca : ¬ Fo E x y c a) (hne : ¬ Fo E a c a b) {e f p q : Nat} (he : Fo E a b e f) (hpq : E p q = true) (nef : ¬ Fo E x y p q) (nfe : ¬ Fo E x y q p) (hm : Mg E (Fo E x y) e f p q) : Fo E a c p q := by
  have sw : ∀ {u v w z : Nat}, Fo E u v w z → Fo E w z u v := fun h => h.symm hs
  -- the apex a, arcs of the class of bc
  have ta : ∀ {p q}, Fo E x y p q → Fo E a b a p ∧ Fo E a c a q := fun h => triangle hs hirr hab hac (fun h => nac (hbc.trans h)) (fun h => nba (hbc.trans h)) ((sw hbc).trans h)
  -- the apex c, arcs of the class of ab
  have hca : E c a = true := by rw [hs]; exact hac
  have hcb : E c b = true := by rw [hs]; exact hbc.edge
  have tc : ∀ {p q}, Fo E a b p q → Fo E c a c p ∧ Fo E c b c q := fun h => triangle hs hirr hca hcb (fun h => nba (hbc.trans ((sw (h.rev hs))))) (fun h => hne (sw h)) h
  -- the apex b, arcs of the class of ac
  have hba : E b a = true := by rw [hs]; exact hab
  have tb : ∀ {p q}, Fo E a c p q → Fo E b a b p ∧ Fo E b c b q := fun h => triangle hs hirr hba hbc.edge (fun h => nac (hbc.trans (sw h))) (fun h => hne h) h
  rcases hm with ⟨rfl, hA | hA⟩ | ⟨rfl, hA | hA⟩
  · have te : ∀ {u v}, Fo E x y u v → Fo E e f e u ∧ Fo E e q e v := fun h => triangle hs hirr he.edge hpq (fun h => nef (hA.trans h)) (fun h => nba ((hA.trans h).trans (sw (he.rev hs)))) ((sw hA).trans h)
    obtain ⟨e1, e2⟩ := te hbc
    have e3 := ((tc (he.trans e1)).1).rev hs
    exact e3.trans (sw e2)
  · exfalso
    have te : ∀ {u v}, Fo E x y u v → Fo E e q e u ∧ Fo E e f e v := fun h => triangle hs hirr hpq he.edge (fun h => nab ((hA.trans h).trans (sw he))) (fun h => nfe (hA.trans h)) ((sw hA).trans h)
    have e1 := (tc (he.trans (te hbc).2)).2.edge
    rw [hirr] at e1
    cases e1
  · exfalso
    have e0 := (tc he).1
    have e1 := (tc ((ta hA).1)).2
    exact nac (hbc.trans ((e1.trans (sw e0)).rev hs))
  · exfalso
    have e1 := (ta hA).2
    have e2 := ((tc he).1).rev hs
    have e3 := (tb e2).1
    have e4 := (tb e1).2
    exact nba (hbc.trans (e4.trans (sw e3)))
theorem Mg.flip {x y a b c d : Nat} (h : Mg E (Fo E x y) a b c d) : Mg E (Fo E y x) a b c d := by
  rcases h with ⟨e, h | h⟩ | ⟨e, h | h⟩
  · exact .inl ⟨e, .inr (h.rev hs)⟩
  · exact .inl ⟨e, .inl (h.rev hs)⟩
  · exact .inr ⟨e, .inr (h.rev hs)⟩
  · exact .inr ⟨e, .inl (h.rev hs)⟩
omit hs in
theorem Mg.turn {A : Nat → Nat → Prop} {a b c d : Nat} (h : Mg E A a b c d) : Mg E A b a d c := by
  rcases h with h | h
  · exact .inr h
  · exact .inl h
/-- Two merges lead back. -/
theorem merge_any (hirr : ∀ x, E x x = false) {x y : Nat} (hno : ¬ Fo E x y y x) {E' : Nat → Nat → Bool} (hE : ∀ p q, E' p q = true ↔ E p q = true ∧ ¬ Fo E x y p q ∧ ¬ Fo E x y q p) {c d e f p q r s : Nat}
    (hcd : E' c d = true) (hef : E' e f = true) (hrs : E' r s = true) (h1 : Mg E (Fo E x y) c d e f) (hne : ¬ Fo E c d e f) (h2 : Fo E e f p q) (h3 : Mg E (Fo E x y) p q r s) : Fo E c d r s := by
  have hno' : ¬ Fo E y x x y := fun h => hno (h.rev hs)
  have rv : ∀ {u v}, Fo E y x u v → Fo E x y v u := fun h => h.rev hs
  rw [hE] at hcd hef hrs
  rcases h1 with ⟨rfl, hA | hA⟩ | ⟨rfl, hA | hA⟩
  · exact merge_out hs hirr hno' (hA.rev hs) hef.1 hcd.1 (fun h => hef.2.2 (rv h)) (fun h => hef.2.1 (rv h)) (fun h => hcd.2.2 (rv h)) (fun h => hcd.2.1 (rv h)) hne h2 hrs.1 (fun h => hrs.2.2 (rv h)) (fun h => hrs.2.1 (rv h)) (h3.flip hs)
  · exact merge_out hs hirr hno hA hef.1 hcd.1 hef.2.1 hef.2.2 hcd.2.1 hcd.2.2 hne h2 hrs.1 hrs.2.1 hrs.2.2 h3
  · have hcd' : E d c = true := by rw [hs]; exact hcd.1
    have hef' : E d e = true := by rw [hs]; exact hef.1
    have hrs' : E s r = true := by rw [hs]; exact hrs.1
    exact (merge_out hs hirr hno' (hA.rev hs) hef' hcd' (fun h => hef.2.1 (rv h)) (fun h => hef.2.2 (rv h)) (fun h => hcd.2.1 (rv h)) (fun h => hcd.2.2 (rv h)) (fun h => hne (h.rev hs)) (h2.rev hs) hrs' (fun h => hrs.2.1 (rv h)) (fun h => hrs.2.2 (rv h)) ((h3.flip hs).turn)).rev hs
  · have hcd' : E d c = true := by rw [hs]; exact hcd.1
    have hef' : E d e = true := by rw [hs]; exact hef.1
    have hrs' : E s r = true := by rw [hs]; exact hrs.1
    exact (merge_out hs hirr hno hA hef' hcd' hef.2.2 hef.2.1 hcd.2.2 hcd.2.1 (fun h => hne (h.rev hs)) (h2.rev hs) hrs' hrs.2.2 hrs.2.1 (h3.turn)).rev hs
/-- Taking a class away makes no arc force its opposite. -/
theorem class_away (hirr : ∀ x, E x x = false) (hcons : ∀ a b, E a b = true → ¬ Fo E a b b a) {x y : Nat} (hxy : E x y = true) {E' : Nat → Nat → Bool} (hE : ∀ p q, E' p q = true ↔ E p q = true ∧ ¬ Fo E x y p q ∧ ¬ Fo E x y q p) {a b : Nat} (hab : E' a b = true) : ¬ Fo E' a b b a := by
  have hno := hcons x y hxy
  have key : ∀ {p q}, Fo E' a b p q → (Fo E a b p q ∨ ∃ c d e f, Fo E a b c d ∧ Mg E (Fo E x y) c d e f ∧ Fo E e f p q ∧ E' c d = true ∧ E' e f = true) := by
    intro p q h
    have stepM : ∀ {p q r s}, E' p q = true → E' r s = true → Mg E (Fo E x y) p q r s → (Fo E a b p q ∨ ∃ c d e f, Fo E a b c d ∧ Mg E (Fo E x y) c d e f ∧ Fo E e f p q ∧ E' c d = true ∧ E' e f = true) → (Fo E a b r s ∨ ∃ c d e f, Fo E a b c d ∧ Mg E (Fo E x y) c d e f ∧ Fo E e f r s ∧ E' c d = true ∧ E' e f = true) := by
      intro p q r s hpq hrs hm hS
      rcases hS with h1 | ⟨c, d, e, f, h1, h2, h3, h4, h5⟩
      · exact .inr ⟨p, q, r, s, h1, hm, .refl ((hE r s).1 hrs).1, hpq, hrs⟩
      · by_cases hc : Fo E c d e f
        · exact .inr ⟨p, q, r, s, (h1.trans hc).trans h3, hm, .refl ((hE r s).1 hrs).1, hpq, hrs⟩
        · exact .inl (h1.trans (merge_any hs hirr hno hE h4 h5 hrs h2 hc h3 hm))
    have stepG : ∀ {p q r s}, Fo E p q r s → (Fo E a b p q ∨ ∃ c d e f, Fo E a b c d ∧ Mg E (Fo E x y) c d e f ∧ Fo E e f p q ∧ E' c d = true ∧ E' e f = true) → (Fo E a b r s ∨ ∃ c d e f, Fo E a b c d ∧ Mg E (Fo E x y) c d e f ∧ Fo E e f r s ∧ E' c d = true ∧ E' e f = true) := by
      intro p q r s h hS
      rcases hS with h1 | ⟨c, d, e, f, h1, h2, h3, h4, h5⟩
      · exact .inl (h1.trans h)
      · exact .inr ⟨c, d, e, f, h1, h2, h3.trans h, h4, h5⟩
    have gone : ∀ {u v}, E u v = true → E' u v = false → Fo E x y u v ∨ Fo E x y v u := fun {u v} h1 h2 => by
      apply Classical.byContradiction
      intro hn
      have := (hE u v).2 ⟨h1, fun h => hn (.inl h), fun h => hn (.inr h)⟩
      rw [this] at h2; cases h2
    induction h with
    | refl h => exact .inl (.refl ((hE a b).1 h).1)
    | @left c d e h0 h3 h4 ih =>
      cases hce : E c e with
      | false => exact stepG ((Fo.refl ((hE _ _).1 h0.edge).1).left ((hE _ _).1 h3).1 hce) ih
      | true => exact stepM h0.edge h3 (.inr ⟨rfl, gone hce h4⟩) ih
    | @right c d e h0 h3 h4 ih =>
      cases hde : E d e with
      | false => exact stepG ((Fo.refl ((hE _ _).1 h0.edge).1).right ((hE _ _).1 h3).1 hde) ih
      | true => exact stepM h0.edge h3 (.inl ⟨rfl, gone hde h4⟩) ih
  intro h
  rcases key h with h1 | ⟨c, d, e, f, h1, h2, h3, h4, h5⟩
  · exact hcons a b ((hE a b).1 hab).1 h1
  · have h6 : Fo E c d f e := (h1.symm hs).trans ((h3.rev hs).symm hs)
    rw [hE] at h4 h5
    have hcd := hcons c d h4.1
    rcases h2 with ⟨rfl, hA⟩ | ⟨rfl, hA⟩
    · have h7 : Fo E c d f d := h6.tr hs hirr hcd (.refl h4.1)
      rcases hA with hA | hA
      · exact h4.2.2 (hA.trans ((h7.rev hs).symm hs))
      · exact h4.2.1 (hA.trans (h7.symm hs))
    · have h7 : Fo E c d c e := (Fo.refl h4.1).tr hs hirr hcd h6
      rcases hA with hA | hA
      · exact h4.2.1 (hA.trans (h7.symm hs))
      · exact h4.2.2 (hA.trans ((h7.rev hs).symm hs))
/-- A transitive orientation. -/
structure TrO (E : Nat → Nat → Bool) (F : Nat → Nat → Prop) : Prop where
  sub : ∀ a b, F a b → E a b = true
  all : ∀ a b, E a b = true → F a b ∨ F b a
  asym : ∀ a b, F a b → ¬ F b a
  tr : ∀ a b c, F a b → F b c → F a c
/-- A class and a transitive orientation of what is left beside it are one of all. -/
theorem tr_join (hirr : ∀ x, E x x = false) {x y : Nat} (hno : ¬ Fo E x y y x) {E' : Nat → Nat → Bool} (hE : ∀ p q, E' p q = true ↔ E p q = true ∧ ¬ Fo E x y p q ∧ ¬ Fo E x y q p) {T : Nat → Nat → Prop} (hT : TrO E' T) : TrO E (fun a b => Fo E x y a b ∨ T a b) := by
  have sb : ∀ {a b}, T a b → E a b = true ∧ ¬ Fo E x y a b ∧ ¬ Fo E x y b a := fun h => (hE _ _).1 (hT.sub _ _ h)
  have dec : ∀ {a c}, E a c = true → Fo E x y a c ∨ Fo E x y c a ∨ T a c ∨ T c a := fun {a c} h => by
    by_cases h1 : Fo E x y a c
    · exact .inl h1
    by_cases h2 : Fo E x y c a
    · exact .inr (.inl h2)
    exact .inr (.inr (hT.all a c ((hE a c).2 ⟨h, h1, h2⟩)))
  refine ⟨fun a b h => h.elim Fo.edge fun h => (sb h).1, fun a b h => ?_, fun a b h1 h2 => ?_, fun a b c h1 h2 => ?_⟩
  · rcases dec h with h | h | h | h
    · exact .inl (.inl h)
    · exact .inr (.inl h)
    · exact .inl (.inr h)
    · exact .inr (.inr h)
  · rcases h1 with h1 | h1 <;> rcases h2 with h2 | h2
    · exact hno (h1.trans ((h2.rev hs).symm hs))
    · exact (sb h2).2.2 h1
    · exact (sb h1).2.2 h2
    · exact hT.asym a b h1 h2
  · rcases h1 with h1 | h1 <;> rcases h2 with h2 | h2
    · exact .inl (h1.tr hs hirr hno h2)
    · have hac : E a c = true := by
        cases h : E a c with
        | true => rfl
        | false => exact ((sb h2).2.2 (h1.left (by rw [hs]; exact (sb h2).1) h)).elim
      rcases dec hac with h | h | h | h
      · exact .inl h
      · exact ((sb h2).2.2 (h.tr hs hirr hno h1)).elim
      · exact .inr h
      · exact ((sb (hT.tr _ _ _ h2 h)).2.2 h1).elim
    · have hac : E a c = true := by
        cases h : E a c with
        | true => rfl
        | false => exact ((sb h1).2.2 (h2.right (by rw [hs]; exact (sb h1).1) (by rw [hs]; exact h))).elim
      rcases dec hac with h | h | h | h
      · exact .inl h
      · exact ((sb h1).2.2 (h2.tr hs hirr hno h)).elim
      · exact .inr h
      · exact ((sb (hT.tr _ _ _ h h1)).2.2 h2).elim
    · exact .inr (hT.tr _ _ _ h1 h2)
/-- A transitive orientation keeps what is forced. -/
theorem TrO.keeps {F : Nat → Nat → Prop} (hF : TrO E F) {a b c d : Nat} (h : Fo E a b c d) (hab : F a b) : F c d := by
  induction h with
  | refl _ => exact hab
  | left _ h3 h4 ih =>
    rcases hF.all _ _ h3 with h | h
    · exact h
    · have := hF.sub _ _ (hF.tr _ _ _ ih h)
      rw [h4] at this; cases this
  | right _ h3 h4 ih =>
    rcases hF.all _ _ h3 with h | h
    · exact h
    · have := hF.sub _ _ (hF.tr _ _ _ h ih)
      rw [hs, h4] at this; cases this
end
end Go.Pw
/- The program's orientation is transitive, and found whenever no arc forces its opposite. -/
namespace Go.Pw
open Go
/-- A graph on the first n vertices. -/
structure Gph (n : Nat) (P : Nat → Nat → Bool) : Prop where
  n1 : 1 ≤ n
  n7 : n ≤ 7
  sym : ∀ x y, P x y = P y x
  irr : ∀ x, P x x = false
  lt : ∀ x y, P x y = true → x < n ∧ y < n
theorem next_iff {n : Nat} {P : Nat → Nat → Bool} (hP : Gph n P) {a b v u : Nat} (hab : P a b = true) (hv : v < n) (hu : u < n) : nextB (gRows n P) (a : Int) (b : Int) v u = true ↔ P v u = true ∧ ((v = a ∧ u ≠ b ∧ P u b = false) ∨ (u = b ∧ v ≠ a ∧ P v a = false)) := by
  obtain ⟨ha, hb⟩ := hP.lt a b hab
  rw [nextB_iff, gRows_has hP.n7 P hv hu, gRows_has hP.n7 P hu hb, gRows_has hP.n7 P hv ha]
  constructor
  · rintro ⟨h1, ⟨h2, h3, h4⟩ | ⟨h2, h3, h4⟩⟩
    · exact ⟨h1, .inl ⟨by omega, by omega, h4⟩⟩
    · exact ⟨h1, .inr ⟨by omega, by omega, h4⟩⟩
  · rintro ⟨h1, ⟨h2, h3, h4⟩ | ⟨h2, h3, h4⟩⟩
    · exact ⟨h1, .inl ⟨by omega, by omega, h4⟩⟩
    · exact ⟨h1, .inr ⟨by omega, by omega, h4⟩⟩
theorem nextA_in {rows : List Int} {a b : Int} {v u : Nat} (hv : v < rows.length) (hu : u < rows.length) (h : nextB rows a b v u = true) : [(v : Int), (u : Int)] ∈ nextA rows a b := by
  unfold nextA nextU
  refine List.mem_flatMap.2 ⟨v, List.mem_range.2 hv, ?_⟩
  unfold nextRow
  exact List.mem_map.2 ⟨u, List.mem_filter.2 ⟨List.mem_range.2 hu, h⟩, rfl⟩
/-- All that is found is forced. -/
theorem bfs_sound {n : Nat} {P : Nat → Nat → Bool} (hP : Gph n P) {a b : Nat} (hab : P a b = true) : ∀ k, ∀ e ∈ (bfsA (gRows n P) a b k).1, ∃ v u : Nat, e = [(v : Int), (u : Int)] ∧ Fo P a b v u
  | 0, e, he => by obtain rfl := List.mem_singleton.1 he; exact ⟨a, b, rfl, .refl hab⟩
  | k + 1, e, he => by
    unfold bfsA at he
    split at he
    · rename_i hk
      unfold stepA at he
      rcases fold_mem _ he with he | he
      · exact bfs_sound hP hab k e he
      · have hm : (bfsA (gRows n P) a b k).1.getD k [] ∈ (bfsA (gRows n P) a b k).1 := by simp [List.getD, hk]
        obtain ⟨v, u, e1, hf⟩ := bfs_sound hP hab k _ hm
        rw [e1] at he
        obtain ⟨v', u', rfl, hv, hu, hb⟩ := nextA_mem he
        rw [gRows_length] at hv hu
        have hb' := (next_iff hP hf.edge hv hu).1 hb
        refine ⟨v', u', rfl, ?_⟩
        rcases hb'.2 with ⟨rfl, _, h4⟩ | ⟨rfl, _, h4⟩
        · exact hf.right hb'.1 (by rw [hP.sym]; exact h4)
        · exact hf.left hb'.1 (by rw [hP.sym]; exact h4)
    · exact bfs_sound hP hab k e he
theorem fold_pre {k : Int} : ∀ (L : List (List Int)) (s : List (List Int) × List Int), ∃ t, (L.foldl (addA k) s).1 = s.1 ++ t
  | [], s => ⟨[], by simp⟩
  | e :: L, s => by
    obtain ⟨t, ht⟩ := fold_pre (k := k) L (addA k s e)
    rw [List.foldl_cons, ht]
    unfold addA
    split
    · exact ⟨t, rfl⟩
    · exact ⟨[e] ++ t, by simp⟩
theorem fold_all {k : Int} : ∀ (L : List (List Int)) (s : List (List Int) × List Int) {x : List Int}, x ∈ L → x ∈ (L.foldl (addA k) s).1
  | e :: L, s, x, h => by
    rw [List.foldl_cons]
    rcases List.mem_cons.1 h with rfl | h
    · refine fold_old L ?_
      unfold addA
      split
      · assumption
      · exact List.mem_append_right _ (List.mem_singleton_self _)
    · exact fold_all L _ h
/-- What stood before place k has been followed up. -/
theorem bfs_closed {rows : List Int} {a b : Int} : ∀ k i, i < k → i < (bfsA rows a b k).1.length → ∀ x ∈ nextA rows (((bfsA rows a b k).1.getD i []).getD 0 0) (((bfsA rows a b k).1.getD i []).getD 1 0), x ∈ (bfsA rows a b k).1
  | 0, i, h, _, _, _ => by omega
  | k + 1, i, hi, hl, x, hx => by
    unfold bfsA at hl hx ⊢
    split at hl
    · rename_i hk
      rw [if_pos hk] at hx ⊢
      unfold stepA at hl hx ⊢
      obtain ⟨t, ht⟩ := fold_pre (k := (k : Int)) (nextA rows (((bfsA rows a b k).1.getD k []).getD 0 0) (((bfsA rows a b k).1.getD k []).getD 1 0)) (bfsA rows a b k)
      have hget : ∀ i, i < (bfsA rows a b k).1.length → ((nextA rows (((bfsA rows a b k).1.getD k []).getD 0 0) (((bfsA rows a b k).1.getD k []).getD 1 0)).foldl (addA (k : Int)) (bfsA rows a b k)).1.getD i [] = (bfsA rows a b k).1.getD i [] := fun i hi => by
        rw [ht]; simp [List.getD, List.getElem?_append_left hi]
      by_cases hik : i = k
      · subst hik
        rw [hget i hk] at hx
        exact fold_all _ _ hx
      · have hil : i < (bfsA rows a b k).1.length := by omega
        rw [hget i hil] at hx
        exact fold_old _ (bfs_closed k i (by omega) hil x hx)
    · rename_i hk
      rw [if_neg hk] at hx ⊢
      exact bfs_closed k i (by omega) hl x hx
/-- The program finds exactly the arcs that an arc forces. -/
theorem forced_iff {n : Nat} {P : Nat → Nat → Bool} (hP : Gph n P) {a b : Nat} (hab : P a b = true) {v u : Nat} : [(v : Int), (u : Int)] ∈ (forcedA (gRows n P) a b).1 ↔ Fo P a b v u := by
  constructor
  · intro h
    obtain ⟨v', u', e, hf⟩ := bfs_sound hP hab 49 _ h
    have e1 : v = v' := by have := congrArg (fun l : List Int => l.getD 0 0) e; exact Int.ofNat.inj this
    have e2 : u = u' := by have := congrArg (fun l : List Int => l.getD 1 0) e; exact Int.ofNat.inj this
    subst e1 e2
    exact hf
  · intro h
    obtain ⟨ha, hb⟩ := hP.lt a b hab
    have hl := gRows_length n P
    have hok := forcedA_ok (rows := gRows n P) (a := a) (b := b) ⟨a, b, rfl, by omega, by omega⟩
    rw [hl] at hok
    have hlen := hok.bound hP.n7
    have close : ∀ {c d e f : Nat}, [(c : Int), (d : Int)] ∈ (forcedA (gRows n P) a b).1 → P e f = true → nextB (gRows n P) c d e f = true → [(e : Int), (f : Int)] ∈ (forcedA (gRows n P) a b).1 := fun {c d e f} hm hef hn => by
      obtain ⟨i, hi, hg⟩ := List.mem_iff_getElem.1 hm
      obtain ⟨he, hf⟩ := hP.lt e f hef
      refine bfs_closed 49 i (by omega) hi _ ?_
      have : (bfsA (gRows n P) a b 49).1.getD i [] = [(c : Int), (d : Int)] := by
        show (forcedA (gRows n P) a b).1.getD i [] = _
        simp only [List.getD]; rw [List.getElem?_eq_getElem hi]; exact hg
      rw [this]
      exact nextA_in (by omega) (by omega) hn
    induction h with
    | refl _ => exact forcedA_first _ _ _
    | @left c d e h0 h3 h4 ih =>
      by_cases hce : e = c
      · subst hce; exact ih
      · obtain ⟨hc, hd⟩ := hP.lt _ _ h0.edge
        obtain ⟨he, _⟩ := hP.lt _ _ h3
        exact close ih h3 ((next_iff hP h0.edge he hd).2 ⟨h3, .inr ⟨rfl, hce, by rw [hP.sym]; exact h4⟩⟩)
    | @right c d e h0 h3 h4 ih =>
      by_cases hde : e = d
      · subst hde; exact ih
      · obtain ⟨hc, hd⟩ := hP.lt _ _ h0.edge
        obtain ⟨_, he⟩ := hP.lt _ _ h3
        exact close ih h3 ((next_iff hP h0.edge hc he).2 ⟨h3, .inl ⟨rfl, hde, by rw [hP.sym]; exact h4⟩⟩)
/-- What is left when a list of arcs is taken away. -/
theorem remF_iff : ∀ (L : List (List Int)) (P : Nat → Nat → Bool) (i u : Nat), (∀ e ∈ L, ∃ v w : Nat, e = [(v : Int), (w : Int)]) → (L.foldl remE P i u = true ↔ P i u = true ∧ [(i : Int), (u : Int)] ∉ L ∧ [(u : Int), (i : Int)] ∉ L)
  | [], P, i, u, _ => by simp
  | e :: L, P, i, u, h => by
    obtain ⟨v, w, rfl⟩ := h _ (List.mem_cons_self ..)
    rw [List.foldl_cons, remF_iff L _ i u fun x hx => h x (List.mem_cons_of_mem _ hx)]
    have e1 : remE P [(v : Int), (w : Int)] i u = true ↔ P i u = true ∧ ¬ (i = v ∧ u = w) ∧ ¬ (i = w ∧ u = v) := by
      unfold remE remP
      simp only [List.getD_cons_zero, List.getD_cons_succ, Int.toNat_natCast, Bool.and_eq_true, Bool.not_eq_true', Bool.or_eq_false_iff, decide_eq_false_iff_not]
    have e2 : ∀ x y : Nat, ([(x : Int), (y : Int)] = [(v : Int), (w : Int)]) ↔ x = v ∧ y = w := fun x y => by simp; omega
    rw [e1, List.mem_cons, List.mem_cons, e2, e2]
    constructor
    · rintro ⟨⟨h1, h2, h3⟩, h4, h5⟩
      exact ⟨h1, fun h => h.elim h2 h4, fun h => h.elim (fun h => h3 ⟨h.2, h.1⟩) h5⟩
    · rintro ⟨h1, h2, h3⟩
      exact ⟨⟨h1, fun h => h2 (.inl h), fun h => h3 (.inl ⟨h.2, h.1⟩)⟩, fun h => h2 (.inr h), fun h => h3 (.inr h)⟩
theorem addF_iff : ∀ (L : List (List Int)) (Q : Nat → Nat → Bool) (i u : Nat), (∀ e ∈ L, ∃ v w : Nat, e = [(v : Int), (w : Int)]) → (L.foldl addE Q i u = true ↔ Q i u = true ∨ [(i : Int), (u : Int)] ∈ L)
  | [], Q, i, u, _ => by simp
  | e :: L, Q, i, u, h => by
    obtain ⟨v, w, rfl⟩ := h _ (List.mem_cons_self ..)
    rw [List.foldl_cons, addF_iff L _ i u fun x hx => h x (List.mem_cons_of_mem _ hx)]
    have e1 : addE Q [(v : Int), (w : Int)] i u = true ↔ Q i u = true ∨ (i = v ∧ u = w) := by
      unfold addE addQ
      simp only [List.getD_cons_zero, List.getD_cons_succ, Int.toNat_natCast, Bool.or_eq_true, decide_eq_true_eq]
    have e2 : ([(i : Int), (u : Int)] = [(v : Int), (w : Int)]) ↔ i = v ∧ u = w := by simp; omega
    rw [e1, List.mem_cons, e2, or_assoc]
/-- No arc forces its opposite. -/
def Cons (P : Nat → Nat → Bool) : Prop := ∀ a b, P a b = true → ¬ Fo P a b b a
theorem no_edges {n : Nat} {P : Nat → Nat → Bool} (hP : Gph n P) (h : edgesL n (gRows n P) = []) (x y : Nat) : P x y = false := by
  have key : ∀ v u : Nat, v < u → P v u = false := fun v u hvu => by
    cases hp : P v u with
    | false => rfl
    | true =>
      exfalso
      obtain ⟨hv, hu⟩ := hP.lt v u hp
      have hg := gRows_isG hP.n1 hP.n7 hP.sym hP.irr
      unfold edgesL edU at h
      rw [if_pos hg, List.flatMap_eq_nil_iff] at h
      have h1 := h v (List.mem_range.2 (by rw [gRows_length]; exact hv))
      unfold edRow at h1
      rw [List.map_eq_nil_iff, List.filter_eq_nil_iff] at h1
      have h2 := h1 u (List.mem_range.2 (by rw [gRows_length]; exact hu))
      rw [gRows_has hP.n7 P hv hu, hp, decide_eq_true hvu] at h2
      exact h2 rfl
  rcases Nat.lt_trichotomy x y with h1 | rfl | h1
  · exact key x y h1
  · exact hP.irr x
  · rw [hP.sym]; exact key y x h1
/-- One round of the program's search. -/
theorem ori_round {n : Nat} {P : Nat → Nat → Bool} (hP : Gph n P) {e : List Int} (he : e ∈ edgesL n (gRows n P)) : ∃ x y : Nat, e = [(x : Int), (y : Int)] ∧ P x y = true ∧
    (∀ p q, (forcedA (gRows n P) (e.getD 0 0) (e.getD 1 0)).1.foldl remE P p q = true ↔ P p q = true ∧ ¬ Fo P x y p q ∧ ¬ Fo P x y q p) ∧ (∀ Q p q, (forcedA (gRows n P) (e.getD 0 0) (e.getD 1 0)).1.foldl addE Q p q = true ↔ Q p q = true ∨ Fo P x y p q) ∧
    (([e.getD 1 0, e.getD 0 0] ∈ (forcedA (gRows n P) (e.getD 0 0) (e.getD 1 0)).1) ↔ Fo P x y y x) ∧ Gph n ((forcedA (gRows n P) (e.getD 0 0) (e.getD 1 0)).1.foldl remE P) := by
  obtain ⟨x, y, rfl, hxy, hy, _, hb⟩ := edges_mem he
  rw [gRows_length] at hy
  rw [gRows_has hP.n7 P (by omega) hy] at hb
  simp only [List.getD_cons_zero, List.getD_cons_succ]
  have hpair : ∀ z ∈ (forcedA (gRows n P) (x : Int) (y : Int)).1, ∃ v w : Nat, z = [(v : Int), (w : Int)] := fun z hz => by
    obtain ⟨v, u, e, _⟩ := bfs_sound hP hb 49 z hz
    exact ⟨v, u, e⟩
  have h1 : ∀ p q, (forcedA (gRows n P) (x : Int) (y : Int)).1.foldl remE P p q = true ↔ P p q = true ∧ ¬ Fo P x y p q ∧ ¬ Fo P x y q p := fun p q => by
    rw [remF_iff _ P p q hpair, forced_iff hP hb, forced_iff hP hb]
  refine ⟨x, y, rfl, hb, h1, fun Q p q => by rw [addF_iff _ Q p q hpair, forced_iff hP hb], forced_iff hP hb, ⟨hP.n1, hP.n7, remF_sym _ hP.sym, remF_irr hP.irr, fun p q h => hP.lt p q ((h1 p q).1 h).1⟩⟩
/-- What the program finds is a transitive orientation. -/
theorem oriF_tr {n : Nat} : ∀ (f : Nat) {P Q O : Nat → Nat → Bool}, Gph n P → oriF n f P Q = some O → ∃ T, TrO P T ∧ ∀ a b, O a b = true ↔ Q a b = true ∨ T a b
  | 0, _, _, _, _, h => by cases h
  | f + 1, P, Q, O, hP, h => by
    unfold oriF at h
    cases he : edgesL n (gRows n P) with
    | nil =>
      rw [he] at h
      injection h with h
      subst h
      have hn := no_edges hP he
      exact ⟨fun _ _ => False, ⟨fun _ _ h => h.elim, fun a b h => (by rw [hn] at h; cases h), fun _ _ h => h.elim, fun _ _ _ h => h.elim⟩, fun a b => by simp⟩
    | cons e r =>
      rw [he] at h
      dsimp only at h
      obtain ⟨x, y, _, hxy, h1, h2, h3, h4⟩ := ori_round hP (e := e) (by rw [he]; exact List.mem_cons_self ..)
      split at h
      · cases h
      · rename_i hno
        rw [h3] at hno
        obtain ⟨T, hT, hO⟩ := oriF_tr f h4 h
        exact ⟨_, tr_join hP.sym hP.irr hno h1 hT, fun a b => by rw [hO, h2, or_assoc]⟩
/-- If no arc forces its opposite, it finds one. -/
theorem oriF_finds {n : Nat} : ∀ (f : Nat) {P Q : Nat → Nat → Bool}, Gph n P → Cons P → cntP n P < f → (oriF n f P Q).isSome = true
  | 0, _, _, _, _, h => by omega
  | f + 1, P, Q, hP, hc, hf => by
    unfold oriF
    cases he : edgesL n (gRows n P) with
    | nil => rfl
    | cons e r =>
      dsimp only
      have hm : e ∈ edgesL n (gRows n P) := by rw [he]; exact List.mem_cons_self ..
      obtain ⟨x, y, _, hxy, h1, h2, h3, h4⟩ := ori_round hP hm
      have hr := roundO hP.n1 hP.n7 hP.irr hm
      rw [if_neg (fun h => hc x y hxy (h3.1 h))]
      exact oriF_finds f h4 (fun a b hab => class_away hP.sym hP.irr hc hxy h1 hab) (by have := hr.less; omega)
theorem TrO.cons {P : Nat → Nat → Bool} {F : Nat → Nat → Prop} (hs : ∀ x y, P x y = P y x) (hF : TrO P F) : Cons P := fun a b hab h => by
  rcases hF.all a b hab with h1 | h1
  · exact hF.asym a b h1 (hF.keeps hs h h1)
  · exact hF.asym b a h1 (hF.keeps hs (h.rev hs) h1)
/-- Found exactly if no arc forces its opposite, exactly if there is one. -/
theorem oriF_iff {n : Nat} {P : Nat → Nat → Bool} (hP : Gph n P) : ((oriF n 50 P fun _ _ => false).isSome = true ↔ Cons P) ∧ (Cons P ↔ ∃ F, TrO P F) := by
  have h1 : (oriF n 50 P fun _ _ => false).isSome = true → ∃ F, TrO P F := fun h => by
    obtain ⟨O, hO⟩ := Option.isSome_iff_exists.1 h
    obtain ⟨T, hT, _⟩ := oriF_tr 50 hP hO
    exact ⟨T, hT⟩
  have h2 : Cons P → (oriF n 50 P fun _ _ => false).isSome = true := fun h => oriF_finds 50 hP h (by
    have := cntP_le n P
    have := Nat.mul_le_mul hP.n7 hP.n7
    omega)
  have h3 : (∃ F, TrO P F) → Cons P := fun ⟨F, hF⟩ => hF.cons hP.sym
  exact ⟨⟨fun h => h3 (h1 h), h2⟩, ⟨fun h => h1 (h2 h), h3⟩⟩
end Go.Pw
/- The plain mathematics of FnPermutations: two orientations give a model; the longest lists are greatest cliques. -/
namespace Go.Pw
open Go
/-- A strict linear order of the first n vertices. -/
structure LinO (n : Nat) (F : Nat → Nat → Bool) : Prop where
  lt : ∀ x y, F x y = true → x < n ∧ y < n
  tot : ∀ x y, x < n → y < n → x ≠ y → F x y = true ∨ F y x = true
  asym : ∀ x y, F x y = true → F y x = false
  tr : ∀ x y z, F x y = true → F y z = true → F x z = true
/-- Transitive orientations of a graph and of its complement make a linear order. -/
theorem lin_join {n : Nat} {E E' O H : Nat → Nat → Bool} (hE : Gph n E) (hE' : Gph n E') (hex : ∀ x y, E x y = true → E' x y = false) (hall : ∀ x y, x < n → y < n → x ≠ y → E x y = true ∨ E' x y = true)
    (hO : TrO E fun a b => O a b = true) (hH : TrO E' fun a b => H a b = true) : LinO n fun u v => H u v || O u v := by
  have sO : ∀ {a b}, O a b = true → E a b = true := fun h => hO.sub _ _ h
  have sH : ∀ {a b}, H a b = true → E' a b = true := fun h => hH.sub _ _ h
  have no : ∀ {a b}, E a b = true → E' a b = true → False := fun h1 h2 => by rw [hex _ _ h1] at h2; cases h2
  have no' : ∀ {a b}, E a b = true → E' b a = true → False := fun h1 h2 => no h1 (by rw [hE'.sym]; exact h2)
  have tot : ∀ x y, x < n → y < n → x ≠ y → (O x y = true ∨ O y x = true) ∨ H x y = true ∨ H y x = true := fun x y hx hy hne => by
    rcases hall x y hx hy hne with h | h
    · exact .inl (hO.all x y h)
    · exact .inr (hH.all x y h)
  have lt : ∀ x y, (H x y || O x y) = true → x < n ∧ y < n := fun x y h => by
    rcases (Bool.or_eq_true _ _).mp h with h | h
    · exact hE'.lt x y (sH h)
    · exact hE.lt x y (sO h)
  refine ⟨lt, fun x y hx hy hne => ?_, fun x y h => ?_, fun x y z h1 h2 => ?_⟩
  · rcases tot x y hx hy hne with (h | h) | h | h
    · exact .inl (by rw [h]; simp)
    · exact .inr (by rw [h]; simp)
    · exact .inl (by rw [h]; simp)
    · exact .inr (by rw [h]; simp)
  · cases hyx : (H y x || O y x) with
    | false => rfl
    | true =>
      exfalso
      rcases (Bool.or_eq_true _ _).mp h with h | h <;> rcases (Bool.or_eq_true _ _).mp hyx with h' | h'
      · exact hH.asym x y h h'
      · exact no' (sO h') (sH h)
      · exact no' (sO h) (sH h')
      · exact hO.asym x y h h'
  · have hx := (lt x y h1).1
    have hz := (lt y z h2).2
    rw [Bool.or_eq_true]
    rcases (Bool.or_eq_true _ _).mp h1 with h1 | h1 <;> rcases (Bool.or_eq_true _ _).mp h2 with h2 | h2
    · exact .inl (hH.tr _ _ _ h1 h2)
    · have hne : x ≠ z := fun e => by subst e; exact no' (sO h2) (sH h1)
      rcases tot x z hx hz hne with (h | h) | h | h
      · exact .inr h
      · exact (no' (sO (hO.tr _ _ _ h2 h)) (sH h1)).elim
      · exact .inl h
      · exact (no' (sO h2) (sH (hH.tr _ _ _ h h1))).elim
    · have hne : x ≠ z := fun e => by subst e; exact no' (sO h1) (sH h2)
      rcases tot x z hx hz hne with (h | h) | h | h
      · exact .inr h
      · exact (no' (sO (hO.tr _ _ _ h h1)) (sH h2)).elim
      · exact .inl h
      · exact (no' (sO h1) (sH (hH.tr _ _ _ h2 h))).elim
    · exact .inr (hO.tr _ _ _ h1 h2)
theorem TrO.back {E O : Nat → Nat → Bool} (hs : ∀ x y, E x y = E y x) (h : TrO E fun a b => O a b = true) : TrO E fun a b => O b a = true :=
  ⟨fun a b h1 => by rw [hs]; exact h.sub _ _ h1, fun a b h1 => (h.all a b h1).symm, fun a b h1 => h.asym b a h1, fun a b c h1 h2 => h.tr _ _ _ h2 h1⟩
/-- Ranks. -/
theorem LinO.rank {n : Nat} {F : Nat → Nat → Bool} (h : LinO n F) {v w : Nat} (hvw : F v w = true) : cU F v n < cU F w n := by
  obtain ⟨hv, hw⟩ := h.lt v w hvw
  have hvv : F v v = false := by
    cases hf : F v v with
    | false => rfl
    | true => have := h.asym v v hf; rw [hf] at this; cases this
  unfold cU
  exact filter_lt (fun u => F u v) (fun u => F u w) (List.range n) (fun x _ hx => h.tr _ _ _ hx hvw) ⟨v, List.mem_range.2 hv, hvw, hvv⟩
theorem LinO.rank_lt {n : Nat} {F : Nat → Nat → Bool} (h : LinO n F) {v : Nat} (hv : v < n) : cU F v n < n := cU_lt hv (by
  cases hf : F v v with
  | false => rfl
  | true => have := h.asym v v hf; rw [hf] at this; cases this)
theorem LinO.rank_inj {n : Nat} {F : Nat → Nat → Bool} (h : LinO n F) {v w : Nat} (hv : v < n) (hw : w < n) (e : cU F v n = cU F w n) : v = w := by
  apply Classical.byContradiction
  intro hne
  rcases h.tot v w hv hw hne with h1 | h1
  · have := h.rank h1; omega
  · have := h.rank h1; omega
theorem LinO.at {n : Nat} {F : Nat → Nat → Bool} (h : LinO n F) : ∀ k, k ≤ n → ∀ v, v < k → (ordU n F k).getD (cU F v n) 0 = (v : Int)
  | 0, _, v, hv => by omega
  | k + 1, hk, v, hv => by
    have hl := ordU_len n F k
    rw [ordU]
    by_cases e : v = k
    · subst e
      have := h.rank_lt (v := v) (by omega)
      simp [List.getD, List.getElem?_set, hl, this]
    · have hne : cU F k n ≠ cU F v n := fun e' => e (h.rank_inj (by omega) (by omega) e'.symm)
      have := h.at k (by omega) v (by omega)
      simp only [List.getD, List.getElem?_set] at this ⊢
      rw [if_neg hne]; exact this
theorem LinO.hit {n : Nat} {F : Nat → Nat → Bool} (h : LinO n F) {i : Nat} (hi : i < n) : ∃ v, v < n ∧ cU F v n = i := by
  have hl : ((List.range n).map fun v => ((cU F v n : Nat) : Int)).length = n := by simp
  have hget : ∀ v, v < n → ((List.range n).map fun v => ((cU F v n : Nat) : Int)).getD v 0 = ((cU F v n : Nat) : Int) := fun v hv => by simp [List.getD, hv]
  have hm := order_mem (l := (List.range n).map fun v => ((cU F v n : Nat) : Int)) (n := n) (fun v hv => by
    rw [hl] at hv
    rw [hget v hv]
    have := h.rank_lt hv
    omega) (fun v hv w hw e => by
    rw [hl] at hv
    rw [hget v hv, hget w (by omega)] at e
    have := h.rank_inj (v := w) (w := v) (by omega) hv (by omega)
    omega) hl i hi
  obtain ⟨v, hv, e⟩ := List.mem_map.1 hm
  exact ⟨v, List.mem_range.1 hv, by omega⟩
/-- The order that the ranks give. -/
theorem LinO.order {n : Nat} {F : Nat → Nat → Bool} (h : LinO n F) {rows : List Int} (hg : IsG n rows) : orderP n rows (ordU n F n) ∧ ∀ v, v < n → placeL (ordU n F n) v = (cU F v n : Nat) := by
  have hl := ordU_len n F n
  have hat := h.at n (Nat.le_refl _)
  have hap : apartL (ordU n F n) := fun i hi j hj e => by
    rw [hl] at hi
    obtain ⟨v, hv, rfl⟩ := h.hit hi
    obtain ⟨w, hw, rfl⟩ := h.hit (show j < n by omega)
    rw [hat v hv, hat w hw] at e
    have : w = v := by omega
    subst this
    omega
  refine ⟨⟨⟨hg, fun i hi => ?_, hap⟩, by rw [hl]⟩, fun v hv => ?_⟩
  · rw [hl] at hi
    obtain ⟨v, hv, rfl⟩ := h.hit hi
    rw [hat v hv]
    omega
  · have := placeL_at hap (k := cU F v n) (by rw [hl]; exact h.rank_lt hv)
    rwa [hat v hv] at this
theorem LinO.place {n : Nat} {F : Nat → Nat → Bool} (h : LinO n F) {rows : List Int} (hg : IsG n rows) {v u : Nat} (hv : v < n) (hu : u < n) (hne : v ≠ u) : decide (placeL (ordU n F n) v < placeL (ordU n F n) u) = F v u := by
  obtain ⟨_, hp⟩ := h.order hg
  rw [hp v hv, hp u hu]
  cases hf : F v u with
  | true => exact decide_eq_true (by have := h.rank hf; omega)
  | false =>
    rcases h.tot v u hv hu hne with h1 | h1
    · rw [hf] at h1; cases h1
    · exact decide_eq_false (by have := h.rank h1; omega)
/-- A graph's bits. -/
theorem bits_gph {rows : List Int} {n : Nat} (hg : IsG n rows) : Gph n (bitsP rows) := by
  obtain ⟨m, hm, hrl, h1, h7⟩ := isG_size hg
  obtain rfl : n = m := by omega
  refine ⟨h1, h7, bits_sym hg, bits_irr hg, fun x y h => ?_⟩
  unfold bitsP at h
  rw [Bool.and_eq_true, decide_eq_true_iff] at h
  omega
theorem bits_has {rows : List Int} {n : Nat} (hg : IsG n rows) {x y : Nat} (hx : x < n) (hy : y < n) : bitsP rows x y = hasB (rows.getD x 0) (y : Int) := by
  obtain ⟨m, hm, hrl, h1, h7⟩ := isG_size hg
  unfold bitsP
  rw [decide_eq_true ⟨by omega, by omega⟩]; rfl
theorem ori_tr {rows : List Int} {n : Nat} (hg : IsG n rows) (h : (oriX n rows).isSome = true) : TrO (bitsP rows) fun a b => oriQ n rows a b = true := by
  obtain ⟨O, hO⟩ := Option.isSome_iff_exists.1 h
  have hq : oriQ n rows = O := by unfold oriQ; rw [hO]; rfl
  obtain ⟨m, hm, hrl, _, _⟩ := isG_size hg
  unfold oriX at hO
  rw [if_pos hg, show rows.length = n by omega] at hO
  obtain ⟨T, hT, hTO⟩ := oriF_tr 50 (bits_gph hg) hO
  rw [hq]
  have e : (fun a b => O a b = true) = T := by
    funext a b
    exact propext ⟨fun h => ((hTO a b).1 h).resolve_left (by simp), fun h => (hTO a b).2 (.inr h)⟩
  rw [e]; exact hT
theorem ori_some {rows : List Int} {n : Nat} (hg : IsG n rows) (F : Nat → Nat → Prop) (hF : TrO (bitsP rows) F) : (oriX n rows).isSome = true := by
  obtain ⟨m, hm, hrl, _, _⟩ := isG_size hg
  unfold oriX
  rw [if_pos hg, show rows.length = n by omega]
  obtain ⟨h1, h2⟩ := oriF_iff (bits_gph hg)
  exact h1.2 (h2.2 ⟨F, hF⟩)
theorem hasB_eNg {rows : List Int} {n : Nat} (hg : IsG n rows) (x y : Nat) (hy : y < n) : hasB (rows.getD x 0) (y : Int) = eN (rowN rows) x y := by
  have hr := ng_of hg rfl
  have h7 := pow_le7 hr.le
  have := hr.lt x
  have := hr.le
  rw [rowN_eq hg x, hasB_nat (by omega) (by omega)]; rfl
theorem bar_bits {rows : List Int} {n : Nat} (hg : IsG n rows) {x y : Nat} (hx : x < n) (hy : y < n) : bitsP (barL n rows) x y = (!bitsP rows x y && decide (x ≠ y)) := by
  have hb := bar_isG hg
  rw [bits_has hb hx hy, bits_has hg hx hy, hasB_eNg hb x y hy, hasB_eNg hg x y hy, bar_eN hg rfl hx hy]; rfl
/-- The model found is one. -/
theorem pm_good {rows : List Int} {n : Nat} (h : pmOk n rows = true) : pmodP n rows (pmA n rows) (pmB n rows) := by
  have hf := pm_facts h
  have hg := hf.isG
  have hz : barZ n rows = n := by unfold barZ; rw [if_pos hg]
  have hb := bar_isG hg
  have h2 := hf.two
  rw [hz] at h2
  obtain ⟨m, hm, hrl, _, _⟩ := isG_size hg
  have hrl' : rows.length = n := by omega
  have tO := ori_tr hg hf.one
  have tH := ori_tr hb h2
  have gE := bits_gph hg
  have gE' := bits_gph hb
  have hex : ∀ x y, bitsP rows x y = true → bitsP (barL n rows) x y = false := fun x y hxy => by
    obtain ⟨hx, hy⟩ := gE.lt x y hxy
    rw [bar_bits hg hx hy, hxy]; rfl
  have hall : ∀ x y, x < n → y < n → x ≠ y → bitsP rows x y = true ∨ bitsP (barL n rows) x y = true := fun x y hx hy hne => by
    rw [bar_bits hg hx hy]
    cases bitsP rows x y with
    | true => exact .inl rfl
    | false => exact .inr (by simp [hne])
  have eA : pmA n rows = ordU n (fun u v => oriQ n (barL n rows) u v || oriQ n rows u v) n := by
    unfold pmA
    rw [if_pos h, hrl']
    congr 1
    funext u v
    unfold pmFA; rw [hz]
  have eB : pmB n rows = ordU n (fun u v => oriQ n (barL n rows) u v || oriQ n rows v u) n := by
    unfold pmB
    rw [if_pos h, hrl']
    congr 1
    funext u v
    unfold pmFB; rw [hz]
  have lA := lin_join gE gE' hex hall tO tH
  have lB := lin_join (O := fun a b => oriQ n rows b a) gE gE' hex hall (TrO.back gE.sym tO) tH
  rw [eA, eB]
  refine ⟨(lA.order hg).1, (lB.order hg).1, fun v hv u hu => ?_⟩
  rw [hrl'] at hv
  have hun : u < n := by omega
  unfold turnQ
  rw [lA.place hg hv hun (by omega), lB.place hg hv hun (by omega), ← bits_has hg hv hun]
  have sO : ∀ {a b}, oriQ n rows a b = true → bitsP rows a b = true := fun h => tO.sub _ _ h
  have sH : ∀ {a b}, oriQ n (barL n rows) a b = true → bitsP (barL n rows) a b = true := fun h => tH.sub _ _ h
  cases hvu : bitsP rows v u with
  | true =>
    have n1 : oriQ n (barL n rows) v u = false := by
      cases hq : oriQ n (barL n rows) v u with
      | false => rfl
      | true => have := sH hq; rw [hex v u hvu] at this; cases this
    rw [n1, Bool.false_or, Bool.false_or]
    rcases tO.all v u hvu with h1 | h1
    · have h3 : oriQ n rows u v = false := by
        cases hq : oriQ n rows u v with
        | false => rfl
        | true => exact (tO.asym v u h1 hq).elim
      rw [h1, h3]; rfl
    · have h3 : oriQ n rows v u = false := by
        cases hq : oriQ n rows v u with
        | false => rfl
        | true => exact (tO.asym v u hq h1).elim
      rw [h1, h3]; rfl
  | false =>
    have n1 : oriQ n rows v u = false := by
      cases hq : oriQ n rows v u with
      | false => rfl
      | true => have := sO hq; rw [hvu] at this; cases this
    have n2 : oriQ n rows u v = false := by
      cases hq : oriQ n rows u v with
      | false => rfl
      | true => have := sO hq; rw [bits_sym hg, hvu] at this; cases this
    rw [n1, n2, Bool.or_false]
    cases oriQ n (barL n rows) v u <;> rfl
/-- The graph of a permutation is one with a model. -/
theorem gp_seen {p : List Int} {a b : Nat} (hb : b < p.length) (hab : a < b) : seenP (gpJ p) p.length 0 a b = fallF p a b ∧ seenP (gpJ p) p.length 0 b a = fallF p a b := by
  have h1 : bef p.length 0 a b = true := decide_eq_true (.inl hb)
  have h2 : decide (a < b) = true := decide_eq_true hab
  have h3 : decide (b < a) = false := decide_eq_false (by omega)
  unfold seenP
  rw [h1, h2, h3]
  simp [gpJ, fallF]
theorem gp_graph {p : List Int} (h : permP p) : gpZ p = p.length ∧ IsG (p.length : Int) (gpL p) ∧ ∀ a b, a < b → b < p.length → bitsP (gpL p) a b = fallF p a b := by
  have l1 : 1 ≤ p.length := by have := h.1; omega
  have l7 : p.length ≤ 7 := by have := h.1; omega
  have e1 : gpL p = gRows p.length (seenP (gpJ p) p.length 0) := if_pos h
  have hg : IsG (p.length : Int) (gpL p) := by rw [e1]; exact gRows_isG l1 l7 (fun i u => seenP_sym _ _ _ _ _) (fun i => seenP_irr _ _ _ _)
  refine ⟨if_pos h, hg, fun a b hab hb => ?_⟩
  rw [bits_has hg (by omega) hb, e1, gRows_has l7 _ (by omega) hb]
  exact (gp_seen hb hab).1
theorem perm_ne {p : List Int} (h : permP p) {a b : Nat} (hab : a < b) (hb : b < p.length) : p.getD a 0 ≠ p.getD b 0 := h.2.2 b hb a hab
theorem gp_model {p : List Int} (h : permP p) : pmOk (gpZ p) (gpL p) = true := by
  obtain ⟨hz, hg, hE⟩ := gp_graph h
  rw [hz]
  have hbz : barZ (p.length : Int) (gpL p) = p.length := by unfold barZ; rw [if_pos hg]
  have hb := bar_isG hg
  have gE := bits_gph hg
  have gE' := bits_gph hb
  unfold pmOk
  rw [hbz, Bool.and_eq_true]
  constructor
  · refine ori_some hg (fun a b => a < b ∧ bitsP (gpL p) a b = true) ⟨fun a b h => h.2, fun a b hab => ?_, fun a b h1 h2 => by omega, fun a b c h1 h2 => ?_⟩
    · rcases Nat.lt_trichotomy a b with h1 | rfl | h1
      · exact .inl ⟨h1, hab⟩
      · rw [gE.irr] at hab; cases hab
      · exact .inr ⟨h1, by rw [gE.sym]; exact hab⟩
    · obtain ⟨h3, h4⟩ := h1
      obtain ⟨h5, h6⟩ := h2
      have hc := (gE.lt _ _ h6).2
      rw [hE a b h3 (by omega)] at h4
      rw [hE b c h5 hc] at h6
      refine ⟨by omega, ?_⟩
      rw [hE a c (by omega) hc]
      unfold fallF at *
      simp only [decide_eq_true_eq] at *
      omega
  · refine ori_some hb (fun a b => a < b ∧ bitsP (barL p.length (gpL p)) a b = true) ⟨fun a b h => h.2, fun a b hab => ?_, fun a b h1 h2 => by omega, fun a b c h1 h2 => ?_⟩
    · rcases Nat.lt_trichotomy a b with h1 | rfl | h1
      · exact .inl ⟨h1, hab⟩
      · rw [gE'.irr] at hab; cases hab
      · exact .inr ⟨h1, by rw [gE'.sym]; exact hab⟩
    · obtain ⟨h3, h4⟩ := h1
      obtain ⟨h5, h6⟩ := h2
      have hc := (gE'.lt _ _ h6).2
      rw [bar_bits hg (by omega) (by omega), hE a b h3 (by omega)] at h4
      rw [bar_bits hg (by omega) hc, hE b c h5 hc] at h6
      refine ⟨by omega, ?_⟩
      rw [bar_bits hg (by omega) hc, hE a c (by omega) hc]
      have n1 := perm_ne h h3 (by omega)
      have n2 := perm_ne h h5 hc
      unfold fallF at *
      simp only [Bool.and_eq_true, Bool.not_eq_true', decide_eq_true_eq, decide_eq_false_iff_not] at *
      omega
/-- The members of a set in ascending order. -/
theorem listS_facts {X : Nat} (hX : X < 128) : (listS (X : Int)).Pairwise (fun a b => a < b) ∧ (∀ x : Nat, (x : Int) ∈ listS (X : Int) ↔ X.testBit x = true) ∧ (∀ y ∈ listS (X : Int), 0 ≤ y ∧ y < 7) ∧ (listS (X : Int)).length = cntN X := by
  have hl := listS_nat hX
  refine ⟨listS_pair X hX, fun x => ?_, fun y hy => ?_, by rw [hl, List.length_map]; rfl⟩
  · rw [hl, List.mem_map]
    constructor
    · rintro ⟨v, hv, e⟩
      have : v = x := Int.ofNat.inj e
      subst this
      exact (List.mem_filter.1 hv).2
    · intro h
      exact ⟨x, List.mem_filter.2 ⟨List.mem_range.2 (has_lt (n := 7) (by omega) h), h⟩, rfl⟩
  · rw [hl, List.mem_map] at hy
    obtain ⟨v, hv, rfl⟩ := hy
    have := List.mem_range.1 (List.mem_filter.1 hv).1
    exact ⟨by simp, by simp; omega⟩
theorem pair_get {l : List Int} (h : l.Pairwise (fun a b => a < b)) {i j : Nat} (hij : i < j) (hj : j < l.length) : l.getD i 0 < l.getD j 0 := by
  have := List.pairwise_iff_getElem.1 h i j (by omega) hj hij
  simpa [List.getD, hj, show i < l.length by omega] using this
theorem setX_list {X : Nat} (hX : X < 128) : setX (listS (X : Int)) = X ∧ okS (listS (X : Int)) := by
  obtain ⟨h1, h2, h3, h4⟩ := listS_facts hX
  have hok : okS (listS (X : Int)) := ⟨fun i hi => by have := h3 _ (getD_mem hi); omega, fun i hi j hj e => by have := pair_get h1 hj hi; omega⟩
  refine ⟨?_, hok⟩
  obtain ⟨S, e1, e2, e3⟩ := setU_nat (listS (X : Int)) (listS (X : Int)).length (fun i hi => by have := h3 _ (getD_mem hi); omega) hok.2
  unfold setX
  rw [if_pos hok, e1]
  congr 1
  apply Nat.eq_of_testBit_eq
  intro x
  by_cases hx : x ≤ 63
  · rw [Bool.eq_iff_iff, e3 x hx, ← h2 x]
    constructor
    · rintro ⟨i, hi, e⟩; rw [← e]; exact getD_mem hi
    · intro h
      obtain ⟨i, hi, e⟩ := mem_getD h
      exact ⟨i, hi, e⟩
  · have : ∀ Y : Nat, Y < 128 → Y.testBit x = false := fun Y hY => by
      cases h : Y.testBit x with
      | false => rfl
      | true => have := has_lt (n := 7) (by omega) h; omega
    rw [this S e2, this X hX]
/-- The first of the longest lists: its members stand in the relation, and there are no more of such. -/
theorem long_facts {R : Nat → Nat → Bool} {n : Nat} (hn1 : 1 ≤ n) (hn7 : n ≤ 7) (hR : ∀ a b c, a < b → b < c → c < n → R a b = true → R b c = true → R a c = true) :
    ∃ X : Nat, 0 < X ∧ X < 2 ^ n ∧ lspB R (2 ^ n) = listS (X : Int) ∧ (∀ x y, X.testBit x = true → X.testBit y = true → x < y → R x y = true) ∧ ∀ C : Nat, C < 2 ^ n → (∀ x y, C.testBit x = true → C.testBit y = true → x < y → R x y = true) → cntN C ≤ cntN X := by
  have h7 := pow_le7 hn7
  obtain ⟨s1, s2⟩ := lspB_spec R (2 ^ n)
  have hadj : ∀ C : Nat, C < 2 ^ n → (∀ x y, C.testBit x = true → C.testBit y = true → x < y → R x y = true) → adjF R (listS (C : Int)) := fun C hC h i hi => by
    obtain ⟨f1, f2, f3, f4⟩ := listS_facts (show C < 128 by omega)
    have m1 := getD_mem (l := listS (C : Int)) (k := i) (by omega)
    have m2 := getD_mem (l := listS (C : Int)) (k := i + 1) hi
    have b1 := f3 _ m1
    have b2 := f3 _ m2
    have hlt := pair_get f1 (show i < i + 1 by omega) hi
    refine h _ _ ((f2 _).1 ?_) ((f2 _).1 ?_) (by omega)
    · rw [Int.toNat_of_nonneg b1.1]; exact m1
    · rw [Int.toNat_of_nonneg b2.1]; exact m2
  have hpow : ∀ x, x < n → (2 ^ x) < 2 ^ n := fun x hx => Nat.pow_lt_pow_right (by omega) hx
  have hne : lspB R (2 ^ n) ≠ [] := fun e => by
    have h0 : (2 : Nat) ^ 0 < 2 ^ n := hpow 0 (by omega)
    have := s2 1 (by omega) h0 (hadj 1 h0 fun x y hx hy hxy => by
      have ex : x = 0 := by
        have := has_lt (s := 1) (n := 1) (by decide) hx; omega
      have ey : y = 0 := by
        have := has_lt (s := 1) (n := 1) (by decide) hy; omega
      omega)
    rw [e] at this
    have hl : (listS ((1 : Nat) : Int)).length = cntN 1 := (listS_facts (by omega)).2.2.2
    have h1 : cntN 1 = 1 := by decide
    exact this (.inl (by rw [hl, h1]; exact Nat.zero_lt_one))
  rcases s1 with h | ⟨X, x1, x2, x3, x4⟩
  · exact absurd h hne
  obtain ⟨f1, f2, f3, f4⟩ := listS_facts (show X < 128 by omega)
  refine ⟨X, x1, x2, x4, fun x y hx hy hxy => ?_, fun C hC h => ?_⟩
  · obtain ⟨i, hi, ei⟩ := mem_getD ((f2 x).2 hx)
    obtain ⟨j, hj, ej⟩ := mem_getD ((f2 y).2 hy)
    have hij : i < j := by
      refine Classical.byContradiction fun hn => ?_
      rcases Nat.lt_or_ge j i with h1 | h1
      · have := pair_get f1 h1 hi; omega
      · have : i = j := by omega
        subst this; omega
    have key : ∀ d, i + d + 1 < (listS (X : Int)).length → R ((listS (X : Int)).getD i 0).toNat ((listS (X : Int)).getD (i + d + 1) 0).toNat = true := by
      intro d
      induction d with
      | zero => intro hd; exact x3 i hd
      | succ d ih =>
        intro hd
        have h1 := ih (by omega)
        have h2 := x3 (i + d + 1) hd
        have l1 := pair_get f1 (show i < i + d + 1 by omega) (by omega)
        have l2 := pair_get f1 (show i + d + 1 < i + d + 1 + 1 by omega) hd
        have m0 := getD_mem (l := listS (X : Int)) (k := i) hi
        have m2 := getD_mem (l := listS (X : Int)) (k := i + d + 1 + 1) hd
        have b0 := f3 _ m0
        have b2 := f3 _ m2
        have hlt := has_lt x2 ((f2 ((listS (X : Int)).getD (i + d + 1 + 1) 0).toNat).1 (by rw [Int.toNat_of_nonneg b2.1]; exact m2))
        show R ((listS (X : Int)).getD i 0).toNat ((listS (X : Int)).getD (i + d + 1 + 1) 0).toNat = true
        have m1 := getD_mem (l := listS (X : Int)) (k := i + d + 1) (by omega)
        have b1 := f3 _ m1
        exact hR _ _ _ (by omega) (by omega) hlt h1 h2
    have := key (j - i - 1) (by omega)
    rw [show i + (j - i - 1) + 1 = j by omega, ei, ej] at this
    exact this
  · by_cases h0 : C = 0
    · subst h0
      have : cntN 0 = 0 := by decide
      omega
    · have := s2 C (by omega) hC (hadj C hC h)
      rw [x4] at this
      have hl : (listS (C : Int)).length = cntN C := (listS_facts (by omega)).2.2.2
      rw [← hl, ← f4]
      exact Nat.le_of_not_lt fun h => this (.inl h)
/-- What the law asks of the longest falling and rising lists. -/
structure LongOk (p l : List Int) (co : Bool) : Prop where
  ok : okS l
  set : if co = true then indepP p.length (gpL p) (setX l) else cliqueP p.length (gpL p) (setX l)
  top : (l.length : Int) = cntN (bestN (fun s => if co = true then decide (indepP p.length (gpL p) (s : Int)) else decide (cliqueP p.length (gpL p) (s : Int))) (2 ^ p.length))
theorem long_ok {p : List Int} (h : permP p) (co : Bool) : LongOk p (loL (if co = true then riseF else fallF) p) co := by
  obtain ⟨hz, hg, hE⟩ := gp_graph h
  have l1 : 1 ≤ p.length := by have := h.1; omega
  have l7 : p.length ≤ 7 := by have := h.1; omega
  have h7 := pow_le7 l7
  have hR : ∀ a b c, a < b → b < c → c < p.length → spF p (!co) a b = true → spF p (!co) b c = true → spF p (!co) a c = true := by
    intro a b c hab hbc hc h1 h2
    have n1 := perm_ne h hab (by omega)
    have n2 := perm_ne h hbc hc
    cases co with
    | false =>
      simp [spF] at h1 h2 ⊢
      simp only [List.getD] at n1 n2
      omega
    | true =>
      simp [spF] at h1 h2 ⊢
      simp only [List.getD] at n1 n2
      omega
  obtain ⟨X, x1, x2, x3, x4, x5⟩ := long_facts l1 l7 hR
  have el : loL (if co = true then riseF else fallF) p = listS (X : Int) := by
    rw [← x3]
    cases co with
    | false => exact (lspB_fall h).symm
    | true => exact (lspB_rise h).symm
  obtain ⟨f1, f2, f3, f4⟩ := listS_facts (show X < 128 by omega)
  obtain ⟨g1, g2⟩ := setX_list (show X < 128 by omega)
  rw [el]
  have eE : ∀ x y, x < y → y < p.length → eN (rowN (gpL p)) x y = fallF p x y := fun x y hxy hy => by rw [← hasB_eNg hg x y hy, ← bits_has hg (by omega) hy, hE x y hxy hy]
  have hs := eN_sym hg rfl
  -- sets of the law's kind are those whose pairs stand in the relation
  have kind : ∀ C : Nat, C < 2 ^ p.length → ((if co = true then decide (indepP p.length (gpL p) (C : Int)) else decide (cliqueP p.length (gpL p) (C : Int))) = true ↔ ∀ x y, C.testBit x = true → C.testBit y = true → x < y → spF p (!co) x y = true) := by
    intro C hC
    cases co with
    | false =>
      rw [if_neg Bool.false_ne_true, clique_om hg hC]
      constructor
      · intro hc x y hx hy hxy
        have := hc x y hx hy (by omega)
        rw [eE x y hxy (has_lt hC hy)] at this
        unfold spF fallF at *
        simpa using this
      · intro hc x y hx hy hne
        have key : ∀ x y, C.testBit x = true → C.testBit y = true → x < y → eN (rowN (gpL p)) x y = true := fun x y hx hy hxy => by
          rw [eE x y hxy (has_lt hC hy)]
          have := hc x y hx hy hxy
          unfold spF fallF at *
          simpa using this
        rcases Nat.lt_or_ge x y with h1 | h1
        · exact key x y hx hy h1
        · rw [hs]; exact key y x hy hx (by omega)
    | true =>
      rw [if_pos rfl, indep_om hg hC]
      constructor
      · intro hc x y hx hy hxy
        have := (coE_true.1 (hc x y hx hy (by omega))).1
        rw [eE x y hxy (has_lt hC hy)] at this
        unfold spF fallF at *
        simpa using this
      · intro hc x y hx hy hne
        have key : ∀ x y, C.testBit x = true → C.testBit y = true → x < y → eN (rowN (gpL p)) x y = false := fun x y hx hy hxy => by
          rw [eE x y hxy (has_lt hC hy)]
          have := hc x y hx hy hxy
          unfold spF fallF at *
          simpa using this
        refine coE_true.2 ⟨?_, hne⟩
        rcases Nat.lt_or_ge x y with h1 | h1
        · exact key x y hx hy h1
        · rw [hs]; exact key y x hy hx (by omega)
  have hX := (kind X x2).2 x4
  refine ⟨g2, ?_, ?_⟩
  · rw [g1]
    cases co with
    | false => exact of_decide_eq_true hX
    | true => exact of_decide_eq_true hX
  · rw [f4]
    congr 1
    obtain ⟨b1, b2⟩ := bestN_spec (fun s => if co = true then decide (indepP p.length (gpL p) (s : Int)) else decide (cliqueP p.length (gpL p) (s : Int))) (2 ^ p.length)
    have c1 := b2 X x2 hX
    have c2 : cntN (bestN (fun s => if co = true then decide (indepP p.length (gpL p) (s : Int)) else decide (cliqueP p.length (gpL p) (s : Int))) (2 ^ p.length)) ≤ cntN X := by
      rcases b1 with b1 | ⟨b1, b3⟩
      · rw [b1]
        have : cntN 0 = 0 := by decide
        omega
      · exact x5 _ b1 ((kind _ b1).1 b3)
    omega
end Go.Pw
