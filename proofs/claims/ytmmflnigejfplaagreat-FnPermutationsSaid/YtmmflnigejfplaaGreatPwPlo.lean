/- The plain mathematics of the first ones of the longest chains. -/
import Derived.Test.YtmmflnigejfplaaGreatPwPpe
import Derived.Test.YtmmflnigejfplaaGreatPwPqg
import Derived.Test.YtmmflnigejfplaaGreatPwPmo
namespace Go.Pw
open Go
/-- The order of words. -/
def lessL : List Int → List Int → Bool
  | [], [] => false
  | [], _ :: _ => true
  | _ :: _, [] => false
  | x :: a, y :: b => if x = y then lessL a b else decide (x < y)
theorem lessL_split : ∀ (c b a : List Int), lessL c b = true → lessL c a = true ∨ lessL a b = true
  | [], [], _, h => by simp [lessL] at h
  | [], _ :: _, [], _ => .inr rfl
  | [], _ :: _, _ :: _, _ => .inl rfl
  | _ :: _, [], _, h => by simp [lessL] at h
  | _ :: _, _ :: _, [], _ => .inr rfl
  | x :: c, y :: b, z :: a, h => by
    unfold lessL at h ⊢
    by_cases e1 : x = y
    · subst e1
      rw [if_pos rfl] at h
      by_cases e2 : x = z
      · subst e2; rw [if_pos rfl, if_pos rfl]; exact lessL_split c b a h
      · rw [if_neg e2, if_neg (fun e => e2 e.symm)]
        rcases Int.lt_or_gt_of_ne e2 with h1 | h1
        · exact .inl (decide_eq_true h1)
        · exact .inr (decide_eq_true h1)
    · rw [if_neg e1] at h
      have h := of_decide_eq_true h
      by_cases e2 : x = z
      · subst e2; right; rw [if_neg e1]; exact decide_eq_true h
      · rw [if_neg e2]
        rcases Int.lt_or_gt_of_ne e2 with h1 | h1
        · exact .inl (decide_eq_true h1)
        · right; rw [if_neg (by omega)]; exact decide_eq_true (by omega)
theorem lessL_tri : ∀ (a b : List Int), a.length = b.length → lessL a b = false → lessL b a = false → a = b
  | [], [], _, _, _ => rfl
  | [], _ :: _, h, _, _ => by simp at h
  | _ :: _, [], h, _, _ => by simp at h
  | x :: a, y :: b, h, h1, h2 => by
    unfold lessL at h1 h2
    by_cases e : x = y
    · subst e
      rw [if_pos rfl] at h1 h2
      rw [lessL_tri a b (by simpa using h) h1 h2]
    · rw [if_neg e] at h1
      rw [if_neg (fun e' => e e'.symm)] at h2
      have h1 := of_decide_eq_false h1
      have h2 := of_decide_eq_false h2
      omega
/-- Longer, or as long and before. -/
def bet (a b : List Int) : Prop := b.length < a.length ∨ (a.length = b.length ∧ lessL a b = true)
instance (a b : List Int) : Decidable (bet a b) := by unfold bet; infer_instance
theorem bet_split {c b : List Int} (a : List Int) (h : bet c b) : bet c a ∨ bet a b := by
  unfold bet at *
  rcases h with h | ⟨h1, h2⟩
  · by_cases e : a.length < c.length
    · exact .inl (.inl e)
    · exact .inr (.inl (by omega))
  · by_cases e : a.length = c.length
    · rcases lessL_split c b a h2 with h | h
      · exact .inl (.inr ⟨e.symm, h⟩)
      · exact .inr (.inr ⟨by omega, h⟩)
    · by_cases e2 : a.length < c.length
      · exact .inl (.inl e2)
      · exact .inr (.inl (by omega))
theorem bet_tri {a b : List Int} (h1 : ¬ bet a b) (h2 : ¬ bet b a) : a = b := by
  have hl : a.length = b.length := by
    unfold bet at h1 h2
    have := fun h => h1 (.inl h)
    have := fun h => h2 (.inl h)
    omega
  refine lessL_tri a b hl ?_ ?_
  · cases h : lessL a b with
    | false => rfl
    | true => exact (h1 (.inr ⟨hl, h⟩)).elim
  · cases h : lessL b a with
    | false => rfl
    | true => exact (h2 (.inr ⟨hl.symm, h⟩)).elim
/-- A chain behind a number. -/
def chQ (F : Nat → Nat → Bool) (n : Nat) : Nat → List Int → Prop
  | x, [] => x < n
  | x, y :: r => ∃ k : Nat, y = k ∧ x < k ∧ F x k = true ∧ chQ F n k r
def chS (F : Nat → Nat → Bool) (n i : Nat) (l : List Int) : Prop := ∃ r, l = (i : Int) :: r ∧ chQ F n i r
def isBest (F : Nat → Nat → Bool) (n : Nat) (B : List Int) : Prop := (∃ i, chS F n i B) ∧ ∀ i c, chS F n i c → ¬ bet c B
theorem isBest_uniq {F : Nat → Nat → Bool} {n : Nat} {A B : List Int} (ha : isBest F n A) (hb : isBest F n B) : A = B := by
  obtain ⟨⟨i, hi⟩, h1⟩ := ha
  obtain ⟨⟨j, hj⟩, h2⟩ := hb
  exact bet_tri (h2 i A hi) (h1 j B hj)
theorem chQ_lt {F : Nat → Nat → Bool} {n : Nat} : ∀ (r : List Int) (x : Nat), chQ F n x r → x < n
  | [], _, h => h
  | y :: r, x, h => by
    obtain ⟨k, _, h1, _, h2⟩ := h
    have := chQ_lt r k h2
    omega
theorem chQ_congr {F G : Nat → Nat → Bool} {n : Nat} (hFG : ∀ a b, a < b → b < n → F a b = G a b) : ∀ (r : List Int) (x : Nat), chQ F n x r → chQ G n x r
  | [], _, h => h
  | y :: r, x, h => by
    obtain ⟨k, h0, h1, h2, h3⟩ := h
    exact ⟨k, h0, h1, by rw [← hFG x k h1 (chQ_lt r k h3)]; exact h2, chQ_congr hFG r k h3⟩
theorem isBest_congr {F G : Nat → Nat → Bool} {n : Nat} (hFG : ∀ a b, a < b → b < n → F a b = G a b) {B : List Int} (h : isBest F n B) : isBest G n B := by
  obtain ⟨⟨i, r, hr, hi⟩, h1⟩ := h
  refine ⟨⟨i, r, hr, chQ_congr hFG r i hi⟩, fun j c hc => ?_⟩
  obtain ⟨s, hs, hj⟩ := hc
  exact h1 j c ⟨s, hs, chQ_congr (fun a b h2 h3 => (hFG a b h2 h3).symm) s j hj⟩
/-- The program's way: from behind. -/
def inB (F : Nat → Nat → Bool) (n i : Nat) (B : Nat → List Int) : Nat → List Int
  | 0 => [(i : Int)]
  | j + 1 => if F i (n - 1 - j) = true ∧ (inB F n i B j).length ≤ (B (n - 1 - j)).length + 1 then (i : Int) :: B (n - 1 - j) else inB F n i B j
def bsT (F : Nat → Nat → Bool) (n : Nat) : Nat → Nat → List Int
  | 0, _ => []
  | t + 1, x => if x = n - 1 - t then inB F n (n - 1 - t) (bsT F n t) t else bsT F n t x
def ouT (F : Nat → Nat → Bool) (n : Nat) : Nat → List Int
  | 0 => []
  | t + 1 => if (ouT F n t).length ≤ (bsT F n (t + 1) (n - 1 - t)).length then bsT F n (t + 1) (n - 1 - t) else ouT F n t
theorem bet_cons {x : Int} {a b : List Int} : bet (x :: a) (x :: b) ↔ bet a b := by
  have h : lessL (x :: a) (x :: b) = lessL a b := by rw [lessL, if_pos rfl]
  unfold bet; rw [h]; simp
theorem inB_spec {F : Nat → Nat → Bool} {n i : Nat} {B : Nat → List Int} (hi : i < n) (hB : ∀ x, i < x → x < n → chS F n x (B x) ∧ ∀ c, chS F n x c → ¬ bet c (B x)) : ∀ j, j ≤ n - 1 - i →
    chS F n i (inB F n i B j) ∧ (inB F n i B j = [(i : Int)] ∨ ∃ k : Nat, n - j ≤ k ∧ k < n ∧ inB F n i B j = (i : Int) :: B k) ∧
    ∀ c, chQ F n i c → (c = [] ∨ ∃ (k : Nat) (r : List Int), c = (k : Int) :: r ∧ n - j ≤ k) → ¬ bet ((i : Int) :: c) (inB F n i B j)
  | 0, _ => by
    refine ⟨⟨[], rfl, hi⟩, .inl rfl, fun c hc h => ?_⟩
    rcases h with rfl | ⟨k, r, rfl, hk⟩
    · unfold inB bet; simp [lessL]
    · obtain ⟨k', e, _, _, h4⟩ := hc
      have := chQ_lt r k' h4
      omega
  | j + 1, hj => by
    obtain ⟨h1, h2, h3⟩ := inB_spec hi hB j (by omega)
    have hk1 : i < n - 1 - j := by omega
    obtain ⟨b1, b2⟩ := hB (n - 1 - j) hk1 (by omega)
    unfold inB
    split
    · rename_i hc
      obtain ⟨hF, hl⟩ := hc
      obtain ⟨r, hr, hq⟩ := b1
      refine ⟨⟨B (n - 1 - j), rfl, by rw [hr]; exact ⟨n - 1 - j, rfl, hk1, hF, hq⟩⟩, .inr ⟨n - 1 - j, by omega, by omega, rfl⟩, fun c hc h => ?_⟩
      have hcur : ¬ bet (inB F n i B j) ((i : Int) :: B (n - 1 - j)) := by
        intro hb
        rcases h2 with h2 | ⟨k, hk, hkn, h2⟩
        · rw [h2] at hb
          unfold bet at hb
          rw [hr] at hb
          simp at hb
        · rw [h2] at hb hl
          obtain ⟨r', hr', _⟩ := (hB k (by omega) hkn).1
          rw [bet_cons, hr, hr'] at hb
          rw [hr, hr'] at hl
          unfold bet at hb
          simp only [List.length_cons] at hb hl
          rcases hb with hb | ⟨_, hb⟩
          · omega
          · unfold lessL at hb
            rw [if_neg (by omega)] at hb
            have := of_decide_eq_true hb
            omega
      intro hb
      by_cases hold : c = [] ∨ ∃ (k : Nat) (r : List Int), c = (k : Int) :: r ∧ n - j ≤ k
      · rcases bet_split (inB F n i B j) hb with h4 | h4
        · exact h3 c hc hold h4
        · exact hcur h4
      · rcases h with h | ⟨k, r2, hcr, hk⟩
        · exact hold (.inl h)
        · have hk2 : k = n - 1 - j := by
            apply Classical.byContradiction
            intro hne
            exact hold (.inr ⟨k, r2, hcr, by omega⟩)
          subst hk2
          rw [bet_cons] at hb
          refine b2 c ?_ hb
          subst hcr
          obtain ⟨k', e, _, _, h4⟩ := hc
          obtain rfl : k' = n - 1 - j := by omega
          exact ⟨r2, rfl, h4⟩
    · rename_i hc
      refine ⟨h1, ?_, fun c hcq h => ?_⟩
      · rcases h2 with h2 | ⟨k, hk, hkn, h2⟩
        · exact .inl h2
        · exact .inr ⟨k, by omega, hkn, h2⟩
      · intro hb
        by_cases hold : c = [] ∨ ∃ (k : Nat) (r : List Int), c = (k : Int) :: r ∧ n - j ≤ k
        · exact h3 c hcq hold hb
        · rcases h with h | ⟨k, r2, hcr, hk⟩
          · exact hold (.inl h)
          · have hk2 : k = n - 1 - j := by
              apply Classical.byContradiction
              intro hne
              exact hold (.inr ⟨k, r2, hcr, by omega⟩)
            subst hk2 hcr
            obtain ⟨k', e, _, hF, h4⟩ := hcq
            obtain rfl : k' = n - 1 - j := by omega
            have hl : (B (n - 1 - j)).length + 1 < (inB F n i B j).length := by
              apply Classical.byContradiction
              intro hl
              exact hc ⟨hF, by omega⟩
            have := b2 _ ⟨r2, rfl, h4⟩
            unfold bet at this hb
            simp only [List.length_cons] at this hb
            have h5 := fun h => this (.inl h)
            omega
theorem bsT_spec {F : Nat → Nat → Bool} {n : Nat} : ∀ t, t ≤ n → ∀ x, n - t ≤ x → x < n → chS F n x (bsT F n t x) ∧ ∀ c, chS F n x c → ¬ bet c (bsT F n t x)
  | 0, _, x, h1, h2 => by omega
  | t + 1, ht, x, h1, h2 => by
    have ih := bsT_spec (F := F) (n := n) t (by omega)
    unfold bsT
    by_cases hx : x = n - 1 - t
    · rw [if_pos hx]
      subst hx
      obtain ⟨a1, _, a3⟩ := inB_spec (F := F) (n := n) (i := n - 1 - t) (B := bsT F n t) (by omega) (fun y hy hyn => ih y (by omega) hyn) t (by omega)
      refine ⟨a1, fun c hc => ?_⟩
      obtain ⟨r, rfl, hq⟩ := hc
      refine a3 r hq ?_
      cases r with
      | nil => exact .inl rfl
      | cons y r =>
        obtain ⟨k, rfl, hk, _⟩ := hq
        exact .inr ⟨k, r, rfl, by omega⟩
    · rw [if_neg hx]
      exact ih x (by omega) h2
theorem bsT_keep {F : Nat → Nat → Bool} {n t : Nat} {x : Nat} (h : x ≠ n - 1 - t) : bsT F n (t + 1) x = bsT F n t x := by
  rw [bsT, if_neg h]
theorem bsT_new {F : Nat → Nat → Bool} {n t : Nat} : bsT F n (t + 1) (n - 1 - t) = inB F n (n - 1 - t) (bsT F n t) t := by
  rw [bsT, if_pos rfl]
theorem ouT_spec {F : Nat → Nat → Bool} {n : Nat} : ∀ t, t ≤ n → (t = 0 ∧ ouT F n t = [] ∨ ∃ i, n - t ≤ i ∧ chS F n i (ouT F n t)) ∧ ∀ i, n - t ≤ i → ∀ c, chS F n i c → ¬ bet c (ouT F n t)
  | 0, _ => by
    refine ⟨.inl ⟨rfl, rfl⟩, fun i hi c hc => ?_⟩
    obtain ⟨r, _, hq⟩ := hc
    have := chQ_lt r i hq
    omega
  | t + 1, ht => by
    obtain ⟨h1, h2⟩ := ouT_spec (F := F) (n := n) t (by omega)
    obtain ⟨b1, b2⟩ := bsT_spec (F := F) (n := n) (t + 1) ht (n - 1 - t) (by omega) (by omega)
    unfold ouT
    split
    · rename_i hl
      refine ⟨.inr ⟨n - 1 - t, by omega, b1⟩, fun i hi c hc hb => ?_⟩
      by_cases hit : i = n - 1 - t
      · subst hit; exact b2 c hc hb
      · rcases bet_split (ouT F n t) hb with h3 | h3
        · exact h2 i (by omega) c hc h3
        · obtain ⟨r, hr, _⟩ := b1
          rcases h1 with ⟨_, h1⟩ | ⟨i', hi', r', hr', _⟩
          · rw [h1] at h3
            unfold bet at h3
            rw [hr] at h3
            simp at h3
          · rw [hr, hr'] at h3
            rw [hr, hr'] at hl
            unfold bet at h3
            simp only [List.length_cons] at h3 hl
            rcases h3 with h3 | ⟨_, h3⟩
            · omega
            · unfold lessL at h3
              rw [if_neg (by omega)] at h3
              have := of_decide_eq_true h3
              omega
    · rename_i hl
      refine ⟨.inr ?_, fun i hi c hc hb => ?_⟩
      · rcases h1 with ⟨_, h1⟩ | ⟨i', hi', hr'⟩
        · rw [h1] at hl; simp at hl
        · exact ⟨i', by omega, hr'⟩
      · by_cases hit : i = n - 1 - t
        · subst hit
          have := b2 c hc
          unfold bet at this hb
          have h5 := fun h => this (.inl h)
          omega
        · exact h2 i (by omega) c hc hb
theorem ouT_best {F : Nat → Nat → Bool} {n : Nat} (hn : 1 ≤ n) : isBest F n (ouT F n n) := by
  obtain ⟨h1, h2⟩ := ouT_spec (F := F) (n := n) n (Nat.le_refl _)
  refine ⟨?_, fun i c hc => h2 i (by omega) c hc⟩
  rcases h1 with ⟨h1, _⟩ | ⟨i, _, h1⟩
  · omega
  · exact ⟨i, h1⟩
theorem chQ_len {F : Nat → Nat → Bool} {n : Nat} : ∀ (r : List Int) (x : Nat), chQ F n x r → r.length + x + 1 ≤ n
  | [], x, h => by have h : x < n := h; simp; omega
  | y :: r, x, h => by
    obtain ⟨k, _, h1, _, h2⟩ := h
    have := chQ_len r k h2
    simp only [List.length_cons]
    omega
theorem chS_len {F : Nat → Nat → Bool} {n i : Nat} {l : List Int} (h : chS F n i l) : l.length ≤ n := by
  obtain ⟨r, rfl, h⟩ := h
  have := chQ_len r i h
  simp only [List.length_cons]
  omega
theorem bsT_len {F : Nat → Nat → Bool} {n i k : Nat} (hi : i < n) (hk : i + 1 ≤ k) (hkn : k < n) : (bsT F n (n - (i + 1)) k).length ≤ n :=
  chS_len (bsT_spec (F := F) (n := n) (n - (i + 1)) (by omega) k (by omega) hkn).1
theorem inB_len {F : Nat → Nat → Bool} {n i j : Nat} (hi : i < n) (hj : j ≤ n - 1 - i) : (inB F n i (bsT F n (n - (i + 1))) j).length ≤ n :=
  chS_len (inB_spec (F := F) (n := n) (i := i) (B := bsT F n (n - (i + 1))) hi (fun x h1 h2 => bsT_spec (F := F) (n := n) (n - (i + 1)) (by omega) x (by omega) h2) j hj).1
theorem ouT_len {F : Nat → Nat → Bool} {n t : Nat} (ht : t ≤ n) : (ouT F n t).length ≤ n := by
  rcases (ouT_spec (F := F) (n := n) t ht).1 with ⟨_, h⟩ | ⟨i, _, h⟩
  · rw [h]; simp
  · exact chS_len h
/-- The reference's way: all sets. -/
def adjF (F : Nat → Nat → Bool) (l : List Int) : Prop := ∀ i, i + 1 < l.length → F (l.getD i 0).toNat (l.getD (i + 1) 0).toNat = true
instance (F : Nat → Nat → Bool) (l : List Int) : Decidable (adjF F l) := by
  unfold adjF
  exact decidable_of_iff (∀ i, i < l.length - 1 → F (l.getD i 0).toNat (l.getD (i + 1) 0).toNat = true) ⟨fun h i hi => h i (by omega), fun h i hi => h i (by omega)⟩
def lspB (F : Nat → Nat → Bool) : Nat → List Int
  | 0 => []
  | s + 1 => if 0 < s ∧ adjF F (listS (s : Nat)) ∧ bet (listS (s : Nat)) (lspB F s) then listS (s : Nat) else lspB F s
theorem lspB_spec (F : Nat → Nat → Bool) : ∀ s, (lspB F s = [] ∨ ∃ x : Nat, 0 < x ∧ x < s ∧ adjF F (listS (x : Nat)) ∧ lspB F s = listS (x : Nat)) ∧ ∀ x : Nat, 0 < x → x < s → adjF F (listS (x : Nat)) → ¬ bet (listS (x : Nat)) (lspB F s)
  | 0 => ⟨.inl rfl, fun x _ h => by omega⟩
  | s + 1 => by
    obtain ⟨h1, h2⟩ := lspB_spec F s
    unfold lspB
    split
    · rename_i hc
      refine ⟨.inr ⟨s, hc.1, by omega, hc.2.1, rfl⟩, fun x hx hxs ha hb => ?_⟩
      by_cases e : x = s
      · subst e
        unfold bet at hb
        rcases hb with hb | ⟨_, hb⟩
        · omega
        · rcases lessL_split _ _ (listS (x : Nat)) hb with h | h
          all_goals
            have irr : ∀ l : List Int, lessL l l = false := fun l => by
              induction l with
              | nil => rfl
              | cons y l ih => unfold lessL; rw [if_pos rfl]; exact ih
            rw [irr] at h; cases h
      · rcases bet_split (lspB F s) hb with h | h
        · exact h2 x hx (by omega) ha h
        · have h3 := hc.2.2
          unfold bet at h h3
          have asym : ∀ a b : List Int, lessL a b = true → lessL b a = true → False := by
            intro a
            induction a with
            | nil => intro b h1 h2; cases b <;> simp [lessL] at h1 h2
            | cons y a ih =>
              intro b h1 h2
              cases b with
              | nil => simp [lessL] at h1
              | cons z b =>
                unfold lessL at h1 h2
                by_cases e : y = z
                · subst e; rw [if_pos rfl] at h1 h2; exact ih b h1 h2
                · rw [if_neg e] at h1; rw [if_neg (fun e' => e e'.symm)] at h2
                  have := of_decide_eq_true h1
                  have := of_decide_eq_true h2
                  omega
          rcases h with h | ⟨h4, h⟩
          · rcases h3 with h3 | ⟨h5, h3⟩ <;> omega
          · rcases h3 with h3 | ⟨h5, h3⟩
            · omega
            · exact asym _ _ h h3
    · rename_i hc
      refine ⟨?_, fun x hx hxs ha hb => ?_⟩
      · rcases h1 with h1 | ⟨x, hx, hxs, ha, h1⟩
        · exact .inl h1
        · exact .inr ⟨x, hx, by omega, ha, h1⟩
      · by_cases e : x = s
        · subst e; exact hc ⟨hx, ha, hb⟩
        · exact h2 x hx (by omega) ha hb
theorem listS_pair (S : Nat) (hS : S < 128) : (listS (S : Int)).Pairwise (fun a b => a < b) := by
  rw [listS_nat hS]
  refine List.Pairwise.map _ (fun a b h => ?_) (List.Pairwise.sublist (List.filter_sublist) (List.pairwise_lt_range (n := 7)))
  exact Int.ofNat_lt.2 h
theorem chQ_of_adj {F : Nat → Nat → Bool} {n : Nat} : ∀ (r : List Int) (x : Nat), ((x : Int) :: r).Pairwise (fun a b => a < b) → (∀ y ∈ (x : Int) :: r, 0 ≤ y ∧ y < n) → adjF F ((x : Int) :: r) → chQ F n x r
  | [], x, _, h, _ => by have := h x (List.mem_cons_self ..); show x < n; omega
  | y :: r, x, hp, h, ha => by
    have hy := h y (List.mem_cons_of_mem _ (List.mem_cons_self ..))
    obtain ⟨k, hk⟩ : ∃ k : Nat, y = k := ⟨y.toNat, by omega⟩
    subst hk
    have hp' := List.pairwise_cons.1 hp
    have h1 := hp'.1 (k : Int) (List.mem_cons_self ..)
    refine ⟨k, rfl, by omega, ?_, chQ_of_adj r k hp'.2 (fun z hz => h z (List.mem_cons_of_mem _ hz)) fun i hi => ?_⟩
    · have := ha 0 (by simp)
      simpa [List.getD] using this
    · have := ha (i + 1) (by simp at hi ⊢; omega)
      simpa [List.getD] using this
theorem adj_of_chQ {F : Nat → Nat → Bool} {n : Nat} : ∀ (r : List Int) (x : Nat), chQ F n x r → ((x : Int) :: r).Pairwise (fun a b => a < b) ∧ (∀ y ∈ (x : Int) :: r, (x : Int) ≤ y ∧ y < n) ∧ adjF F ((x : Int) :: r)
  | [], x, h => by
    refine ⟨List.pairwise_singleton _ _, fun y hy => ?_, fun i hi => by simp at hi⟩
    have h : x < n := h
    rw [List.mem_singleton] at hy; omega
  | y :: r, x, h => by
    obtain ⟨k, rfl, h1, h2, h3⟩ := h
    obtain ⟨a1, a2, a3⟩ := adj_of_chQ r k h3
    have hk := chQ_lt r k h3
    refine ⟨List.pairwise_cons.2 ⟨fun z hz => ?_, a1⟩, fun z hz => ?_, fun i hi => ?_⟩
    · have := a2 z hz; omega
    · rcases List.mem_cons.1 hz with rfl | hz
      · omega
      · have := a2 z hz; omega
    · cases i with
      | zero => simpa [List.getD] using h2
      | succ i =>
        have := a3 i (by simp at hi ⊢; omega)
        simpa [List.getD] using this
theorem ch_set {c : List Int} {n : Nat} (hn : n ≤ 7) (hp : c.Pairwise (fun a b => a < b)) (hr : ∀ y ∈ c, 0 ≤ y ∧ y < n) (h0 : c ≠ []) : ∃ S : Nat, 0 < S ∧ S < 2 ^ n ∧ listS (S : Int) = c := by
  refine ⟨maskU (fun v => decide ((v : Int) ∈ c)) n, ?_, maskU_lt _ n, ?_⟩
  · cases c with
    | nil => exact absurd rfl h0
    | cons x r =>
      have hx := hr x (List.mem_cons_self ..)
      obtain ⟨k, rfl⟩ : ∃ k : Nat, x = k := ⟨x.toNat, by omega⟩
      have : (maskU (fun v => decide ((v : Int) ∈ (k : Int) :: r)) n).testBit k = true := by
        rw [maskU_bit]; simp; omega
      apply Nat.pos_of_ne_zero
      intro e
      rw [e] at this
      simp at this
  · have h7 : 2 ^ n ≤ 2 ^ 7 := Nat.pow_le_pow_right (by omega) hn
    have hlt := maskU_lt (fun v => decide ((v : Int) ∈ c)) n
    have hS : maskU (fun v => decide ((v : Int) ∈ c)) n < 128 := by omega
    have hpS := listS_pair _ hS
    have nd : ∀ l : List Int, l.Pairwise (fun a b => a < b) → l.Nodup := fun l h => List.Pairwise.imp (fun h => by omega) h
    refine perm_sorted_eq _ _ (perm_of_mem (nd _ hpS) (nd _ hp) fun x => ?_) (List.Pairwise.imp (fun h => by omega) hpS) (List.Pairwise.imp (fun h => by omega) hp)
    rw [mem_listS]
    constructor
    · rintro ⟨_, v, rfl, hv, hb⟩
      rw [hasB_nat (by omega) (by omega), maskU_bit] at hb
      simp at hb
      exact hb.2
    · intro hx
      have hxr := hr x hx
      refine ⟨⟨by omega, by omega⟩, x.toNat, by omega, by omega, ?_⟩
      rw [hasB_nat (by omega) (by omega), maskU_bit]
      have : ((x.toNat : Nat) : Int) = x := by omega
      simp [this, hx]; omega
theorem lspB_best {F : Nat → Nat → Bool} {n : Nat} (h1 : 1 ≤ n) (hn : n ≤ 7) : isBest F n (lspB F (2 ^ n)) := by
  obtain ⟨a1, a2⟩ := lspB_spec F (2 ^ n)
  have h7 : 2 ^ n ≤ 2 ^ 7 := Nat.pow_le_pow_right (by omega) hn
  have key : ∀ i c, chS F n i c → ¬ bet c (lspB F (2 ^ n)) := fun i c hc => by
    obtain ⟨r, rfl, hq⟩ := hc
    obtain ⟨p1, p2, p3⟩ := adj_of_chQ r i hq
    obtain ⟨S, s1, s2, s3⟩ := ch_set hn p1 (fun y hy => by have := p2 y hy; omega) (by simp)
    have := a2 S s1 s2 (by rw [s3]; exact p3)
    rw [s3] at this
    exact this
  refine ⟨?_, key⟩
  rcases a1 with a1 | ⟨x, hx, hxs, ha, a1⟩
  · exfalso
    refine key 0 [((0 : Nat) : Int)] ⟨[], rfl, show 0 < n by omega⟩ ?_
    rw [a1]; left; simp
  · rw [a1]
    have hp := listS_pair x (by omega)
    have hm : ∀ y ∈ listS (x : Int), 0 ≤ y ∧ y < n := fun y hy => by
      obtain ⟨_, v, rfl, hv, hb⟩ := mem_listS.1 hy
      rw [hasB_nat (by omega) (by omega)] at hb
      have := has_lt hxs hb
      omega
    have hne : listS (x : Int) ≠ [] := by
      intro e
      obtain ⟨v, hv⟩ := Nat.exists_testBit_of_ne_zero (x := x) (by omega)
      have hvn := has_lt hxs hv
      have : ((v : Nat) : Int) ∈ listS (x : Int) := mem_listS.2 ⟨⟨by omega, by omega⟩, v, rfl, by omega, by rw [hasB_nat (by omega) (by omega)]; exact hv⟩
      rw [e] at this; cases this
    cases hl : listS (x : Int) with
    | nil => exact absurd hl hne
    | cons y r =>
      rw [hl] at hp hm ha
      have hy := hm y (List.mem_cons_self ..)
      obtain ⟨k, rfl⟩ : ∃ k : Nat, y = k := ⟨y.toNat, by omega⟩
      exact ⟨k, r, rfl, chQ_of_adj r k hp hm ha⟩
def fallF (p : List Int) (i k : Nat) : Bool := decide (p.getD k 0 < p.getD i 0)
def riseF (p : List Int) (i k : Nat) : Bool := decide (p.getD i 0 < p.getD k 0)
def spF (p : List Int) (fal : Bool) (a b : Nat) : Bool := decide (p.getD b 0 < p.getD a 0) == fal
def loL (F : List Int → Nat → Nat → Bool) (p : List Int) : List Int := if permP p then ouT (F p) p.length p.length else []
theorem loL_len (F : List Int → Nat → Nat → Bool) (p : List Int) : (loL F p).length ≤ 7 := by
  unfold loL
  split
  · rename_i h
    have := ouT_len (F := F p) (Nat.le_refl p.length)
    have := h.1
    omega
  · simp
theorem lspB_ouT {F G : Nat → Nat → Bool} {n : Nat} (h1 : 1 ≤ n) (hn : n ≤ 7) (hFG : ∀ a b, a < b → b < n → F a b = G a b) : lspB F (2 ^ n) = ouT G n n :=
  isBest_uniq (isBest_congr hFG (lspB_best h1 hn)) (ouT_best h1)
theorem lspB_fall {p : List Int} (h : permP p) : lspB (spF p true) (2 ^ p.length) = loL fallF p := by
  unfold loL
  rw [if_pos h]
  have := h.1
  exact lspB_ouT (by omega) (by omega) fun a b _ _ => by unfold spF fallF; simp
theorem lspB_rise {p : List Int} (h : permP p) : lspB (spF p false) (2 ^ p.length) = loL riseF p := by
  unfold loL
  rw [if_pos h]
  have := h.1
  refine lspB_ouT (by omega) (by omega) fun a b h1 h2 => ?_
  have := h.2.2 b h2 a h1
  unfold spF riseF
  by_cases hc : p.getD b 0 < p.getD a 0
  · rw [decide_eq_true hc, decide_eq_false (by omega)]; rfl
  · rw [decide_eq_false hc, decide_eq_true (by omega)]; rfl
end Go.Pw
