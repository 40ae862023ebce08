/- The plain mathematics of FnThresholds: orders of threshold graphs, weights, no induced path of four, splits. -/
import Derived.Test.YtdenkbephkfifaaGreatPwPcx
import Derived.Test.YtdenkbephkfifaaGreatPwPwt
import Derived.Test.YtdenkbephkfifaaGreatPwPgp
import Derived.Test.YtdenkbephkfifaaGreatPwPor
import Derived.Test.YtdenkbephkfifaaGreatPwPfl
namespace Go.Pw
open Go
/-- An order in which each vertex is joined with all before it or with none. -/
def OrdP (n : Nat) (E : Nat → Nat → Bool) (o : List Int) (j : List Bool) : Prop := permP o ∧ o.length = n ∧ j.length = n ∧ ∀ i, i < n → ∀ k, k < i → E (o.getD i 0).toNat (o.getD k 0).toNat = j.getD i false
theorem thrQ_nat {size : Int} {rows : List Int} {n : Nat} (hg : IsG size rows) (hn : size = n) {S v : Nat} (hS : S < 2 ^ n) (hv : v < n) :
    thrQ rows (S : Int) v ↔ S.testBit v = true ∧ ((∀ x, S.testBit x = true → eN (rowN rows) v x = false) ∨ ∀ x, S.testBit x = true → x ≠ v → eN (rowN rows) v x = true) := by
  have hr := ng_of hg hn
  have h7 := pow_le7 hr.le
  have hn7 := hr.le
  have hlt := hr.lt v
  unfold thrQ
  rw [hasB_nat (by omega) (by omega), rowN_eq hg v, iand_nat (by omega) (by omega), ishl_one_nat (by omega)]
  have e0 : (((rowN rows v &&& S : Nat) : Int) = 0) ↔ ∀ x, S.testBit x = true → eN (rowN rows) v x = false := by
    rw [show (0 : Int) = ((0 : Nat) : Int) from rfl, Int.ofNat_inj]
    constructor
    · intro h x hx
      have := congrArg (fun y => Nat.testBit y x) h
      simp only [Nat.testBit_and, Nat.zero_testBit, hx, Bool.and_true] at this
      exact this
    · intro h
      apply Nat.eq_of_testBit_eq
      intro i
      rw [Nat.testBit_and, Nat.zero_testBit]
      cases hi : S.testBit i with
      | false => simp
      | true => have := h i hi; unfold eN at this; rw [this]; rfl
  refine and_congr_right fun hb => or_congr e0 ?_
  have hps := pow_sub hb
  have hle := sub_le hps
  rw [show (S : Int) - ((2 ^ v : Nat) : Int) = ((S - 2 ^ v : Nat) : Int) by omega, Int.ofNat_inj]
  constructor
  · intro h x hx hne
    have := congrArg (fun y => Nat.testBit y x) h
    simp only [Nat.testBit_and, hx, Bool.and_true] at this
    rw [sub_bit (by omega) hps, hx, Nat.testBit_two_pow, decide_eq_false (fun e => hne e.symm)] at this
    exact this
  · intro h
    apply Nat.eq_of_testBit_eq
    intro i
    rw [Nat.testBit_and, sub_bit (by omega) hps, Nat.testBit_two_pow]
    cases hi : S.testBit i with
    | false => simp
    | true =>
      by_cases e : i = v
      · subst e; rw [hr.irr i hv]; simp
      · have := h i hi e
        unfold eN at this
        rw [this, decide_eq_false (fun x => e x.symm)]; rfl
theorem getD_app_last {α : Type} (l : List α) (x d : α) : (l ++ [x]).getD l.length d = x := by simp [List.getD]
theorem getD_app_lt {α : Type} {l : List α} {i : Nat} (h : i < l.length) (x d : α) : (l ++ [x]).getD i d = l.getD i d := by
  simp [List.getD, h, List.getElem?_append_left]
/-- What the rounds leave behind. -/
theorem thrR_ord {size : Int} {rows : List Int} {n : Nat} (hg : IsG size rows) (hn : size = n) : ∀ (f S : Nat) (o : List Int) (j : List Bool) (o' : List Int) (j' : List Bool), S < 2 ^ n → o.length = j.length →
    (∀ i, i < o.length → ∀ x : Nat, (S.testBit x = true ∨ ∃ m, i < m ∧ m < o.length ∧ (o.getD m 0).toNat = x) → eN (rowN rows) (o.getD i 0).toNat x = j.getD i false) →
    (∀ x : Nat, x < n → S.testBit x = true ∨ (x : Int) ∈ o) → thrR rows f (S : Int) o j = some (o', j') →
    (∀ i, i < o'.length → ∀ m, i < m → m < o'.length → eN (rowN rows) (o'.getD i 0).toNat (o'.getD m 0).toNat = j'.getD i false) ∧ ∀ x : Nat, x < n → (x : Int) ∈ o'
  | 0, _, _, _, _, _, _, _, _, _, h => by simp [thrR] at h
  | f + 1, S, o, j, o', j', hS, hl, ho, hall, h => by
    have hng := ng_of hg hn
    have h7 := pow_le7 hng.le
    have hn7 := hng.le
    by_cases h0 : (S : Int) = 0
    · rw [h0, thrR_done] at h
      have h := Option.some.inj h
      have h1 := congrArg Prod.fst h
      have h2 := congrArg Prod.snd h
      dsimp only at h1 h2
      subst h1 h2
      have hz : S = 0 := by omega
      subst hz
      exact ⟨fun i hi m him hm => ho i hi _ (.inr ⟨m, him, hm, rfl⟩), fun x hx => (hall x hx).resolve_left (by simp)⟩
    · by_cases hb : bestU rows (S : Int) 7 < 0
      · rw [thrR_stop h0 hb] at h; cases h
      · rw [thrR_next h0 hb] at h
        obtain ⟨b1, b2, b3⟩ := bestU_range rows (S : Int) 7
        obtain ⟨v, hv⟩ := Int.eq_ofNat_of_zero_le (show 0 ≤ bestU rows (S : Int) 7 by omega)
        rw [hv] at h b2 b3
        have hq0 := b3 (by omega)
        rw [Int.toNat_natCast] at hq0
        have hq := hq0.1
        rw [hasB_nat (by omega) (by omega)] at hq
        have hvn := has_lt hS hq
        have hps := pow_sub hq
        have hle := sub_le hps
        have e : (S : Int) - ishl 1 (v : Int) = ((S - 2 ^ v : Nat) : Int) := by rw [ishl_one_nat (by omega)]; omega
        rw [e] at h
        have hbit : ∀ x, (S - 2 ^ v).testBit x = (S.testBit x && !decide (v = x)) := fun x => by rw [sub_bit (by omega) hps, Nat.testBit_two_pow]
        refine thrR_ord hg hn f (S - 2 ^ v) _ _ _ _ (Nat.lt_of_le_of_lt (Nat.sub_le _ _) hS) (by simp [hl]) (fun i hi x hx => ?_) (fun x hx => ?_) h
        · rw [List.length_append, List.length_singleton] at hi hx
          by_cases hil : i < o.length
          · rw [getD_app_lt hil, getD_app_lt (by omega)]
            refine ho i hil x ?_
            rcases hx with hx | ⟨m, m1, m2, m3⟩
            · rw [hbit] at hx
              exact .inl (by simp at hx; exact hx.1)
            · by_cases hml : m < o.length
              · rw [getD_app_lt hml] at m3
                exact .inr ⟨m, m1, hml, m3⟩
              · obtain rfl : m = o.length := by omega
                rw [getD_app_last] at m3
                rw [Int.toNat_natCast] at m3
                subst m3
                exact .inl hq
          · obtain rfl : i = o.length := by omega
            rw [getD_app_last, show (j ++ [decide (¬ iand (rows.getD ((v : Int)).toNat 0) (S : Int) = 0)]).getD o.length false = decide (¬ iand (rows.getD ((v : Int)).toNat 0) (S : Int) = 0) by rw [hl]; exact getD_app_last _ _ _, Int.toNat_natCast]
            rcases hx with hx | ⟨m, m1, m2, m3⟩
            · rw [hbit] at hx
              simp only [Bool.and_eq_true, Bool.not_eq_true', decide_eq_false_iff_not] at hx
              obtain ⟨hx1, hx2⟩ := hx
              have hz : iand (rows.getD v 0) (S : Int) = 0 ↔ ∀ x, S.testBit x = true → eN (rowN rows) v x = false := by
                have hlt := hng.lt v
                rw [rowN_eq hg v, iand_nat (by omega) (by omega), show (0 : Int) = ((0 : Nat) : Int) from rfl, Int.ofNat_inj]
                constructor
                · intro h x hx
                  have := congrArg (fun y => Nat.testBit y x) h
                  simp only [Nat.testBit_and, Nat.zero_testBit, hx, Bool.and_true] at this
                  exact this
                · intro h
                  apply Nat.eq_of_testBit_eq
                  intro i
                  rw [Nat.testBit_and, Nat.zero_testBit]
                  cases hi : S.testBit i with
                  | false => simp
                  | true => have := h i hi; unfold eN at this; rw [this]; rfl
              rcases ((thrQ_nat hg hn hS hvn).1 hq0).2 with h4 | h4
              · rw [show decide (¬ iand (rows.getD v 0) (S : Int) = 0) = false from decide_eq_false (fun hc => hc (hz.2 h4)), h4 x hx1]
              · have h5 := h4 x hx1 (fun e => hx2 e.symm)
                rw [show decide (¬ iand (rows.getD v 0) (S : Int) = 0) = true from decide_eq_true (fun hc => by rw [hz.1 hc x hx1] at h5; cases h5), h5]
            · omega
        · rw [hbit]
          rcases hall x hx with h1 | h1
          · by_cases e : v = x
            · subst e; exact .inr (List.mem_append_right _ (List.mem_singleton_self _))
            · exact .inl (by rw [h1, decide_eq_false e]; rfl)
          · exact .inr (List.mem_append_left _ h1)
theorem getD_reverse {α : Type} (l : List α) (d : α) {i : Nat} (h : i < l.length) : l.reverse.getD i d = l.getD (l.length - 1 - i) d := by
  have h2 : l.length - 1 - i < l.length := by omega
  simp [List.getD, List.getElem?_reverse h]
/-- The order found is one. -/
theorem thrX_ord {size : Int} {rows : List Int} {n : Nat} (hg : IsG size rows) (hn : size = n) (h : (thrX size rows).isSome = true) : OrdP n (eN (rowN rows)) (thrO size rows) (thrJ size rows) := by
  obtain ⟨p, hp⟩ := Option.isSome_iff_exists.1 h
  obtain ⟨t1, t2, t3⟩ := thr_order hg hn hp
  obtain ⟨o, j⟩ := p
  have hng := ng_of hg hn
  have hX := hp
  rw [thrX_some hg] at hX
  have hpos : 0 < 2 ^ n := Nat.pow_pos (by omega)
  have e : ishl 1 size - 1 = ((2 ^ n - 1 : Nat) : Int) := by rw [hn, ishl_one_nat (by have := hng.le; omega)]; omega
  rw [e] at hX
  obtain ⟨h1, h2⟩ := thrR_ord hg hn 129 (2 ^ n - 1) [] [] o j (by omega) rfl (fun i hi => by simp at hi) (fun x hx => .inl (by rw [Nat.testBit_two_pow_sub_one]; exact decide_eq_true hx)) hX
  have hO := thrO_some hp
  have hJ := thrJ_some hp
  have hin : ∀ i, i < (thrO size rows).length → 0 ≤ (thrO size rows).getD i 0 ∧ (thrO size rows).getD i 0 ≤ (n : Int) - 1 := fun i hi => by have := t1 i hi; omega
  have hap : apartL (thrO size rows) := t2
  have hlen : (thrO size rows).length = n := by
    have hperm : (thrO size rows).Perm (iota n) := by
      refine perm_of_mem (nodup_of_apart hap) (iota_nodup _) fun x => ?_
      rw [iota_mem]
      constructor
      · intro hx
        obtain ⟨i, hi, rfl⟩ := mem_getD hx
        have := hin i hi
        omega
      · rintro ⟨x1, x2⟩
        have := h2 x.toNat (by omega)
        rw [Int.toNat_of_nonneg x1] at this
        rw [hO]
        exact List.mem_reverse.2 this
    have := hperm.length_eq
    rwa [iota_len] at this
  obtain ⟨m, hm, _, hm1, hm7⟩ := isG_size hg
  refine ⟨⟨by omega, by rw [hlen]; exact hin, hap⟩, hlen, by omega, fun i hi k hk => ?_⟩
  have hol : o.length = n := by rw [hO, List.length_reverse] at hlen; exact hlen
  have hjl : j.length = n := by rw [hO, hJ, List.length_reverse, List.length_reverse] at t3; omega
  rw [hO, hJ, getD_reverse _ _ (by omega), getD_reverse _ _ (by omega), getD_reverse _ _ (by omega), hjl, hol]
  have := h1 (n - 1 - i) (by omega) (n - 1 - k) (by omega) (by omega)
  exact this
theorem OrdP.pos {n : Nat} {E : Nat → Nat → Bool} {o : List Int} {j : List Bool} (h : OrdP n E o j) {x : Nat} (hx : x < n) : ∃ i, i < n ∧ (o.getD i 0).toNat = x := by
  obtain ⟨hp, hl, _, _⟩ := h
  have hm : (x : Int) ∈ o := order_mem (n := o.length) hp.2.1 hp.2.2 rfl x (by omega)
  obtain ⟨i, hi, he⟩ := mem_getD hm
  exact ⟨i, by omega, by rw [he]; rfl⟩
/-- Such a graph has no induced path of four vertices. -/
theorem OrdP.p4 {n : Nat} {E : Nat → Nat → Bool} {o : List Int} {j : List Bool} (h : OrdP n E o j) (hs : ∀ x y, E x y = E y x) (hirr : ∀ x, E x x = false) {a b c d : Nat} (ha : a < n) (hb : b < n) (hc : c < n) (hd : d < n)
    (hab : E a b = true) (hbc : E b c = true) (hcd : E c d = true) (hac : E a c = false) (had : E a d = false) (hbd : E b d = false) : False := by
  obtain ⟨ia, la, ea⟩ := h.pos ha
  obtain ⟨ib, lb, eb⟩ := h.pos hb
  obtain ⟨ic, lc, ec⟩ := h.pos hc
  obtain ⟨id, ld, ed⟩ := h.pos hd
  have hj := h.2.2.2
  have k1 : ∀ {x y z ix iy iz : Nat}, ix < n → (o.getD ix 0).toNat = x → (o.getD iy 0).toNat = y → (o.getD iz 0).toNat = z → E x y = true → E x z = false → ¬ (iy < ix ∧ iz < ix) := fun {x y z ix iy iz} lx ex ey ez h1 h2 h3 => by
    have e1 := hj ix lx iy h3.1
    have e2 := hj ix lx iz h3.2
    rw [ex, ey, h1] at e1
    rw [ex, ez, h2] at e2
    rw [← e1] at e2
    cases e2
  have na := k1 la ea eb ec hab hac
  have nb := k1 lb eb ea ed (by rw [hs]; exact hab) hbd
  have nc := k1 lc ec ed ea hcd (by rw [hs]; exact hac)
  have nd := k1 ld ed ec ea (by rw [hs]; exact hcd) (by rw [hs]; exact had)
  have d1 : ia ≠ ib := fun e => by subst e; rw [ea] at eb; subst eb; rw [hirr] at hab; cases hab
  have d2 : ia ≠ ic := fun e => by subst e; rw [ea] at ec; subst ec; rw [hcd] at had; cases had
  have d3 : ia ≠ id := fun e => by subst e; rw [ea] at ed; subst ed; rw [hs, hac] at hcd; cases hcd
  have d4 : ib ≠ ic := fun e => by subst e; rw [eb] at ec; subst ec; rw [hirr] at hbc; cases hbc
  have d5 : ib ≠ id := fun e => by subst e; rw [eb] at ed; subst ed; rw [had] at hab; cases hab
  have d6 : ic ≠ id := fun e => by subst e; rw [ec] at ed; subst ed; rw [hirr] at hcd; cases hcd
  omega
theorem most {p : Nat → Prop} (f : Nat → Nat) : ∀ k, (∃ v, v < k ∧ p v) → ∃ v, v < k ∧ p v ∧ ∀ u, u < k → p u → f u ≤ f v
  | 0, h => by obtain ⟨v, hv, _⟩ := h; omega
  | k + 1, h => by
    by_cases hk : ∃ v, v < k ∧ p v
    · obtain ⟨v, h1, h2, h3⟩ := most f k hk
      by_cases hp : p k ∧ f v < f k
      · refine ⟨k, by omega, hp.1, fun u hu hpu => ?_⟩
        by_cases e : u = k
        · subst e; exact Nat.le_refl _
        · have := h3 u (by omega) hpu; omega
      · refine ⟨v, by omega, h2, fun u hu hpu => ?_⟩
        by_cases e : u = k
        · subst e
          rcases Nat.lt_or_ge (f v) (f u) with h4 | h4
          · exact absurd ⟨hpu, h4⟩ hp
          · exact h4
        · exact h3 u (by omega) hpu
    · obtain ⟨v, h1, h2⟩ := h
      have e : v = k := by
        rcases Nat.lt_or_ge v k with h3 | h3
        · exact absurd ⟨v, h3, h2⟩ hk
        · omega
      subst e
      refine ⟨v, by omega, h2, fun u hu hpu => ?_⟩
      by_cases e : u = v
      · subst e; exact Nat.le_refl _
      · exact absurd ⟨u, by omega, hpu⟩ hk
theorem count_back {p q : Nat → Bool} : ∀ (l : List Nat), (∀ x ∈ l, p x = true → q x = true) → l.countP q ≤ l.countP p → ∀ x ∈ l, q x = true → p x = true
  | [], _, _, _, hx => by cases hx
  | a :: l, h1, h2, x, hx => by
    rw [List.countP_cons, List.countP_cons] at h2
    have hle : l.countP p ≤ l.countP q := List.countP_mono_left fun y hy hp => h1 y (List.mem_cons_of_mem _ hy) hp
    have ha := h1 a (List.mem_cons_self ..)
    have key : (q a = true → p a = true) ∧ l.countP q ≤ l.countP p := by
      cases hpa : p a with
      | true => rw [hpa, ha hpa] at h2; exact ⟨fun _ => rfl, by simp at h2; omega⟩
      | false =>
        rw [hpa] at h2
        cases hqa : q a with
        | true => rw [hqa] at h2; simp at h2; omega
        | false => rw [hqa] at h2; exact ⟨fun h => h, by simp at h2; omega⟩
    intro hq
    rcases List.mem_cons.1 hx with rfl | hx
    · exact key.1 hq
    · exact count_back l (fun y hy => h1 y (List.mem_cons_of_mem _ hy)) key.2 x hx hq
/-- In a part of a split graph without induced paths of four one vertex is joined with none or all. -/
theorem pick_one {E : Nat → Nat → Bool} (hs : ∀ x y, E x y = E y x) (hirr : ∀ x, E x x = false) (hp4 : P4f E) {S K : Nat} (hS : S < 128) (h0 : S ≠ 0) (hK : clqM E K) (hI : ∀ x y, S.testBit x = true → S.testBit y = true → K.testBit x = false → K.testBit y = false → E x y = false) :
    ∃ v, S.testBit v = true ∧ ((∀ x, S.testBit x = true → E v x = false) ∨ ∀ x, S.testBit x = true → x ≠ v → E v x = true) := by
  obtain ⟨s0, hs0⟩ : ∃ s0, S.testBit s0 = true := Nat.exists_testBit_of_ne_zero h0
  have h7 : ∀ x, S.testBit x = true → x < 7 := fun x hx => has_lt (n := 7) (by omega) hx
  by_cases h1 : ∃ y, S.testBit y = true ∧ ∀ x, S.testBit x = true → E y x = false
  · obtain ⟨y, a, b⟩ := h1
    exact ⟨y, a, .inl b⟩
  have h1' : ∀ y, S.testBit y = true → ∃ x, S.testBit x = true ∧ E y x = true := fun y hy => by
    apply Classical.byContradiction
    intro hn
    refine h1 ⟨y, hy, fun x hx => ?_⟩
    cases hE : E y x with
    | false => rfl
    | true => exact absurd ⟨x, hx, hE⟩ hn
  have hKS : ∃ v, v < 7 ∧ (S.testBit v = true ∧ K.testBit v = true) := by
    cases hk : K.testBit s0 with
    | true => exact ⟨s0, h7 _ hs0, hs0, hk⟩
    | false =>
      obtain ⟨x, hx, hE⟩ := h1' s0 hs0
      cases hkx : K.testBit x with
      | true => exact ⟨x, h7 _ hx, hx, hkx⟩
      | false => rw [hI s0 x hs0 hx hk hkx] at hE; cases hE
  obtain ⟨v, v7, ⟨vS, vK⟩, hmax⟩ := most (fun v => (List.range 7).countP fun x => S.testBit x && !K.testBit x && E v x) 7 hKS
  refine ⟨v, vS, .inr fun y hy hne => ?_⟩
  cases hky : K.testBit y with
  | true => exact hK v y vK hky (fun e => hne e.symm)
  | false =>
    cases hvy : E v y with
    | true => rfl
    | false =>
      exfalso
      obtain ⟨u, hu, hE⟩ := h1' y hy
      have huK : K.testBit u = true := by
        cases hk : K.testBit u with
        | true => rfl
        | false => rw [hI y u hy hu hky hk] at hE; cases hE
      have huv : v ≠ u := fun e => by subst e; rw [hs, hvy] at hE; cases hE
      have hvu := hK v u vK huK huv
      have hle := hmax u (h7 u hu) ⟨hu, huK⟩
      have hno : ¬ ∀ x, x < 7 → (S.testBit x && !K.testBit x && E v x) = true → (S.testBit x && !K.testBit x && E u x) = true := fun hall => by
        have := count_back (List.range 7) (fun x hx => hall x (List.mem_range.1 hx)) hle y (List.mem_range.2 (h7 y hy)) (by rw [hy, hky, hs u y, hE]; rfl)
        rw [hvy] at this
        simp at this
      have hex : ∃ x, S.testBit x = true ∧ K.testBit x = false ∧ E v x = true ∧ E u x = false := by
        apply Classical.byContradiction
        intro hn
        refine hno fun x hx hb => ?_
        simp only [Bool.and_eq_true, Bool.not_eq_true'] at hb ⊢
        refine ⟨hb.1, ?_⟩
        cases hux : E u x with
        | true => rfl
        | false => exact absurd ⟨x, hb.1.1, hb.1.2, hb.2, hux⟩ hn
      obtain ⟨x, x1, x2, x3, x4⟩ := hex
      exact hp4 x v u y (by rw [hs]; exact x3) hvu (by rw [hs]; exact hE) (by rw [hs]; exact x4) (hI x y x1 hy x2 hky) hvy
theorem bestU_pos {rows : List Int} {left : Int} {v : Nat} (h : thrQ rows left v) : ∀ k, v < k → 0 ≤ bestU rows left k
  | 0, hk => by omega
  | k + 1, hk => by
    unfold bestU
    split
    · omega
    · rename_i hq
      exact bestU_pos h k (by
        have : v ≠ k := fun e => by subst e; exact hq h
        omega)
/-- The rounds go through. -/
theorem thrR_some {size : Int} {rows : List Int} {n : Nat} (hg : IsG size rows) (hn : size = n) (hpick : ∀ S : Nat, S < 2 ^ n → S ≠ 0 → ∃ v, v < n ∧ thrQ rows (S : Int) v) : ∀ (f S : Nat) (o : List Int) (j : List Bool), S < 2 ^ n → S < f → (thrR rows f (S : Int) o j).isSome = true
  | 0, _, _, _, _, h => by omega
  | f + 1, S, o, j, hS, hf => by
    have hng := ng_of hg hn
    have h7 := pow_le7 hng.le
    have hn7 := hng.le
    by_cases h0 : S = 0
    · subst h0
      rw [show ((0 : Nat) : Int) = 0 from rfl, thrR_done]; rfl
    · obtain ⟨u, hun, hu⟩ := hpick S hS h0
      have hb := bestU_pos hu 7 (by omega)
      rw [thrR_next (by omega) (by omega)]
      obtain ⟨b1, b2, b3⟩ := bestU_range rows (S : Int) 7
      obtain ⟨v, hv⟩ := Int.eq_ofNat_of_zero_le (show 0 ≤ bestU rows (S : Int) 7 by omega)
      rw [hv] at b2 b3 ⊢
      have hq0 := b3 (by omega)
      rw [Int.toNat_natCast] at hq0
      have hq := hq0.1
      rw [hasB_nat (by omega) (by omega)] at hq
      have hps := pow_sub hq
      have hle := sub_le hps
      have hp : 0 < 2 ^ v := Nat.pow_pos (by omega)
      have e : (S : Int) - ishl 1 (v : Int) = ((S - 2 ^ v : Nat) : Int) := by rw [ishl_one_nat (by omega)]; omega
      rw [e]
      exact thrR_some hg hn hpick f (S - 2 ^ v) _ _ (Nat.lt_of_le_of_lt (Nat.sub_le _ _) hS) (by omega)
theorem eN_irr {size : Int} {rows : List Int} {n : Nat} (hg : IsG size rows) (hn : size = n) (x : Nat) : eN (rowN rows) x x = false := by
  have hr := ng_of hg hn
  cases hx : eN (rowN rows) x x with
  | false => rfl
  | true =>
    have hlt := eN_lt hr hx
    have := hr.irr x hlt
    unfold eN at hx; rw [this] at hx; cases hx
theorem compl_bit {n K x : Nat} (hK : K < 2 ^ n) : (2 ^ n - 1 - K).testBit x = (decide (x < n) && !K.testBit x) := by
  rw [Nat.sub_sub, Nat.add_comm 1 K]
  exact Nat.testBit_two_pow_sub_succ hK x
theorem thrX_of {rows : List Int} {n : Nat} (hg : IsG n rows) (hp4 : P4f (eN (rowN rows))) {K : Nat} (hKn : K < 2 ^ n) (hK : clqM (eN (rowN rows)) K) (hI : clqM (coE (eN (rowN rows))) (2 ^ n - 1 - K)) : (thrX n rows).isSome = true := by
  have hng := ng_of hg rfl
  have h7 := pow_le7 hng.le
  have hpos : 0 < 2 ^ n := Nat.pow_pos (by omega)
  have e : ishl 1 (n : Int) - 1 = ((2 ^ n - 1 : Nat) : Int) := by rw [ishl_one_nat (by have := hng.le; omega)]; omega
  rw [thrX_some hg, e]
  refine thrR_some hg rfl (fun S hS h0 => ?_) 129 _ _ _ (by omega) (by omega)
  obtain ⟨v, v1, v2⟩ := pick_one (eN_sym hg rfl) (eN_irr hg rfl) hp4 (S := S) (K := K) (by omega) h0 hK (fun x y hx hy kx ky => by
    by_cases exy : x = y
    · subst exy; exact eN_irr hg rfl x
    · have := hI x y (by rw [compl_bit hKn, kx, decide_eq_true (has_lt hS hx)]; rfl) (by rw [compl_bit hKn, ky, decide_eq_true (has_lt hS hy)]; rfl) exy
      exact (coE_true.1 this).1)
  have hvn := has_lt hS v1
  exact ⟨v, hvn, (thrQ_nat hg rfl hS hvn).2 ⟨v1, v2⟩⟩
theorem leastB_iff {g : Prop} [Decidable g] {p : Int → Bool} {N : Int} : leastB g p N = true ↔ g ∧ ∃ s : Nat, s < N.toNat ∧ p (s : Int) = true := by
  unfold leastB
  by_cases hg : g
  · rw [if_pos hg]
    constructor
    · intro h
      refine ⟨hg, ?_⟩
      apply Classical.byContradiction
      intro hn
      rw [(leastU_none p N.toNat).2 fun s hs => by
        cases hp : p (s : Int) with
        | false => rfl
        | true => exact absurd ⟨s, hs, hp⟩ hn] at h
      cases h
    · rintro ⟨_, s, hs, hp⟩
      cases h : leastU p N.toNat with
      | some _ => rfl
      | none => rw [(leastU_none p N.toNat).1 h s hs] at hp; cases hp
  · rw [if_neg hg]
    exact ⟨fun h => (by cases h), fun h => absurd h.1 hg⟩
theorem splitP_om {rows : List Int} {n K : Nat} (hg : IsG n rows) (hK : K < 2 ^ n) : splitP n rows (K : Int) ↔ clqM (eN (rowN rows)) K ∧ clqM (coE (eN (rowN rows))) (2 ^ n - 1 - K) := by
  have hng := ng_of hg rfl
  have e : ishl 1 (n : Int) - 1 - (K : Int) = ((2 ^ n - 1 - K : Nat) : Int) := by rw [ishl_one_nat (by have := hng.le; omega)]; omega
  unfold splitP
  rw [e, ← clique_om hg hK, ← indep_om hg (by omega), decide_eq_true_iff, decide_eq_true_iff]
/-- The joined vertices are a clique, the others are independent. -/
theorem OrdP.split {n : Nat} {E : Nat → Nat → Bool} {o : List Int} {j : List Bool} (h : OrdP n E o j) (hs : ∀ x y, E x y = E y x) : ∃ K, K < 2 ^ n ∧ clqM E K ∧ clqM (coE E) (2 ^ n - 1 - K) := by
  have hp := h.1
  have hl := h.2.1
  have hpl : ∀ {i}, i < n → plN o (o.getD i 0).toNat = i := fun {i} hi => (plN_at hp (by omega)).1
  refine ⟨maskU (fun x => j.getD (plN o x) false) n, maskU_lt _ _, fun x y hx hy hne => ?_, fun x y hx hy hne => ?_⟩
  · rw [maskU_bit] at hx hy
    simp only [Bool.and_eq_true, decide_eq_true_eq] at hx hy
    obtain ⟨a, la, rfl⟩ := h.pos hx.1
    obtain ⟨b, lb, rfl⟩ := h.pos hy.1
    rw [hpl la] at hx
    rw [hpl lb] at hy
    rcases Nat.lt_trichotomy a b with hab | rfl | hab
    · rw [hs, h.2.2.2 b lb a hab]; exact hy.2
    · exact absurd rfl hne
    · rw [h.2.2.2 a la b hab]; exact hx.2
  · rw [compl_bit (maskU_lt _ _), maskU_bit] at hx hy
    have hxn : x < n := by simp at hx; exact hx.1
    have hyn : y < n := by simp at hy; exact hy.1
    rw [decide_eq_true hxn] at hx
    rw [decide_eq_true hyn] at hy
    simp only [Bool.true_and, Bool.not_eq_true'] at hx hy
    obtain ⟨a, la, rfl⟩ := h.pos hxn
    obtain ⟨b, lb, rfl⟩ := h.pos hyn
    rw [hpl la] at hx
    rw [hpl lb] at hy
    refine coE_true.2 ⟨?_, hne⟩
    rcases Nat.lt_trichotomy a b with hab | rfl | hab
    · rw [hs, h.2.2.2 b lb a hab]; exact hy
    · exact absurd rfl hne
    · rw [h.2.2.2 a la b hab]; exact hx
theorem P4f_of_ord {rows : List Int} {n : Nat} (hg : IsG n rows) {o : List Int} {j : List Bool} (h : OrdP n (eN (rowN rows)) o j) : P4f (eN (rowN rows)) := by
  have hr := ng_of hg rfl
  have hs := eN_sym hg rfl
  intro a b c d hab hbc hcd hac had hbd
  exact h.p4 hs (eN_irr hg rfl) (eN_lt hr (by rw [hs]; exact hab)) (eN_lt hr hab) (eN_lt hr hbc) (eN_lt hr hcd) hab hbc hcd hac had hbd
theorem thrX_of_ord {rows : List Int} {n : Nat} (hg : IsG n rows) {o : List Int} {j : List Bool} (h : OrdP n (eN (rowN rows)) o j) : (thrX n rows).isSome = true := by
  obtain ⟨K, k1, k2, k3⟩ := h.split (eN_sym hg rfl)
  exact thrX_of hg (P4f_of_ord hg h) k1 k2 k3
theorem firstG_last {N : Nat} {ok : List Int → Int → Bool} {fin : List Int → Bool} : ∀ (d : Nat) (l L : List Int), firstG N ok fin (d + 1) l = some L → ∃ (m : List Int) (v : Nat), v < N ∧ L = m ++ [(v : Int)] ∧ ok m (v : Int) = true
  | 0, l, L, h => by
    rw [firstG] at h
    obtain ⟨v, hv, hx⟩ := List.exists_of_findSome?_eq_some h
    split at hx
    · rename_i ho
      unfold firstG at hx
      split at hx
      · exact ⟨l, v, List.mem_range.1 hv, (Option.some.inj hx).symm, ho⟩
      · cases hx
    · cases hx
  | d + 1, l, L, h => by
    rw [firstG] at h
    obtain ⟨v, hv, hx⟩ := List.exists_of_findSome?_eq_some h
    split at hx
    · exact firstG_last d _ L hx
    · cases hx
/-- A list found is an induced path. -/
theorem pathX_none {rows : List Int} {n : Nat} (hg : IsG n rows) (hp : P4f (eN (rowN rows))) : pathX n rows 4 = none := by
  cases h : pathX n rows 4 with
  | none => rfl
  | some L =>
    exfalso
    unfold pathX at h
    split at h
    case isFalse => cases h
    rw [show (4 : Int).toNat = 3 + 1 from rfl] at h
    have hlen := firstG_len _ _ _ h
    obtain ⟨m, v, hv, rfl, ho⟩ := firstG_last 3 [] L h
    have hP := of_decide_eq_true ho
    have h4 : (m ++ [(v : Int)]).length = 4 := by rw [hlen]; rfl
    generalize m ++ [(v : Int)] = l at hP h4
    have hr := ng_of hg rfl
    have h7 := pow_le7 hr.le
    obtain ⟨_, ⟨_, hin, hap⟩, hj⟩ := hP
    have hbit : ∀ i k, i < k → k < 4 → eN (rowN rows) (l.getD i 0).toNat (l.getD k 0).toNat = pathJ i k := fun i k hik hk => by
      have h1 := hj k (by omega) i hik
      have h2 := hin k (by omega)
      have hlt := hr.lt (l.getD i 0).toNat
      unfold joinQ at h1
      rw [← h1, rowN_eq hg, show l.getD k 0 = (((l.getD k 0).toNat : Nat) : Int) by omega, hasB_nat (by omega) (by have := hr.le; omega)]
      rfl
    exact hp _ _ _ _ (hbit 0 1 (by omega) (by omega)) (hbit 1 2 (by omega) (by omega)) (hbit 2 3 (by omega) (by omega)) (hbit 0 2 (by omega) (by omega)) (hbit 0 3 (by omega) (by omega)) (hbit 1 3 (by omega) (by omega))
/-- A threshold graph is a cograph and split, and the other way round. -/
theorem thr_both (size : Int) (rows : List Int) : (thrX size rows).isSome = (decide (IsG size rows ∧ pathX size rows 4 = none) && leastB (IsG size rows) (fun s => decide (splitP size rows s)) (ishl 1 size)) := by
  rw [Bool.eq_iff_iff, Bool.and_eq_true, decide_eq_true_iff, leastB_iff]
  by_cases hg : IsG size rows
  case neg => rw [thrX_none hg]; exact ⟨fun h => (by cases h), fun h => absurd h.1.1 hg⟩
  obtain ⟨n, rfl, hrl, _, hn7⟩ := isG_size hg
  have hN : (ishl 1 (n : Int)).toNat = 2 ^ n := by rw [ishl_one_nat (by omega)]; exact Int.toNat_natCast _
  rw [hN]
  constructor
  · intro h
    have ho := thrX_ord hg rfl h
    obtain ⟨K, k1, k2, k3⟩ := ho.split (eN_sym hg rfl)
    exact ⟨⟨hg, pathX_none hg (P4f_of_ord hg ho)⟩, hg, K, k1, decide_eq_true ((splitP_om hg k1).2 ⟨k2, k3⟩)⟩
  · rintro ⟨⟨_, hp⟩, _, K, k1, k2⟩
    obtain ⟨k3, k4⟩ := (splitP_om hg k1).1 (of_decide_eq_true k2)
    exact thrX_of hg (path_none hg rfl hp) k1 k3 k4
theorem seenP_all (J : Nat → Nat → Bool) {n a b : Nat} (hb : b < n) (hab : a < b) : seenP J n 0 a b = J a b ∧ seenP J n 0 b a = J a b := by
  have h1 : bef n 0 a b = true := decide_eq_true (.inl hb)
  have h2 : decide (a < b) = true := decide_eq_true hab
  have h3 : decide (b < a) = false := decide_eq_false (by omega)
  unfold seenP
  rw [h1, h2, h3]
  simp
/-- The graph of a good order has the order. -/
theorem gt_ord {o : List Int} {j : List Bool} (h : gtOk o j) : IsG (gtZ o j) (gtL o j) ∧ (thrX (gtZ o j) (gtL o j)).isSome = true := by
  obtain ⟨hp, hl⟩ := h
  have l1 : 1 ≤ o.length := by have := hp.1; omega
  have l7 : o.length ≤ 7 := by have := hp.1; omega
  have f1 : gtZ o j = o.length := if_pos ⟨hp, hl⟩
  have f2 : gtL o j = gRows o.length (gtP o j o.length 0) := if_pos ⟨hp, hl⟩
  rw [f1, f2]
  have hg : IsG (o.length : Int) (gRows o.length (gtP o j o.length 0)) := gRows_isG l1 l7 (gtP_sym o j _ _) (gtP_irr o j _ _)
  refine ⟨hg, thrX_of_ord hg (o := o) (j := j) ⟨hp, rfl, hl, fun i hi k hk => ?_⟩⟩
  obtain ⟨a1, a2, a3⟩ := plN_at hp hi
  obtain ⟨b1, b2, b3⟩ := plN_at hp (show k < o.length by omega)
  have hr := ng_of hg rfl
  have h7 := pow_le7 hr.le
  have hlt := hr.lt (o.getD i 0).toNat
  have h1 := gRows_has l7 (gtP o j o.length 0) (v := (o.getD i 0).toNat) (u := (o.getD k 0).toNat) (by omega) (by omega)
  rw [rowN_eq hg, hasB_nat (by omega) (by omega)] at h1
  show ((rowN _ _).testBit _) = _
  rw [h1]
  unfold gtP
  rw [a1, b1]
  exact (seenP_all _ hi hk).2
/-- A threshold graph is read back from its order. -/
theorem thr_back {rows : List Int} {n : Nat} (hg : IsG n rows) (h : (thrX n rows).isSome = true) : gtOk (thrO n rows) (thrJ n rows) ∧ gtZ (thrO n rows) (thrJ n rows) = n ∧ gtL (thrO n rows) (thrJ n rows) = rows := by
  have ho := thrX_ord hg rfl h
  generalize thrO n rows = o at ho
  generalize thrJ n rows = j at ho
  obtain ⟨hp, hl, hlj, hE⟩ := id ho
  have hok : gtOk o j := ⟨hp, by omega⟩
  obtain ⟨m, hm, hrl, m1, m7⟩ := isG_size hg
  obtain rfl : n = m := by omega
  have f1 : gtZ o j = o.length := if_pos hok
  have f2 : gtL o j = gRows o.length (gtP o j o.length 0) := if_pos hok
  refine ⟨hok, by rw [f1, hl], ?_⟩
  rw [f2, hl]
  have hb := bits_rows hg
  rw [hrl] at hb
  rw [hb]
  have hr := ng_of hg rfl
  have h7 := pow_le7 hr.le
  have hbit : ∀ x y : Nat, x < n → y < n → bitsP rows x y = eN (rowN rows) x y := fun x y hx hy => by
    have := hr.lt x
    unfold bitsP
    rw [decide_eq_true ⟨by omega, by omega⟩, rowN_eq hg x, hasB_nat (by omega) (by omega)]; rfl
  rw [← hb]
  conv => rhs; rw [hb]
  refine gRows_congr fun x y hx hy => ?_
  rw [hbit x y hx hy]
  obtain ⟨a, la, rfl⟩ := ho.pos hx
  obtain ⟨b, lb, rfl⟩ := ho.pos hy
  unfold gtP
  rw [(plN_at hp (by omega)).1, (plN_at hp (by omega)).1]
  rcases Nat.lt_trichotomy a b with hab | rfl | hab
  · rw [(seenP_all _ lb hab).1, eN_sym hg rfl, hE b lb a hab]
  · rw [seenP_irr, eN_irr hg rfl]
  · rw [(seenP_all _ la hab).2, hE a la b hab]
theorem incU_one {n : Nat} {o w : List Int} (hw : w.length = n) (hin : ∀ i, i < n → 0 ≤ o.getD i 0 ∧ o.getD i 0 < n) (hap : ∀ i, i < n → ∀ k, k < i → (o.getD k 0).toNat ≠ (o.getD i 0).toNat) : ∀ k, k ≤ n → ∀ a, a < k → (incU o w k).getD (o.getD a 0).toNat 0 = w.getD (o.getD a 0).toNat 0 + 1
  | 0, _, a, ha => by omega
  | k + 1, hk, a, ha => by
    have h1 := hin k (by omega)
    rw [incU, getD_set_int]
    by_cases e : a = k
    · subst e
      rw [if_pos ⟨rfl, by rw [incU_length]; omega⟩, incU_same _ _ _ _ fun m hm => hap a (by omega) m hm]
    · rw [if_neg fun h => hap k (by omega) a (by omega) h.1]
      exact incU_one hw hin hap k (by omega) a (by omega)
/-- The weights after i rounds. -/
theorem wt_inv {n : Nat} {E : Nat → Nat → Bool} {o : List Int} {j : List Bool} (h : OrdP n E o j) : ∀ i, i ≤ n →
    (∀ b, b < i → ∀ a, a < b → ((wtU n o j i).1.getD (o.getD a 0).toNat 0 + (wtU n o j i).1.getD (o.getD b 0).toNat 0 > (wtU n o j i).2 ↔ j.getD b false = true)) ∧
    (∀ a, a < i → 0 ≤ (wtU n o j i).1.getD (o.getD a 0).toNat 0 ∧ (wtU n o j i).1.getD (o.getD a 0).toNat 0 ≤ (wtU n o j i).2 + 1)
  | 0, _ => ⟨fun b hb => by omega, fun a ha => by omega⟩
  | i + 1, hi => by
    obtain ⟨h1, h2⟩ := wt_inv h i (by omega)
    obtain ⟨s1, s2, s3⟩ := wtU_spec n o j i
    have hp := h.1
    have hl := h.2.1
    have hin : ∀ i, i < n → 0 ≤ o.getD i 0 ∧ o.getD i 0 < n := fun i hi => by have := (plN_at hp (show i < o.length by omega)).2; omega
    have hap : ∀ i, i < n → ∀ k, k < i → (o.getD k 0).toNat ≠ (o.getD i 0).toNat := fun i hi k hk e => by
      have := hp.2.2 i (by omega) k hk
      have := hin i hi
      have := hin k (by omega)
      omega
    have hz := wtU_zero n o j (o.getD i 0).toNat i fun m hm => hap i (by omega) m hm
    have hii := hin i (by omega)
    cases hj : j.getD i false with
    | true =>
      have e1 : (wtU n o j (i + 1)) = ((wtU n o j i).1.set (o.getD i 0).toNat ((wtU n o j i).2 + 1), (wtU n o j i).2) := by rw [wtU, if_pos hj]
      rw [e1]
      dsimp only
      have g1 : ∀ a, a < i → ((wtU n o j i).1.set (o.getD i 0).toNat ((wtU n o j i).2 + 1)).getD (o.getD a 0).toNat 0 = (wtU n o j i).1.getD (o.getD a 0).toNat 0 := fun a ha => by
        rw [getD_set_int, if_neg fun h => hap i (by omega) a ha h.1]
      have g2 : ((wtU n o j i).1.set (o.getD i 0).toNat ((wtU n o j i).2 + 1)).getD (o.getD i 0).toNat 0 = (wtU n o j i).2 + 1 := by
        rw [getD_set_int, if_pos ⟨rfl, by omega⟩]
      refine ⟨fun b hb a ha => ?_, fun a ha => ?_⟩
      · by_cases e : b = i
        · subst e
          rw [g2, g1 a ha]
          have := h2 a ha
          exact ⟨fun _ => hj, fun _ => by omega⟩
        · rw [g1 b (by omega), g1 a (by omega)]
          exact h1 b (by omega) a ha
      · by_cases e : a = i
        · subst e; rw [g2]; omega
        · rw [g1 a (by omega)]; exact h2 a (by omega)
    | false =>
      have e1 : (wtU n o j (i + 1)) = (incU o (wtU n o j i).1 i, (wtU n o j i).2 + 2) := by rw [wtU, if_neg (by rw [hj]; exact Bool.false_ne_true)]
      rw [e1]
      dsimp only
      have g1 : ∀ a, a < i → (incU o (wtU n o j i).1 i).getD (o.getD a 0).toNat 0 = (wtU n o j i).1.getD (o.getD a 0).toNat 0 + 1 := fun a ha => incU_one s1 hin hap i (by omega) a ha
      have g2 : (incU o (wtU n o j i).1 i).getD (o.getD i 0).toNat 0 = 0 := by rw [incU_same _ _ _ _ fun m hm => hap i (by omega) m hm]; exact hz
      refine ⟨fun b hb a ha => ?_, fun a ha => ?_⟩
      · by_cases e : b = i
        · subst e
          rw [g2, g1 a ha, hj]
          have := h2 a ha
          exact ⟨fun h => by omega, fun h => by cases h⟩
        · rw [g1 b (by omega), g1 a (by omega), ← h1 b (by omega) a ha]
          exact ⟨fun h => by omega, fun h => by omega⟩
      · by_cases e : a = i
        · subst e; rw [g2]; omega
        · rw [g1 a (by omega)]; have := h2 a (by omega); omega
/-- The weights found answer the graph. -/
theorem wt_ok {rows : List Int} {n : Nat} (hg : IsG n rows) (h : (thrX n rows).isSome = true) : weightsP n rows (wtW n rows) (wtL n rows) := by
  have ho := thrX_ord hg rfl h
  have hl := ho.2.1
  have e1 : wtW n rows = (wtU n (thrO n rows) (thrJ n rows) n).1 := by unfold wtW; rw [if_pos h, hl]; rfl
  have e2 : wtL n rows = (wtU n (thrO n rows) (thrJ n rows) n).2 := by unfold wtL; rw [if_pos h, hl]; rfl
  rw [e1, e2]
  generalize thrO n rows = o at *
  generalize thrJ n rows = j at *
  obtain ⟨s1, s2, s3⟩ := wtU_spec n o j n
  obtain ⟨w1, w2⟩ := wt_inv ho n (Nat.le_refl n)
  obtain ⟨m, hm, hrl, m1, m7⟩ := isG_size hg
  obtain rfl : n = m := by omega
  have hsq : (1000 : Int) * n * n ≤ 49000 := by
    have : n = 1 ∨ n = 2 ∨ n = 3 ∨ n = 4 ∨ n = 5 ∨ n = 6 ∨ n = 7 := by omega
    rcases this with rfl | rfl | rfl | rfl | rfl | rfl | rfl <;> decide
  have hr := ng_of hg rfl
  have h7 := pow_le7 hr.le
  refine ⟨hg, by rw [s1], ⟨s2.1, by omega⟩, fun v _ => ⟨(s3 v).1, by have := (s3 v).2; omega⟩, fun v hv u hu => ?_⟩
  rw [s1] at hv
  unfold weighs
  have hlt := hr.lt v
  have hb : hasB (rows.getD v 0) (u : Int) = eN (rowN rows) v u := by rw [rowN_eq hg v, hasB_nat (by omega) (by omega)]; rfl
  rw [hb]
  obtain ⟨a, la, ea⟩ := ho.pos hv
  obtain ⟨b, lb, eb⟩ := ho.pos (show u < n by omega)
  rcases Nat.lt_trichotomy a b with hab | rfl | hab
  · have h1 := w1 b lb a hab
    rw [ea, eb] at h1
    have h2 := ho.2.2.2 b lb a hab
    rw [ea, eb] at h2
    rw [eN_sym hg rfl, h2, Bool.eq_iff_iff, ← h1, decide_eq_true_iff]
    exact ⟨fun h => by omega, fun h => by omega⟩
  · omega
  · have h1 := w1 a la b hab
    rw [ea, eb] at h1
    have h2 := ho.2.2.2 a la b hab
    rw [ea, eb] at h2
    rw [h2, Bool.eq_iff_iff, ← h1, decide_eq_true_iff]
end Go.Pw
