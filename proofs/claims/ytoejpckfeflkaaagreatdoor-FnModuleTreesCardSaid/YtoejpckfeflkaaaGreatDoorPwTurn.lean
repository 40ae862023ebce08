/- Calls that turn objects of their caller's. -/
import Derived.Test.YtoejpckfeflkaaaGreatDoorPwStr
namespace Go.Pw
open Go Go.RowKit

def blocksOf : List Ob → List Nat
  | [] => []
  | o :: r => o.block.toList ++ blocksOf r
theorem mem_blocksOf : ∀ {l : List Ob} {k : Nat}, k ∈ blocksOf l ↔ ∃ o ∈ l, o.block = some k
  | [], k => by simp [blocksOf]
  | o :: r, k => by
    simp only [blocksOf, List.mem_append, mem_blocksOf (l := r), List.mem_cons, Option.mem_toList]
    constructor
    · rintro (h | ⟨x, hx, h⟩)
      · exact ⟨o, .inl rfl, h⟩
      · exact ⟨x, .inr hx, h⟩
    · rintro ⟨x, rfl | hx, h⟩
      · exact .inl h
      · exact .inr ⟨x, hx, h⟩

structure Own (w : World) (l : List Ob) : Prop where
  holds : ∀ o ∈ l, o.holds w
  apart : l.Pairwise Ob.apart

theorem Own.start {w : World} {l : List Ob} (h : Own w l) : Cl (blocksOf l) w l w :=
  ⟨rfl, rfl, rfl, Nat.le_refl _, fun _ _ _ => rfl, h.holds, fun o ho k hk => .inl (mem_blocksOf.2 ⟨o, ho, hk⟩), h.apart⟩

theorem Cl.own {X : List Nat} {w0 w : World} {old rest : List Ob} (h : Cl X w0 (old ++ rest) w) : Own w old :=
  ⟨fun o ho => h.holds o (List.mem_append_left _ ho), (List.pairwise_append.1 h.apart).1⟩

theorem Cl.turnMany {X : List Nat} {w0 w w' : World} {old new rest : List Ob} (h : Cl X w0 (old ++ rest) w) (h' : Cl (blocksOf old) w new w') : Cl X w0 (new ++ rest) w' := by
  obtain ⟨ap1, ap2, ap3⟩ := List.pairwise_append.1 h.apart
  have hrest : ∀ x ∈ rest, ∀ k, x.block = some k → k < w.heap.size ∧ k ∉ blocksOf old := fun x hx k hk => by
    refine ⟨Ob.lt (h.holds x (List.mem_append_right _ hx)) k hk, fun hm => ?_⟩
    obtain ⟨o, ho, ho2⟩ := mem_blocksOf.1 hm
    rcases ap3 o ho x hx with h1 | h1 | h1
    · rw [h1] at ho2; cases ho2
    · rw [h1] at hk; cases hk
    · exact h1 (by rw [ho2, hk])
  refine ⟨h'.os.trans h.os, h'.tape.trans h.tape, h'.output.trans h.output, Nat.le_trans h.size h'.size, fun k hk hx => ?_, fun x hx => ?_, fun x hx k hk => ?_, ?_⟩
  · refine (h'.frame k (Nat.lt_of_lt_of_le hk h.size) fun hm => ?_).trans (h.frame k hk hx)
    obtain ⟨o, ho, ho2⟩ := mem_blocksOf.1 hm
    rcases h.fresh o (List.mem_append_left _ ho) k ho2 with h1 | h1
    · exact hx h1
    · omega
  · rcases List.mem_append.1 hx with hx | hx
    · exact h'.holds x hx
    · exact Ob.kept (h.holds x (List.mem_append_right _ hx)) fun k hk => h'.frame k (hrest x hx k hk).1 (hrest x hx k hk).2
  · rcases List.mem_append.1 hx with hx | hx
    · rcases h'.fresh x hx k hk with h1 | h1
      · obtain ⟨o, ho, ho2⟩ := mem_blocksOf.1 h1
        exact h.fresh o (List.mem_append_left _ ho) k ho2
      · exact .inr (Nat.le_trans h.size h1)
    · exact h.fresh x (List.mem_append_right _ hx) k hk
  · refine List.pairwise_append.2 ⟨h'.apart, ap2, fun a ha b hb => ?_⟩
    cases hak : a.block with
    | none => exact .inl hak
    | some k =>
      cases hbk : b.block with
      | none => exact .inr (.inl hbk)
      | some j =>
        refine .inr (.inr ?_)
        rw [hak, hbk]
        intro e
        obtain rfl := Option.some.inj e
        obtain ⟨h1, h2⟩ := hrest b hb k hbk
        rcases h'.fresh a ha k hak with h3 | h3
        · exact h2 h3
        · omega

/-- The objects at these places (each counted after the earlier are gone), and the rest. -/
def pull : List Ob → List Nat → Option (List Ob × List Ob)
  | l, [] => some ([], l)
  | l, k :: ks => match nthOb l k with
    | none => none
    | some o => match pull (dropOb l k) ks with
      | none => none
      | some (a, r) => some (o :: a, r)
theorem pull_perm : ∀ (ks : List Nat) (l a r : List Ob), pull l ks = some (a, r) → List.Perm l (a ++ r)
  | [], l, a, r, h => by obtain ⟨rfl, rfl⟩ := Prod.mk.inj (Option.some.inj h); exact List.Perm.refl _
  | k :: ks, l, a, r, h => by
    unfold pull at h
    cases hn : nthOb l k with
    | none => rw [hn] at h; cases h
    | some o =>
      rw [hn] at h
      cases hp : pull (dropOb l k) ks with
      | none => simp [hp] at h
      | some x =>
        obtain ⟨a', r'⟩ := x
        simp only [hp, Option.some.injEq, Prod.mk.injEq] at h
        obtain ⟨rfl, rfl⟩ := h
        exact (setOb_perm l k o o hn).2.trans ((pull_perm ks _ _ _ hp).cons o)

section
variable {P : Program} {n : Nat} {ops : List Oper} {l : List Oper} {Q : Post} {E : Env} {X : List Nat} {w0 : World} {objs : List Ob} {d : Option Nat} {t ty e : TypeId} {pos : String} {af : Array Edge} {g : Option (Nat × Bool)}

/-- A call that turns its caller's objects 'old' into 'new', hands back a value and leaves all else. -/
structure Turns (P : Program) (f : FuncId) (args : Array Value) (w : World) (old new : List Ob) (v : Value) : Prop where
  entry : Entry P f
  out : Calls P f args w (fun e w' => e = .returned v ∧ Cl (blocksOf old) w new w')

theorem turns_enter {f : FuncId} {fn : Func} {c : Code} {args : List Value} {w : World} {old new : List Ob} {v : Value} {n : Nat} (ho : Own w old) (he : Entry P f)
    (hf : P.funcs[f]? = some fn) (hb : fn.body = some c) (hn : fn.ntmps = n) (hle : Nat.ble args.length n = true)
    (h : ∀ X, Pwp P n c (qbody P fn (fun u C' => u = v ∧ ∀ w', C' w' → Cl X w new w')) (envOf args) (Cl X w old)) : Turns P f args.toArray w old new v :=
  ⟨he, ((pcall_enter hf hb hn (Nat.le_of_ble_eq_true hle) (h (blocksOf old))).out w ho.start).mono fun e w' ⟨u, C', h1, h2, h3, h4⟩ => ⟨by rw [h1, h3], h4 w' h2⟩⟩

theorem px_turns (ks : List Nat) {f : FuncId} {args : List Operand} {ats : Array TypeId} {avs : List Value} {old new rest : List Ob} {v : Value} (hρ : ev E (.func f) = .func (.func f) #[] #[]) (ha : evl (ev E) args = avs)
    (hp : pull objs ks = some (old, rest)) (hw : wantE ops E g = true) (hd : okDst d n = true)
    (hc : ∀ w, Own w old → Turns P f avs.toArray w old new v) (h : Px P n ops .seq l Q (updo E d v) (Cl X w0 (new ++ rest))) :
    Px P n ops .seq (⟨d, .call { callee := .value (.func f), args := args.toArray, argTypes := ats }, ty, pos, af, g⟩ :: l) Q E (Cl X w0 objs) := by
  have hown : ∀ w, Cl X w0 objs w → Own w old ∧ Cl X w0 (old ++ rest) w := fun w hC => by
    have := hC.perm (pull_perm ks _ _ _ hp)
    exact ⟨this.own, this⟩
  refine px_call hw hd (fun w hC => run_call (hc w (hown w hC).1).entry hρ w) fun w hC => ?_
  rw [evl_eq, ha]
  exact (hc w (hown w hC).1).out.mono fun e w' ⟨he, hcl⟩ => ⟨v, _, he, (hown w hC).2.turnMany hcl, h⟩
end

theorem Cl.nilRow {X : List Nat} {w0 w : World} {objs : List Ob} (e : TypeId) (h : Cl X w0 objs w) : Cl X w0 (.row e (.slice Option.none 0 0) [] :: objs) w :=
  h.app (Cl.one (Below.refl _ _) (.row e (.slice Option.none 0 0) []) (World.ownsRow_nil w _ e 1) (fun k hk => by cases hk))

/-- The numbers from k on. -/
def upfrom (k : Int) (n : Nat) : List Int := (List.range n).map fun i : Nat => k + (i : Int)
@[simp] theorem upfrom_length (k : Int) (n : Nat) : (upfrom k n).length = n := by simp [upfrom]
theorem upfrom_get (k : Int) (n i : Nat) (h : i < n) : (upfrom k n).getD i 0 = k + i := by simp [upfrom, List.getD, h]
/-- Marked so far. -/
def marked (l : List Int) (k : Int) (i : Nat) : List Int := upfrom k i ++ l.drop i
@[simp] theorem marked_length (l : List Int) (k : Int) (i : Nat) (h : i ≤ l.length) : (marked l k i).length = l.length := by simp [marked]; omega
theorem marked_zero (l : List Int) (k : Int) : marked l k 0 = l := by simp [marked, upfrom]
theorem marked_all (l : List Int) (k : Int) : marked l k l.length = upfrom k l.length := by simp [marked]
theorem marked_set (l : List Int) (k : Int) (i : Nat) (h : i < l.length) : (marked l k i).set i (k + i) = marked l k (i + 1) := by
  apply List.ext_getElem
  · simp [marked]; omega
  intro j h1 h2
  simp only [marked, upfrom, List.getElem_set, List.getElem_append, List.length_map, List.length_range, List.getElem_map, List.getElem_range, List.getElem_drop]
  by_cases hij : i = j
  · subst hij; simp
  · rw [if_neg hij]
    by_cases hlt : j < i
    · rw [dif_pos hlt, dif_pos (by omega)]
    · rw [dif_neg hlt, dif_neg (by omega)]; congr 1; omega
theorem ints_set (l : List Int) (i : Nat) (x : Int) : (ints l).set i (.int .i64 x) = ints (l.set i x) := by simp [ints, List.map_set]

section
variable {P : Program} {C : Cls} {ρ : Operand → Value} {d : Option Tmp} {ty : TypeId} {pos : String} {af : Array Edge} {g : Option (Nat × Bool)} {x y : Operand} {m n : Int}
theorem opv_max {ats : Array TypeId} (hx : ρ x = .int .i64 m) (hy : ρ y = .int .i64 n) : Opv P C ρ ⟨d, .call { callee := .builtin .max, args := #[x, y], argTypes := ats }, ty, pos, af, g⟩ (.int .i64 (max m n)) :=
  opv_of_run fun w _ => by
    have h : max m n = if n > m then n else m := by
      rw [Int.max_def]; split <;> split <;> omega
    simp [execOp, go_sem, hx, hy, resolve, invoke, builtin, Builtin.max_, Builtin.max2, h]
theorem opv_min {ats : Array TypeId} (hx : ρ x = .int .i64 m) (hy : ρ y = .int .i64 n) : Opv P C ρ ⟨d, .call { callee := .builtin .min, args := #[x, y], argTypes := ats }, ty, pos, af, g⟩ (.int .i64 (min m n)) :=
  opv_of_run fun w _ => by
    have h : min m n = if n < m then n else m := by
      rw [Int.min_def]; split <;> split <;> omega
    simp [execOp, go_sem, hx, hy, resolve, invoke, builtin, Builtin.min_, Builtin.min2, h]
end
end Go.Pw
