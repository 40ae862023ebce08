/- From 'the call hands back true and leaves what was there' to the post of a law's row; the readings of the arguments. -/
import Derived.Test.YtoejpckfeflkaaaGreatDoorPwMem
import Derived.ProofKit
import Derived.Lib.SmallJoins
import Derived.OpenShut
namespace Go.Pw
open Go Go.RowKit Go.ChangeShapes Go.WideShapes Go.ChangeAt Go.Joins

section
variable {H : Type} {enc : TypeId × Value → H} {P : Program}

theorem trodAll_below (hl : laidOutB P = true) {W W' : World} (hb : Below W.heap.size W W') : ∀ (ts : List TypeId) (vs : List Value) (ds : List (DataW H)) (ps : List MemPlace),
    (∀ t ∈ ts, P.readableRec t = true ∧ t < P.types.size) → (∀ x ∈ ps, x.block < W.heap.size) → DataW.TrodAll enc P W 0 (fun _ => true) true ts vs ds ps →
    DataW.TrodAll enc P W' 0 (fun b => decide (b < W.heap.size)) true ts vs ds ps
  | [], vs, ds, ps, _, _, h => by
    obtain ⟨rfl, rfl, rfl⟩ := trodAll_nil h
    exact trodAll_mk0
  | t :: ts, vs, ds, ps, hr, hlt, h => by
    obtain ⟨v, vs', d, ds', p, q, rfl, rfl, rfl, hd, hrest⟩ := trodAll_cons h
    have h1 := hr t (List.mem_cons_self ..)
    exact trodAll_cons_mk (Below.trod hl h1.1 h1.2 hd hb fun x hx => hlt x (List.mem_append.2 (.inl hx)))
      (trodAll_below hl hb ts vs' ds' q (fun t ht => hr t (List.mem_cons_of_mem _ ht)) (fun x hx => hlt x (List.mem_append.2 (.inr hx))) hrest)

theorem law_post {fn : Func} {s : ChangeSpec} {tb : TypeId} {W W' : World} {args : Array Value} {ds gs : List (DataW H)} {before : List MemPlace} (hl : laidOutB P = true) (hv : s.vars = [])
    (hW : DataW.Whole enc P fn.params.toList s.vars false W args.toList ds gs before) (hr : ∀ t ∈ fn.params.toList, P.readableRec t = true ∧ t < P.types.size)
    (hrt : fn.resultTypes = #[tb]) (htb : P.underlying tb = some .bool) (hs : s.fn H (ds ++ gs) = { results := [.lit (.bool true)], args := ds }) (hb : Below W.heap.size W W') :
    s.post enc P fn false true false false W args (.bool true) W' := by
  obtain ⟨p, q, hA, hV, hps, hf, hn⟩ := hW
  have hlt : ∀ x ∈ p ++ q, x.block < W.heap.size := fun x hx => by
    have : DataW.Whole enc P fn.params.toList s.vars false W args.toList ds gs before := ⟨p, q, hA, hV, hps, hf, hn⟩
    exact this.lt x (hps ▸ hx)
  have hV0 := hV
  rw [hv] at hV0
  obtain ⟨rfl, rfl⟩ := trodVars_none hV0
  refine ⟨ds, [], before, [], p, [], ⟨p, [], hA, hV, hps, hf, hn⟩, ?_, ?_, ?_, hb.frame _, fun h => by cases h⟩
  · rw [hs, hrt]
    exact trodAll_mk1 (shut_bool htb true)
  · rw [hs]
    exact trodAll_below hl hb _ _ _ _ hr (fun x hx => hlt x (List.mem_append.2 (.inl hx))) hA
  · rw [hs, hv]
    exact rfl

theorem law_calls {f : FuncId} {fn : Func} {s : ChangeSpec} {tb : TypeId} {W : World} {args : Array Value} {ds gs : List (DataW H)} {before : List MemPlace} (hl : laidOutB P = true) (hv : s.vars = [])
    (hW : DataW.Whole enc P fn.params.toList s.vars false W args.toList ds gs before) (hr : ∀ t ∈ fn.params.toList, P.readableRec t = true ∧ t < P.types.size)
    (hrt : fn.resultTypes = #[tb]) (htb : P.underlying tb = some .bool) (hs : s.fn H (ds ++ gs) = { results := [.lit (.bool true)], args := ds }) (h : Pure P f args W (.bool true)) :
    Calls P f args W fun e W' => ∃ v, e = .returned v ∧ s.post enc P fn false true false false W args v W' :=
  h.out.mono fun _ _ ⟨he, hb⟩ => ⟨_, he, law_post hl hv hW hr hrt htb hs hb⟩

/-- A slice of ints that came in. -/
theorem arr_of_trod {t e : TypeId} {base : Nat} {spare : Nat → Bool} {held : Bool} {w : World} {fuel : Nat} {v : Value} {x : DataW H × List MemPlace} (ht : P.underlying t = some (.slice e)) (he : P.underlying e = some (.int .i64)) (hc : P.cellsOf e = 1)
    (h : DataW.trod enc P w base spare held fuel t [v] = some x) : ∃ l : List Int, Arr w v (ints l) ∧ ∀ n ∈ l, -9223372036854775808 ≤ n ∧ n ≤ 9223372036854775807 := by
  rcases open_ints ht he hc h with ⟨h1, _⟩ | ⟨a, len, cap, zs, h1, _, h2, h3, h4, _, h5, h6⟩
  · obtain rfl := (List.cons.inj h1).1
    exact ⟨[], ⟨rfl, .inl ⟨rfl, none, 0, rfl, fun _ => rfl⟩⟩, fun n hn => (List.not_mem_nil hn).elim⟩
  · obtain rfl := (List.cons.inj h1).1
    have hlen : len ≤ zs.length := by rw [h4]; split <;> omega
    have hx : ∀ n ∈ zs.take len, -9223372036854775808 ≤ n ∧ n ≤ 9223372036854775807 := fun n hn => by
      have := h6 n (List.mem_of_mem_take hn)
      simpa [Lit.wf, IntKind.min, IntKind.max, IntKind.signed, IntKind.bits] using this
    refine ⟨zs.take len, ?_, hx⟩
    have hf : fitsB (.slice (some a) len cap) = true := Nat.ble_eq_true_of_le h2
    by_cases h0 : len = 0
    · subst h0; exact ⟨hf, .inl ⟨by simp [ints], some a, cap, rfl, fun h => by cases h⟩⟩
    · obtain ⟨b, off, rfl, hc⟩ := ints_at h5 (by omega)
      have hl : (ints (zs.take len)).length = len := by simp [ints, List.length_take]; omega
      refine ⟨hf, .inr ⟨b, off, cap, by rw [hl], by omega, by omega, fun i hi => ?_⟩⟩
      rw [hl] at hi
      rw [hc i (by omega)]
      have : i < (zs.take len).length := by simp [List.length_take]; omega
      rw [ints_get _ i this]
      simp [List.getD, hi]

theorem int_range {n : Int} (h : (Lit.int .i64 n).wf = true) : -9223372036854775808 ≤ n ∧ n ≤ 9223372036854775807 := by
  simpa [Lit.wf, IntKind.min, IntKind.max, IntKind.signed, IntKind.bits] using h

/-- An int. -/
theorem read_int {t : TypeId} {W : World} {b0 : Nat} {v : Value} {d : DataW H} {p : List MemPlace} (ht : P.underlying t = some (.int .i64)) (hv : Value.okWide P W .any b0 t v) (h : DataW.Trod enc P W 0 (fun _ => true) true t v d p) :
    ∃ n, v = .int .i64 n ∧ -9223372036854775808 ≤ n ∧ n ≤ 9223372036854775807 := by
  obtain ⟨n, rfl, _, _, hw⟩ := open_int ht hv h
  exact ⟨n, rfl, int_range hw⟩
theorem read_bool {t : TypeId} {W : World} {b0 : Nat} {v : Value} {d : DataW H} {p : List MemPlace} (ht : P.underlying t = some .bool) (hv : Value.okWide P W .any b0 t v) (h : DataW.Trod enc P W 0 (fun _ => true) true t v d p) :
    ∃ b, v = .bool b := by
  obtain ⟨n, rfl, _, _⟩ := open_bool ht hv h
  exact ⟨n, rfl⟩
/-- A slice of ints. -/
theorem read_ints {t e : TypeId} {W : World} {b0 : Nat} {v : Value} {d : DataW H} {p : List MemPlace} (ht : P.underlying t = some (.slice e)) (he : P.underlying e = some (.int .i64)) (hc : P.cellsOf e = 1)
    (hv : Value.okWide P W .any b0 t v) (h : DataW.Trod enc P W 0 (fun _ => true) true t v d p) : ∃ l : List Int, Arr W v (ints l) ∧ ∀ n ∈ l, -9223372036854775808 ≤ n ∧ n ≤ 9223372036854775807 := by
  obtain ⟨a, l, c, rfl⟩ := okWide_slice ht hv
  obtain ⟨fuel, hf⟩ := h
  exact arr_of_trod ht he hc (by simpa [Value.cells] using hf)
/-- A struct of an int and a slice of ints. -/
theorem read_graph {t ti ts e : TypeId} {f0 f1 : Field} {W : World} {b0 : Nat} {v : Value} {d : DataW H} {p : List MemPlace} (hs : P.underlying t = some (.struct #[f0, f1])) (hone : Go.Deep.oneCellFields P #[f0, f1] = true) (hC : P.cellsOf t = 2)
    (h0 : f0.type = ti) (h1 : f1.type = ts) (hi : P.underlying ti = some (.int .i64)) (ht : P.underlying ts = some (.slice e)) (he : P.underlying e = some (.int .i64)) (hc : P.cellsOf e = 1)
    (hv : Value.okWide P W .any b0 t v) (h : DataW.Trod enc P W 0 (fun _ => true) true t v d p) :
    ∃ (n : Int) (sv : Value) (l : List Int), v = .agg #[.int .i64 n, sv] ∧ Arr W sv (ints l) ∧ (-9223372036854775808 ≤ n ∧ n ≤ 9223372036854775807) ∧ ∀ n ∈ l, -9223372036854775808 ≤ n ∧ n ≤ 9223372036854775807 := by
  subst h0 h1
  obtain ⟨c0, c1, y0, y1, m, rfl, rfl, rfl, hy0, hy1⟩ := open_agg2 hs hone hC hv h
  obtain ⟨n, hn, _, hw⟩ := DataW.trod_int hi hy0
  obtain rfl := (List.cons.inj hn).1
  obtain ⟨l, ha, hl⟩ := arr_of_trod ht he hc hy1
  exact ⟨n, c1, l, rfl, ha, int_range hw, hl⟩
/-- A struct of three slices of ints. -/
theorem read_three {t ts e : TypeId} {f0 f1 f2 : Field} {W : World} {b0 : Nat} {v : Value} {d : DataW H} {p : List MemPlace} (hs : P.underlying t = some (.struct #[f0, f1, f2])) (hone : Go.Deep.oneCellFields P #[f0, f1, f2] = true) (hC : P.cellsOf t = 3)
    (h0 : f0.type = ts) (h1 : f1.type = ts) (h2 : f2.type = ts) (ht : P.underlying ts = some (.slice e)) (he : P.underlying e = some (.int .i64)) (hc : P.cellsOf e = 1)
    (hv : Value.okWide P W .any b0 t v) (h : DataW.Trod enc P W 0 (fun _ => true) true t v d p) :
    ∃ (sa sb sc : Value) (a b c : List Int), v = .agg #[sa, sb, sc] ∧ Arr W sa (ints a) ∧ Arr W sb (ints b) ∧ Arr W sc (ints c) ∧ (∀ n ∈ a, -9223372036854775808 ≤ n ∧ n ≤ 9223372036854775807) ∧
      (∀ n ∈ b, -9223372036854775808 ≤ n ∧ n ≤ 9223372036854775807) ∧ (∀ n ∈ c, -9223372036854775808 ≤ n ∧ n ≤ 9223372036854775807) := by
  obtain ⟨c0, c1, c2, y0, y1, y2, m, rfl, rfl, rfl, hy0, hy1, hy2⟩ := open_agg3 hs hone hC hv h
  rw [h0] at hy0; rw [h1] at hy1; rw [h2] at hy2
  obtain ⟨a, ha, la⟩ := arr_of_trod ht he hc hy0
  obtain ⟨b, hb, lb⟩ := arr_of_trod ht he hc hy1
  obtain ⟨c, hc', lc⟩ := arr_of_trod ht he hc hy2
  exact ⟨c0, c1, c2, a, b, c, rfl, ha, hb, hc', la, lb, lc⟩
end
end Go.Pw
