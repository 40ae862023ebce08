/- Bytes that came in: their reading. -/
import Derived.Test.YtoejpckfeflkaaaGreatDoorPwCur
import Derived.Test.YtoejpckfeflkaaaGreatDoorPwLaw
namespace Go.Pw
open Go Go.RowKit Go.ChangeShapes Go.WideShapes Go.ChangeAt Go.Joins
variable {P : Program} {H : Type} {enc : TypeId × Value → H}
theorem byts_of_trod {t e : TypeId} {base : Nat} {spare : Nat → Bool} {held : Bool} {w : World} {fuel : Nat} {v : Value} {x : DataW H × List MemPlace} (ht : P.underlying t = some (.slice e)) (he : P.underlying e = some (.int .u8)) (hc : P.cellsOf e = 1)
    (h : DataW.trod enc P w base spare held fuel t [v] = some x) : ∃ l : List Int, Arr w v (byts l) ∧ ∀ n ∈ l, 0 ≤ n ∧ n ≤ 255 := by
  rcases open_ints ht he hc h with ⟨h1, _⟩ | ⟨a, len, cap, zs, h1, _, h2, h3, h4, _, h5, h6⟩
  · obtain rfl := (List.cons.inj h1).1
    exact ⟨[], ⟨rfl, .inl ⟨rfl, none, 0, rfl, fun _ => rfl⟩⟩, fun n hn => (List.not_mem_nil hn).elim⟩
  · obtain rfl := (List.cons.inj h1).1
    have hlen : len ≤ zs.length := by rw [h4]; split <;> omega
    have hx : ∀ n ∈ zs.take len, 0 ≤ n ∧ n ≤ 255 := fun n hn => by
      have := h6 n (List.mem_of_mem_take hn)
      simpa [Lit.wf, IntKind.min, IntKind.max, IntKind.signed, IntKind.bits] using this
    refine ⟨zs.take len, ?_, hx⟩
    have hf : fitsB (.slice (some a) len cap) = true := Nat.ble_eq_true_of_le h2
    by_cases h0 : len = 0
    · subst h0; exact ⟨hf, .inl ⟨by simp [byts], some a, cap, rfl, fun h => by cases h⟩⟩
    · obtain ⟨b, off, rfl, hc⟩ := ints_at h5 (by omega)
      have hl : (byts (zs.take len)).length = len := by simp [byts, List.length_take]; omega
      refine ⟨hf, .inr ⟨b, off, cap, by rw [hl], by omega, by omega, fun i hi => ?_⟩⟩
      rw [hl] at hi
      rw [hc i (by omega)]
      have : i < (zs.take len).length := by simp [List.length_take]; omega
      rw [byts_get _ i this]
      simp [List.getD, hi]
/-- A slice of bytes. -/
theorem read_bytes {t e : TypeId} {W : World} {b0 : Nat} {v : Value} {d : DataW H} {p : List MemPlace} (ht : P.underlying t = some (.slice e)) (he : P.underlying e = some (.int .u8)) (hc : P.cellsOf e = 1)
    (hv : Value.okWide P W .any b0 t v) (h : DataW.Trod enc P W 0 (fun _ => true) true t v d p) : ∃ l : List Int, Arr W v (byts l) ∧ ∀ n ∈ l, 0 ≤ n ∧ n ≤ 255 := by
  obtain ⟨a, l, c, rfl⟩ := okWide_slice ht hv
  obtain ⟨fuel, hf⟩ := h
  exact byts_of_trod ht he hc (by simpa [Value.cells] using hf)
end Go.Pw
