/- Slices of bools that come in as arguments. -/
import Derived.Test.YtaadjebiglihlaaPwLaw
import Derived.Test.YtaadjebiglihlaaPwBool
import Derived.Deep.Grids
namespace Go.Pw
open Go Go.RowKit Go.ChangeShapes Go.WideShapes Go.ChangeAt Go.Joins
section
variable {H : Type} {enc : TypeId × Value → H} {P : Program}
theorem read_bools {t e : TypeId} {W : World} {b0 : Nat} {v : Value} {d : DataW H} {p : List MemPlace} (ht : P.underlying t = some (.slice e)) (he : P.underlying e = some .bool) (hc : P.cellsOf e = 1)
    (hv : Value.okWide P W .any b0 t v) (h : DataW.Trod enc P W 0 (fun _ => true) true t v d p) : ∃ l : List Bool, Arr W v (bools l) := by
  obtain ⟨a, l, c, rfl⟩ := okWide_slice ht hv
  obtain ⟨fuel, hf⟩ := h
  rcases Go.Deep.open_bools ht he hc (by simpa [Value.cells] using hf) with ⟨h1, _⟩ | ⟨a, len, cap, B, h1, _, h2, h3, _, h5⟩
  · rw [List.cons.inj h1 |>.1]
    exact ⟨[], ⟨rfl, .inl ⟨rfl, none, 0, rfl, fun _ => rfl⟩⟩⟩
  · rw [List.cons.inj h1 |>.1]
    refine ⟨(List.range len).map B, ?_⟩
    have hf : fitsB (.slice (some a) len cap) = true := Nat.ble_eq_true_of_le h2
    by_cases h0 : len = 0
    · subst h0; exact ⟨hf, .inl ⟨by simp [bools], some a, cap, rfl, fun h => by cases h⟩⟩
    · obtain ⟨b, off, spot⟩ := a
      have hspot : spot = none := by simpa [Addr.add] using World.cell?_spot (h5 0 (by omega))
      subst hspot
      have hl : (bools ((List.range len).map B)).length = len := by simp
      refine ⟨hf, .inr ⟨b, off, cap, by rw [hl], by omega, by omega, fun i hi => ?_⟩⟩
      rw [hl] at hi
      rw [← Go.WideShapes.add_plain, h5 i (by omega)]
      simp [bools, hi]
end
end Go.Pw
