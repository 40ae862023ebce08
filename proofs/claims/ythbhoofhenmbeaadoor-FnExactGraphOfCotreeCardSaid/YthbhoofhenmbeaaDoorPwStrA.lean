/- A string that came in. -/
import Derived.Test.YthbhoofhenmbeaaDoorPwLaw
import Derived.ChangeMaps5
namespace Go.Pw
open Go Go.RowKit Go.ChangeShapes Go.WideShapes Go.ChangeAt Go.ChangeMaps
theorem read_str {P : Program} {H : Type} {enc : TypeId × Value → H} {t : TypeId} {W : World} {b0 : Nat} {v : Value} {d : DataW H} {p : List MemPlace} (ht : P.underlying t = some .string) (hv : Value.okWide P W .any b0 t v) (h : DataW.Trod enc P W 0 (fun _ => true) true t v d p) :
    ∃ s, v = .string s := by
  obtain ⟨s, rfl, _⟩ := open_string ht hv h
  exact ⟨s, rfl⟩
end Go.Pw
