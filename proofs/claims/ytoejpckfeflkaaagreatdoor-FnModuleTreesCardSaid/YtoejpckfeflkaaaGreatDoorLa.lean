/- The laws' own helpers: copies, sizes, comparisons. -/
import Derived.Test.YtoejpckfeflkaaaGreatDoorFacts
namespace Go.Proofs.YtoejpckfeflkaaaGreatDoor
open Go Go.RowKit Go.Pw

theorem eq_of_getD {a b : List Int} (hl : a.length = b.length) (h : ∀ i, i < a.length → a.getD i 0 = b.getD i 0) : a = b := by
  apply List.ext_getElem hl
  intro i h1 h2
  have := h i h1
  simpa [List.getD, h1, h2] using this

end Go.Proofs.YtoejpckfeflkaaaGreatDoor
