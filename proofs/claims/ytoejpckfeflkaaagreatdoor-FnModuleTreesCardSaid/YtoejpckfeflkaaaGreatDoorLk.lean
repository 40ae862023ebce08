/- What every law's text of this seat shares. -/
import Derived.Test.YtoejpckfeflkaaaGreatDoorLa
import Derived.Test.YtoejpckfeflkaaaGreatDoorRows
import Derived.Test.YtoejpckfeflkaaaGreatDoorPwLaw
import Derived.ProofKit
namespace Go.Proofs.YtoejpckfeflkaaaGreatDoor
open Go Go.RowKit Go.Pw Go.ChangeShapes Go.WideShapes Go.ChangeAt
theorem own : ownKnob Tryz.prog.godebug = none := by kernel_rfl
theorem laidOut : laidOutB Tryz.prog = true := by kernel_rfl
end Go.Proofs.YtoejpckfeflkaaaGreatDoor
