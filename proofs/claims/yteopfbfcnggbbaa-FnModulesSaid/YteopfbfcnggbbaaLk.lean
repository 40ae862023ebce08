/- What every law's text of this seat shares. -/
import Derived.Test.YteopfbfcnggbbaaLa
import Derived.Test.YteopfbfcnggbbaaRows
import Derived.Test.YteopfbfcnggbbaaPwLaw
import Derived.ProofKit
namespace Go.Proofs.Yteopfbfcnggbbaa
open Go Go.RowKit Go.Pw Go.ChangeShapes Go.WideShapes Go.ChangeAt
theorem own : ownKnob Try.prog.godebug = none := by kernel_rfl
theorem laidOut : laidOutB Try.prog = true := by kernel_rfl
end Go.Proofs.Yteopfbfcnggbbaa
