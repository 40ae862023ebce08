/- What every law's text of this seat shares. -/
import Derived.Test.YtmmflnigejfplaaGreatLa
import Derived.Test.YtmmflnigejfplaaGreatRows
import Derived.Test.YtmmflnigejfplaaGreatPwLaw
import Derived.ProofKit
namespace Go.Proofs.YtmmflnigejfplaaGreat
open Go Go.RowKit Go.Pw Go.ChangeShapes Go.WideShapes Go.ChangeAt
theorem own : ownKnob Tryz.prog.godebug = none := by kernel_rfl
theorem laidOut : laidOutB Tryz.prog = true := by kernel_rfl
end Go.Proofs.YtmmflnigejfplaaGreat
