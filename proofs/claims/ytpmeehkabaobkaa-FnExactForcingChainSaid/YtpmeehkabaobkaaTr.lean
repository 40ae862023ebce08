/- Module trees: the laws' helpers; marks. -/
import Derived.Test.YtpmeehkabaobkaaMk
import Derived.Test.YtpmeehkabaobkaaPwTurn
namespace Go.Proofs.Ytpmeehkabaobkaa
open Go Go.RowKit Go.Pw

end Go.Proofs.Ytpmeehkabaobkaa
