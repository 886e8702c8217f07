/- Plans: sizes, copies, equality, and a plan among the arguments. -/
import Derived.Test.YtpefimeogbpagaaP1
import Derived.ProofKit
import Derived.Lib.SmallJoins
namespace Go.Proofs.Ytpefimeogbpagaa
open Go.RowKit




end Go.Proofs.Ytpefimeogbpagaa
