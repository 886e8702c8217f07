/- Plans: sizes, copies, equality, and a plan among the arguments. -/
import Derived.Test.YtikapnphnkoelaaP1
import Derived.ProofKit
import Derived.Lib.SmallJoins
namespace Go.Proofs.Ytikapnphnkoelaa
open Go.RowKit




end Go.Proofs.Ytikapnphnkoelaa
