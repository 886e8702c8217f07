/- Projects: sizes, copies, equality. -/
import Derived.Test.YtenhchfbmmlmmaaA4
import Derived.Deep.RegionHeld3
namespace Go.Proofs.Ytenhchfbmmlmmaa
open Go.RowKit





end Go.Proofs.Ytenhchfbmmlmmaa
