/- Draws of plans and states: spec.l20Doing. -/
import Derived.Test.YtpefimeogbpagaaW5
import Derived.Test.YtpefimeogbpagaaW6
import Derived.Deep.RegionHeldLaw
import Derived.Deep.CutRange
import Derived.Deep.DrawnRows
set_option linter.unusedSimpArgs false
namespace Go.Proofs.Ytpefimeogbpagaa
open Go.RowKit
attribute [local go_sem ↓] Go.wp_at_zero Go.wp_at_succ


end Go.Proofs.Ytpefimeogbpagaa
