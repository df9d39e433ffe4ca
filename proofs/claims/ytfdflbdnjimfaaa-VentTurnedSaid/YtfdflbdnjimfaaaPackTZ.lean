/- Any steps with so many blowers: what they lead to. No condition. -/
import Derived.Test.YtfdflbdnjimfaaaPackTY
import Derived.Test.YtfdflbdnjimfaaaPackTO
import Derived.Test.YtfdflbdnjimfaaaPackTS

namespace Go.Proofs.Vent
open Go.V Go.Proofs








end Go.Proofs.Vent
