/- The document's gas and Proves, walked. No condition. -/
import Derived.Test.YtfdflbdnjimfaaaPackSH

namespace Go.Proofs.Vent
open Go.V Go.Proofs



end Go.Proofs.Vent
