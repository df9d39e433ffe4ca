/- What ballasted_holds leans on, part RF. No condition. -/
import Derived.Test.YthglcafppddedaaGreatDoorPackRE

set_option linter.all false
namespace Go.Proofs.Ball.R12
open Go.V Go.Proofs Go.Proofs.Ball
set_option maxRecDepth 100000
theorem t:L.cal 12 []=some (.bool true):=by kernel_rfl
theorem den:DN 12 [] (.bool true):=Dl t
end Go.Proofs.Ball.R12
