/- One more blank: no more tanks are joined, and no more blowers are needed. No condition. -/
import Derived.Test.YtfdflbdnjimfaaaPackTS
import Derived.Test.YtfdflbdnjimfaaaPackTV

namespace Go.Proofs.Vent
open Go.V Go.Proofs


def moreB (n:Nt) (bl:List Int) (p i:Nat):Bool:=hasI bl i || (decide (i=p) && !(n.weldB i))
def moreN (n:Nt) (bl:List Int) (p k:Nat):List Nat:=(List.range k).filter (moreB n bl p)


end Go.Proofs.Vent
