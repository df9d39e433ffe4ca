/- Plan and Fewest: when there are steps, and with how many blowers. No condition. -/
import Derived.Test.YtfdflbdnjimfaaaPackTO
import Derived.Test.YtfdflbdnjimfaaaPackTC
import Derived.Test.YtfdflbdnjimfaaaPackTK

namespace Go.Proofs.Vent
open Go.V Go.Proofs



theorem want_in {n:Nt} {bl wt:List Int} (hin:inAll n.tanks.length wt):∀ v,(n.look bl wt).wanted.testBit v=true→v<(n.look bl wt).tanks.length:=fun v hv=>by
 have h1:=(want_iff (bl:=bl) hin v).1 hv
 have h2:=hin _ h1
 have h3:(n.look bl wt).tanks.length=n.tanks.length:=rfl
 omega
theorem planN_of {n:Nt} {bl wt:List Int} {k:Int} (he:n.lookE bl wt true=0) (h1:1≤k) (h7:k≤7):n.planN bl wt k=match (n.look bl wt).plan k with
    | none=>([],9)
    | some l=>(l,0):=by
  unfold Nt.planN
  rw [if_pos he,if_neg (by omega)]
  cases (n.look bl wt).plan k <;> rfl

end Go.Proofs.Vent
