/- The document's Way is Way: the first of the shortest ways. No condition. -/
import Derived.Test.YtfdflbdnjimfaaaPackTP
import Derived.Test.YtfdflbdnjimfaaaPackTS
import Derived.Test.YtfdflbdnjimfaaaPackSF
import Derived.Test.YtfdflbdnjimfaaaPackSH

namespace Go.Proofs.Vent
open Go.V Go.Proofs

/-! Lists compared number by number. -/

inductive QP (n:Nt) (bl wt:List Int):List Int→List Nat→Prop
 | nil {tanks:List Int}:hasI wt (lastI tanks)=true→QP n bl wt tanks []
 | cons {tanks:List Int} {i:Nat} {p:Rp} {ws:List Nat}:hasI wt (lastI tanks)=false→n.pipes[i]?=some p→skipP n bl tanks (lastI tanks) p i=false→QP n bl wt (tanks++[otherI p (lastI tanks)]) ws→QP n bl wt tanks (i::ws)



section
variable {n:Nt} {bl wt:List Int}

def GW (n:Nt) (bl wt:List Int) (many k:Nat) (ws:List Nat):Prop:=k<n.tanks.length∧n.keptB k=true∧QP n bl wt [(k:Int)] ws∧ws.length=many
end


end Go.Proofs.Vent
