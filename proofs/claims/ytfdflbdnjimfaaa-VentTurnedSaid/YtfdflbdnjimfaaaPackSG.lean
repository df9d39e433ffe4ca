/- The document's Lists and Blanks. No condition. -/
import Derived.Test.YtfdflbdnjimfaaaPackSF
import Derived.Test.YtfdflbdnjimfaaaPackTV
import Derived.Test.YtfdflbdnjimfaaaPackTE

namespace Go.Proofs.Vent
open Go.V Go.Proofs

def encN (l:List Nat):List D:=encW (castL l)
def fromN (b:List Nat):Nat:=match b.getLast? with | some x=>x+1 | none=>0



def blanksQ (n:Nt) (wt:List Int):Nat→Nat→List Int × Int
 | 0,_=>([],9)
 | r+1,many=>match ((n.look [] wt).listsF n.pipes.length 0 many []).find? (fun l=>(n.look (castL l) wt).separate) with
  | some l=>(castL l,0)
  | none=>blanksQ n wt r (many+1)



end Go.Proofs.Vent
