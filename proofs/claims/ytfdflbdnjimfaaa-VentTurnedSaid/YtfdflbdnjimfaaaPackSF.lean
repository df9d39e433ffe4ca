/- The document's ways and Way. No condition. -/
import Derived.Test.YtfdflbdnjimfaaaPackTH
import Derived.Test.YtfdflbdnjimfaaaPackTK

namespace Go.Proofs.Vent
open Go.V Go.Proofs

def lastI (l:List Int):Int:=dAt l (l.length - 1)

def skipP (n:Nt) (bl tanks:List Int) (last:Int) (p:Rp) (i:Nat):Bool :=
 decide (otherI p last<0) || (hasI bl i || (hasI tanks (otherI p last) || n.keepB (otherI p last)))
def waysI (n:Nt) (bl tanks:List Int) (last:Int) (rec:Nat→Int→List Int × Bool):Nat→Nat→Option (List Int)
 | 0,_=>none
 | c+1,i=>match n.pipes[i]? with
  | none=>none
  | some p=>match skipP n bl tanks last p i with
   | true=>waysI n bl tanks last rec c (i+1)
   | false=>match rec i (otherI p last) with
    | (l,true)=>some l
    | (_,false)=>waysI n bl tanks last rec c (i+1)
def waysQ (n:Nt) (bl wt:List Int) (many:Int):Nat→List Int→List Int→List Int × Bool
 | 0,_,_=>([],false)
 | r+1,bg,tanks =>
  match hasI wt (lastI tanks) || ((bg.length:Int)==many) with
  | true=>(bg,hasI wt (lastI tanks) && ((bg.length:Int)==many))
  | false=>match waysI n bl tanks (lastI tanks) (fun i to=>waysQ n bl wt many r (bg++[(i:Int)]) (tanks++[to])) n.pipes.length 0 with
   | some l=>(l,true)
   | none=>([],false)
def tupLB (x:List Int × Bool):D:=.tup [.list 1 (x.1.map encI),.bool x.2]


def bestK (n:Nt) (bl wt:List Int) (many:Int):Nat→Nat→List Int→List Int
 | 0,_,best=>best
 | c+1,k,best=>match n.keptB k with
  | false=>bestK n bl wt many c (k+1) best
  | true=>match waysQ n bl wt many 8 [] [(k:Int)] with
   | (_,false)=>bestK n bl wt many c (k+1) best
   | (l,true)=>match ((best.length:Int)==0) || beforeI l best with
    | true=>bestK n bl wt many c (k+1) l
    | false=>bestK n bl wt many c (k+1) best
def wayRF (n:Nt) (bl wt:List Int):Nat→Nat→List Int × Int
 | 0,_=>([],4)
 | r+1,many=>match decide (((bestK n bl wt many n.tanks.length 0 []).length:Int) > 0) with
  | true=>(bestK n bl wt many n.tanks.length 0 [],0)
  | false=>wayRF n bl wt r (many+1)
def Nt.wayR (n:Nt) (bl wt:List Int):List Int × Int :=
 if n.lookE bl wt true=0 then wayRF n bl wt (n.tanks.length - 1) 1 else ([],n.lookE bl wt true)


end Go.Proofs.Vent
