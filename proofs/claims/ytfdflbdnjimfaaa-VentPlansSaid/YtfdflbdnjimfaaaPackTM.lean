/- The statements' Any: steps that can be done. No condition. -/
import Derived.Test.YtfdflbdnjimfaaaPackTK
import Derived.Test.YtfdflbdnjimfaaaPackTC

namespace Go.Proofs.Vent
open Go.V Go.Proofs

abbrev AnyS:=List Vs × List Bool × Int
def anyStep (n:Nt) (bw:Int) (b:Nat) (s:AnyS):AnyS :=
 if (n.keptB (b % n.tanks.length) || (!(s.2.1.getD (b % n.tanks.length) false) && decide (s.2.2 ≥ bw)))=true then s
 else (s.1++[⟨((b % n.tanks.length:Nat):Int),s.2.1.getD (b % n.tanks.length) false⟩],s.2.1.set (b % n.tanks.length) (!(s.2.1.getD (b % n.tanks.length) false)),if s.2.1.getD (b % n.tanks.length) false=true then s.2.2 - 1 else s.2.2+1)
def anyL (n:Nt) (bw:Int):List Nat→AnyS→AnyS
 | [],s=>s
 | b::r,s=>if s.1.length<60 then anyL n bw r (anyStep n bw b s) else s
def beginL:List Vs→List Bool × Int→List Bool × Int
 | [],s=>s
 | x::r,s=>beginL r (s.1.set x.tank.toNat (!x.off),if x.off=true then s.2 - 1 else s.2+1)
def anyR (n:Nt) (bg:List Vs) (xs:List Nat) (bw:Int):List Vs:=(anyL n bw xs (bg,beginL bg ([false,false,false,false,false,false,false],0))).1
def encB (b:Nat):List D:=[.int .u8 b]
def TellR (R:List (List D)) (out:List Vs):Prop:=R.map (·.map normB)=out.map Vs.enc


end Go.Proofs.Vent
