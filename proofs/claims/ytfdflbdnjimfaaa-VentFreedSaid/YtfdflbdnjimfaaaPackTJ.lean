/- The document's spread: the greatest closed set; The document's Stepped and After. No condition. -/
import Derived.Test.YtfdflbdnjimfaaaPackTI
import Derived.Test.YtfdflbdnjimfaaaPackTH
import Derived.Test.YtfdflbdnjimfaaaPackTC

namespace Go.Proofs.Vent
open Go.V Go.Proofs

def cellF (c f i:Nat):D:=match c.testBit i with | true=>.ff | false=>.bool (f.testBit i)
def bitsC (c f:Nat):List D:=(List.range 7).map (cellF c f)
def stC (c f b:Nat):List D:=bitsC c f++bitsD b
def stA (f b:Nat):List D:=bitsD f++bitsD b
def notFF:List D→Nat
 | []=>0
 | .ff::r=>notFF r
 | _::r=>notFF r+1
def muS (σ:St):Nat:=(match σ.boxes[(1:Nat)]? with | some (Box.flat _ cs)=>2*notFF cs | _=>0)+(match Go.V.look σ.tmps 7 with | some .tt=>1 | _=>0)

def ShutN (n:Nt) (bl:List Int) (b X:Nat):Prop:=∀ i p,n.pipes[i]?=some p→hasI bl (i:Nat)=false →
 (X.testBit p.to.toNat=true→b.testBit p.to.toNat=false→X.testBit p.fr.toNat=true)∧(X.testBit p.fr.toNat=true→b.testBit p.fr.toNat=false→X.testBit p.to.toNat=true)
structure Sp (n:Nt) (bl:List Int) (f b g:Nat):Prop where
 sub:Sub g f
 shut:ShutN n bl b g
 most:∀ X,Sub X f→ShutN n bl b X→Sub X g



end Go.Proofs.Vent

namespace Go.Proofs.Vent
open Go.V Go.Proofs

def cellZ (z:Bool) (f i:Nat):D:=match z with | true=>.ff | false=>.bool (f.testBit i)
def stZ (z:Bool) (f b:Nat):List D:=(List.range 7).map (cellZ z f)++(List.range 7).map (cellZ z b)

def cellT (v f i:Nat):D:=match decide (i=v) with | true=>.tt | false=>.bool (f.testBit i)
def stT (v f b:Nat):List D:=(List.range 7).map (cellT v f)++bitsD b

theorem look_kept {n:Nt} {bl wt:List Int} {v:Nat} {t:Tk} (ht:n.tanks[v]?=some t):(n.look bl wt).kept.testBit v=t.kept:=by
 show (setOf n.tanks.length n.keptB).testBit v=_
 have hv:=(List.getElem?_eq_some_iff.1 ht).1
 rw [setOf_bit,decide_eq_true hv,Bool.true_and]
 unfold Nt.keptB
 rw [ht]



end Go.Proofs.Vent
