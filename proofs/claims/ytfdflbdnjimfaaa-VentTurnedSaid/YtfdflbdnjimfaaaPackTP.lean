/- The way that Way returns: a shortest one, and the first of them. No condition. -/
import Derived.Test.YtfdflbdnjimfaaaPackTF
import Derived.Test.YtfdflbdnjimfaaaPackTE
import Derived.Test.YtfdflbdnjimfaaaPackTH
import Derived.Test.YtfdflbdnjimfaaaPackTC

namespace Go.Proofs.Vent
open Go.V Go.Proofs

inductive NetL.Wk (n:NetL):Nat→Nat→Prop
 | zero {v:Nat}:n.wanted.testBit v=true→NetL.Wk n 0 v
 | step {t u v:Nat}:n.adj u v→n.kept.testBit v=false→NetL.Wk n t v→NetL.Wk n (t+1) u

def NetL.f0 (n:NetL):List Int:=farW (far0 n.tanks.length 7) (tanksU n.wanted) (tanksU n.wanted).length

def NetL.Snd (n:NetL) (l:List Int):Prop:=l.length=7∧∀ v,v<7→farAt l v<n.tanks.length→∃ t:Nat,farAt l v=t∧n.Wk t v


section
open Classical
noncomputable def nearB (n:NetL) (m u:Nat):Bool:=decide (∃ s,s≤m∧n.Wk s u)
end



inductive NetL.Pth (n:NetL):Nat→List Nat→Prop
 | nil {a:Nat}:n.wanted.testBit a=true→NetL.Pth n a []
 | cons {a b i:Nat} {p:Pp} {ws:List Nat}:n.pipes[i]?=some p→n.opN i=true→p.ends a b→n.kept.testBit b=false→farAt n.far b+1=farAt n.far a→NetL.Pth n b ws→NetL.Pth n a (i::ws)
def lexle:List Nat→List Nat→Prop
 | [],_=>True
 | _::_,[]=>False
 | a::r,b::s=>a<b∨(a=b∧lexle r s)





end Go.Proofs.Vent
