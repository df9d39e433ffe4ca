/- The document's gas and Proves: what they say. No condition. -/
import Derived.Test.YtfdflbdnjimfaaaPackTQ
import Derived.Test.YtfdflbdnjimfaaaPackTV
import Derived.Test.YtfdflbdnjimfaaaPackSF

namespace Go.Proofs.Vent
open Go.V Go.Proofs

def stepTo (n:Nt) (last v:Int):Int:=match offB n.pipes.length v with
 | true=>-1
 | false=>match n.pipes[v.toNat]? with
  | none=>-1
  | some p=>otherI p last
def gasW (n:Nt) (wt:List Int):List Int→List Int→Bool
 | [],_=>true
 | v::r,tanks=>match decide (stepTo n (lastI tanks) v ≥ 0) && (!(hasI tanks (stepTo n (lastI tanks) v)) && (!(n.keepB (stepTo n (lastI tanks) v)) && (hasI wt (stepTo n (lastI tanks) v)==r.isEmpty))) with
  | true=>gasW n wt r (tanks++[stepTo n (lastI tanks) v])
  | false=>false
def gasQ (n:Nt) (wt way:List Int):Bool:=(List.range n.tanks.length).any fun k=>n.keptB k && (!(way.isEmpty) && gasW n wt way [(k:Int)])
theorem hasI_want {n:Nt} {bl wt:List Int} (hin:inAll n.tanks.length wt) (t:Nat):hasI wt (t:Int)=(n.look bl wt).wanted.testBit t:=by
 apply Bool.eq_iff_iff.2
 rw [want_iff hin]
 unfold hasI
 rw [List.any_eq_true]
 exact ⟨fun ⟨x,h1,h2⟩=>by rw [beq_iff_eq.1 h2];exact h1,fun h=>⟨_,h,beq_self_eq_true _⟩⟩


def provesG (n:Nt) (wt:List Int):List (List Int)→List Int→Bool
 | [],_=>true
 | w::r,seen=>match gasQ n wt w with
  | false=>false
  | true=>match w.any fun v=>hasI seen v && !(n.weldB v) with
   | true=>false
   | false=>provesG n wt r (seen++w)


end Go.Proofs.Vent
