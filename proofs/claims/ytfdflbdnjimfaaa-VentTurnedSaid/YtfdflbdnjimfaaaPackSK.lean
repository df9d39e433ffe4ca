/- VentCuts: Way, Blanks, Ways and Proves return what the document says. No condition. -/
import Derived.Test.YtfdflbdnjimfaaaPackSJ
import Derived.Test.YtfdflbdnjimfaaaPackSG
import Derived.Test.YtfdflbdnjimfaaaPackSI
import Derived.Test.YtfdflbdnjimfaaaPackTW
import Derived.Test.YtfdflbdnjimfaaaPackTC

namespace Go.Proofs.Vent
open Go.V Go.Proofs

theorem eqInts_self (a:List Int):eqInts a a=true:=eqInts_eq.2 rfl
theorem blanksR_len (n:Nt) (wt:List Int):(n.blanksR wt).1.length<9223372036854775808:=by
 by_cases he:n.lookE [] wt true=0
 ·obtain ⟨_,L,E,WS,h1,_,h3,h4,_⟩:=proved_facts he
  rw [h1]
  simp only [castL_len]
  omega
 ·unfold Nt.blanksR
  rw [if_neg he]
  exact (by decide:(0:Nat)<9223372036854775808)


end Go.Proofs.Vent
