/- Steps that lead somewhere: what Any yields. No condition. -/
import Derived.Test.YtfdflbdnjimfaaaPackTK
import Derived.Test.YtfdflbdnjimfaaaPackTM

namespace Go.Proofs.Vent
open Go.V Go.Proofs





def Leads (m:NetL) (out:List Vs) (op:List Bool) (f b:Nat):Prop:=m.afterL out 0 0=(0,f,b)∧StOK m f b∧∀ k,k<7→op.getD k false=b.testBit k



end Go.Proofs.Vent
