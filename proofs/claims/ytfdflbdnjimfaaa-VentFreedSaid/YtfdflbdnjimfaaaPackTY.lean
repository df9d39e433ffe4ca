/- Steps that lead somewhere: what Any yields. No condition. -/
import Derived.Test.YtfdflbdnjimfaaaPackTK
import Derived.Test.YtfdflbdnjimfaaaPackTM

namespace Go.Proofs.Vent
open Go.V Go.Proofs

theorem tanks_len (s:Nat):(tanks s).length<9223372036854775808:=by have:=tanksN_le s 7;unfold tanks;omega

theorem hasI_tanks {f v:Nat} (hv:v<7):hasI (tanks f) (v:Int)=f.testBit v:=by
 apply Bool.eq_iff_iff.2
 unfold hasI
 rw [List.any_eq_true,tanks_eq]
 constructor
 ·rintro ⟨x,hx,he⟩
  obtain ⟨i,hi,rfl⟩:=List.mem_map.1 hx
  have h1:(v:Int)=(i:Int):=beq_iff_eq.1 he
  have h2:v=i:=by omega
  rw [h2]
  exact (mem_tanksU.1 hi).2
 ·intro h
  exact ⟨(v:Int),List.mem_map.2 ⟨v,mem_tanksU.2 ⟨hv,h⟩,rfl⟩,beq_self_eq_true _⟩



def Leads (m:NetL) (out:List Vs) (op:List Bool) (f b:Nat):Prop:=m.afterL out 0 0=(0,f,b)∧StOK m f b∧∀ k,k<7→op.getD k false=b.testBit k
theorem getD_set {op:List Bool} {k j:Nat} {v:Bool} (hk:k<op.length):(op.set k v).getD j false=if j=k then v else op.getD j false:=by
 rw [List.getD_eq_getElem?_getD,List.getElem?_set]
 by_cases e:k=j
 ·subst e;simp [hk]
 ·rw [if_neg e,if_neg (fun h=>e h.symm),List.getD_eq_getElem?_getD]

theorem Leads.nil (m:NetL):Leads m [] [false,false,false,false,false,false,false] 0 0:=by
 refine ⟨rfl,.zero m,fun k hk=>?_⟩
 rw [Nat.zero_testBit]
 match k,hk with
 | 0,_ | 1,_ | 2,_ | 3,_ | 4,_ | 5,_ | 6,_=>rfl


end Go.Proofs.Vent
