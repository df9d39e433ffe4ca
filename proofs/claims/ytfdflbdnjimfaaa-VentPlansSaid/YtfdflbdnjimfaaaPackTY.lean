/- Steps that lead somewhere: what Any yields. No condition. -/
import Derived.Test.YtfdflbdnjimfaaaPackTK
import Derived.Test.YtfdflbdnjimfaaaPackTM

namespace Go.Proofs.Vent
open Go.V Go.Proofs

theorem tanks_len (s:Nat):(tanks s).length<9223372036854775808:=by have:=tanksN_le s 7;unfold tanks;omega

theorem hasI_tanks {f v:Nat} (hv:v<7):hasI (tanks f) (v:Int)=f.testBit v:=by
 apply Bool.eq_iff_iff.2
 unfold hasI
 rw [List.any_eq_true,tanks_eq]
 constructor
 ·rintro ⟨x,hx,he⟩
  obtain ⟨i,hi,rfl⟩:=List.mem_map.1 hx
  have h1:(v:Int)=(i:Int):=beq_iff_eq.1 he
  have h2:v=i:=by omega
  rw [h2]
  exact (mem_tanksU.1 hi).2
 ·intro h
  exact ⟨(v:Int),List.mem_map.2 ⟨v,mem_tanksU.2 ⟨hv,h⟩,rfl⟩,beq_self_eq_true _⟩



theorem tanks_mem {b i:Nat} (h:i<(tanks b).length):∃ v:Nat,v<7∧b.testBit v=true∧(tanks b)[i]=(v:Int):=by
 have key:∀ x,x∈tanks b→∃ v:Nat,v<7∧b.testBit v=true∧x=(v:Int):=fun x hx=>by
  rw [tanks_eq] at hx
  obtain ⟨v,hv,rfl⟩:=List.mem_map.1 hx
  exact ⟨v,(mem_tanksU.1 hv).1,(mem_tanksU.1 hv).2,rfl⟩
 exact key _ (List.getElem_mem h)
def Leads (m:NetL) (out:List Vs) (op:List Bool) (f b:Nat):Prop:=m.afterL out 0 0=(0,f,b)∧StOK m f b∧∀ k,k<7→op.getD k false=b.testBit k
theorem getD_set {op:List Bool} {k j:Nat} {v:Bool} (hk:k<op.length):(op.set k v).getD j false=if j=k then v else op.getD j false:=by
 rw [List.getD_eq_getElem?_getD,List.getElem?_set]
 by_cases e:k=j
 ·subst e;simp [hk]
 ·rw [if_neg e,if_neg (fun h=>e h.symm),List.getD_eq_getElem?_getD]
theorem Leads.step {n:Nt} (hn:n.Ok) {bl wt:List Int} {out:List Vs} {op:List Bool} {f b k:Nat} (h:Leads (n.look bl wt) out op f b) (hop:op.length=7) (hk:k<n.tanks.length) (hkb:n.keptB k=false) :
    ∃ f' b',Leads (n.look bl wt) (out++[⟨(k:Int),op.getD k false⟩]) (op.set k (!(op.getD k false))) f' b':=by
  have h7:=hn.t7
  obtain ⟨h1,h2,h3⟩:=h
  have hkk:(n.look bl wt).kept.testBit k=false:=by rw [kept_iff,hkb,Bool.and_false]
  obtain ⟨s1,s2,s3⟩:=h2.step (by omega) hkk (op.getD k false) (h3 k (by omega)).symm
  obtain ⟨⟨⟨f',b'⟩,is_⟩,hs⟩:∃ y,(n.look bl wt).stepR f b k (op.getD k false)=y:=⟨_,rfl⟩
  rw [hs] at s1 s2 s3
  refine ⟨f',b',?_,s2,fun j hj=>?_⟩
  ·rw [NetL.afterL_app,h1]
   simp only [if_true,NetL.afterL]
   have ho:offB ((n.look bl wt).tanks.length:Int) ((k:Nat):Int)=false:=by
    unfold offB
    have:((n.look bl wt).tanks.length:Int)=n.tanks.length:=rfl
    rw [this,decide_eq_false (by omega),decide_eq_false (by omega)]
    rfl
   rw [ho]
   simp only [Int.toNat_natCast]
   rw [hs]
   have s1:is_=true:=s1
   subst s1
   rfl
  ·rw [getD_set (by omega),s3 j]
   by_cases e:j=k
   ·rw [if_pos e,if_pos e]
   ·rw [if_neg e,if_neg e,h3 j hj]

theorem anyL_leads {n:Nt} (hn:n.Ok) {bl wt:List Int} (bw:Int):∀ (xs:List Nat) (out:List Vs) (op:List Bool) (now:Int) (f b:Nat),Leads (n.look bl wt) out op f b→op.length=7→out.length≤60 →
    ∃ f' b',Leads (n.look bl wt) (anyL n bw xs (out,op,now)).1 (anyL n bw xs (out,op,now)).2.1 f' b'∧(anyL n bw xs (out,op,now)).1.length≤60
  | [],out,op,now,f,b,h,hop,hl=>⟨f,b,h,hl⟩
  | x::xs,out,op,now,f,b,h,hop,hl=>by
   have h1:=hn.t1
   unfold anyL
   by_cases hlen:out.length<60
   ·rw [if_pos hlen]
    have hk:x % n.tanks.length<n.tanks.length:=Nat.mod_lt _ (by omega)
    unfold anyStep
    by_cases hc:(n.keptB (x % n.tanks.length) || (!(op.getD (x % n.tanks.length) false) && decide (now ≥ bw)))=true
    ·rw [if_pos hc]
     exact anyL_leads hn bw xs out op now f b h hop hl
    ·rw [if_neg hc]
     rw [Bool.not_eq_true,Bool.or_eq_false_iff] at hc
     obtain ⟨f',b',h2⟩:=h.step hn hop hk hc.1
     exact anyL_leads hn bw xs _ _ _ f' b' h2 (by rw [List.length_set];exact hop) (by simp;omega)
   ·rw [if_neg hlen]
    exact ⟨f,b,h,hl⟩
theorem Leads.nil (m:NetL):Leads m [] [false,false,false,false,false,false,false] 0 0:=by
 refine ⟨rfl,.zero m,fun k hk=>?_⟩
 rw [Nat.zero_testBit]
 match k,hk with
 | 0,_ | 1,_ | 2,_ | 3,_ | 4,_ | 5,_ | 6,_=>rfl
theorem anyR_nil {n:Nt} (hn:n.Ok) (bl wt:List Int) (xs:List Nat) (bw:Int):∃ f b,(n.look bl wt).afterL (anyR n [] xs bw) 0 0=(0,f,b)∧StOK (n.look bl wt) f b∧(anyR n [] xs bw).length≤60:=by
 obtain ⟨f,b,h1,h2⟩:=anyL_leads hn bw xs [] [false,false,false,false,false,false,false] 0 0 0 (Leads.nil (n.look bl wt)) rfl (by decide)
 exact ⟨f,b,h1.1,h1.2.1,h2⟩


end Go.Proofs.Vent
