/- VentFreed: what Plan's steps free stays free. No condition. -/
import Derived.Test.YtfdflbdnjimfaaaPackSD
import Derived.Test.YtfdflbdnjimfaaaPackTG
import Derived.Test.YtfdflbdnjimfaaaPackTJ
import Derived.Test.YtfdflbdnjimfaaaPackTK
import Derived.Test.YtfdflbdnjimfaaaPackTF

namespace Go.Proofs.Vent
open Go.V Go.Proofs

theorem okB_good {e cs:List D} (hc:okAll 2 cs=true) (he:okAll 2 e=true:=by rfl):okBoxes 2 [.flat false e,.flat false cs]=true:=by simp [okBoxes,he,hc]

set_option maxHeartbeats 16000000 in
theorem den43 (n:Nt) (hn:n.Ok) (bl wt:List Int) (k:Int) (l:List Vs) (hl:l.length≤60) {f1 b1:Nat} (hr:(n.look bl wt).runB k l 0 0=some (f1,b1)) :
    DN 43 [.agg n.enc,.list 2 (l.map Vs.enc),.int .i64 k] (.bool true):=by
  have h7:=hn.t7
  have htl:((n.tanks.map Tk.enc).length:Int)=n.tanks.length:=by simp
  have hll:((l.map Vs.enc).length:Int)=l.length:=by simp
  refine mk Try.func43 Try.call43 rfl rfl ?_
  refine ⟨[1,2,3,7,8,9],2,[],fun σ=>∃ (i f b:Nat) (now:Int) (op:List Bool) (cs:List D),i≤l.length∧op.length=7∧TellB cs op∧(∀ v,v<7→op.getD v false=b.testBit v)∧StOK (n.look bl wt) f b∧now=((pop b:Nat):Int)∧(n.look bl wt).runB k (l.drop i) f b=some (f1,b1) ∧
   σ=⟨[(1,.list 2 (l.map Vs.enc)),(2,.int .i64 k),(3,.loc 0 0),(7,.loc 1 0),(8,.int .i64 now),(9,.int .i64 i)],[.flat false n.enc,.flat false cs],.non⟩,
   fun σ=>(1000 - slotI 9 σ).toNat,rfl,⟨rfl,rfl⟩,⟨0,0,0,0,[false,false,false,false,false,false,false],[.ff,.ff,.ff,.ff,.ff,.ff,.ff],Nat.zero_le _,rfl,rfl,(Leads.nil (n.look bl wt)).2.2,.zero _,by decide,hr,rfl⟩,?_⟩
  rintro σ ⟨i,f,b,now,op,cs,hi,hop,htell,hob,hst,hnow,hrun,rfl⟩
  have hcl:cs.length=7:=by rw [htell.len,hop]
  refine ⟨fun q1=>?_,fun q1=>?_⟩
  rotate_left
  ·have hfin:decide (((l.map Vs.enc).length:Int)≤60)=true:=decide_eq_true (by rw [hll];omega)
   show some (D.bool (decide (((l.map Vs.enc).length:Int)≤60)))=some (D.bool true)
   rw [hfin]
  have q1:=of_decide_eq_true q1
  rw [hll] at q1
  have hi':i<l.length:=by omega
  have less:(1000 - ((i:Int)+1)).toNat<(1000 - (i:Int)).toNat:=by omega
  obtain ⟨x,hx⟩:∃ x,l[i]'hi'=x:=⟨_,rfl⟩
  have hdrop:l.drop i=x::l.drop (i+1):=by rw [List.drop_eq_getElem_cons hi',hx]
  have hrow:(l.map Vs.enc)[((i:Int)).toNat]?=some x.enc:=by simp [hi',hx]
  rw [hdrop] at hrun
  obtain ⟨h0,ht,ho,hk,f',b',hs,hp,hrun'⟩:=runB_cons hrun
  have ht:x.tank<n.tanks.length:=ht
  have hp7:=pop_le b
  have hp7':=pop_le b'
  obtain ⟨v,hv⟩:∃ v:Nat,x.tank.toNat=v:=⟨_,rfl⟩
  have hvx:x.tank=(v:Int):=by omega
  rw [hv] at ho hk hs
  have hv7:v<7:=by omega
  obtain ⟨s1,s2,s3⟩:=hst.step hv7 hk x.off ho.symm
  rw [hs] at s1 s2 s3
  obtain ⟨tk,htk⟩:∃ tk,n.tanks[v]?=some tk:=⟨_,List.getElem?_eq_getElem (by omega)⟩
  have htrow:(n.tanks.map Tk.enc)[x.tank.toNat]?=some tk.enc:=by rw [hv,List.getElem?_map,htk];rfl
  have htkk:tk.kept=false:=by rw [← look_kept (bl:=bl) (wt:=wt) htk];exact hk
  obtain ⟨d,hd,hdc⟩:=tellB_get htell (k:=v) (by omega)
  rw [hob v hv7,← ho] at hdc
  have hlk:=fun (y:D)=>(by rw [Nat.zero_add,hv];exact splice_set (by omega):splice cs (0+x.tank.toNat) [y]=cs.set v y)
  rw [← hv] at hd
  have htell2:=htell.set v (d:=.bool (!x.off)) (b:=!x.off) rfl
  have hob':∀ j,j<7→(op.set v (!x.off)).getD j false=b'.testBit j:=fun j hj=>by
   rw [getD_set (by omega),s3 j]
   by_cases e:j=v
   ·rw [if_pos e,if_pos e]
   ·rw [if_neg e,if_neg e,hob j hj]
  have hnow':(if x.off=true then now+1 - 2 else now+1)=((pop b':Nat):Int):=by
   cases hox:x.off with
   | true =>
    rw [hox] at ho hs
    rw [stepR_off hk ho.symm] at hs
    cases hs
    have:=pop_off (b:=b) hv7 ho.symm
    rw [if_pos rfl]
    omega
   | false =>
    rw [hox] at ho hs
    rw [stepR_on hk ho.symm] at hs
    cases hs
    have:=pop_on (b:=b) hv7 ho.symm
    rw [if_neg (by decide)]
    omega
  have hnb:0≤now∧now≤7:=by omega
  refine ⟨by omega,_,hrow,?_⟩
  refine Or.inl ⟨by kernel_rfl,?_⟩
  refine ⟨fun q=>?_,fun _=>?_⟩
  ·have q:x.tank<0:=of_decide_eq_true q
   omega
  refine ⟨fun q=>?_,fun _=>?_⟩
  ·have q:x.tank ≥ ((n.tanks.map Tk.enc).length:Int):=of_decide_eq_true q
   omega
  refine ⟨by omega,_,htrow,?_⟩
  refine ⟨fun q=>?_,fun _=>?_⟩
  ·have q:tk.kept=true:=q
   rw [htkk] at q;cases q
  rcases hdc with rfl | ⟨rfl,hc⟩ | ⟨rfl,hc⟩
  ·refine ⟨⟨by omega,by omega⟩,_,Nat.mul_one _,?_⟩
   refine ⟨_,hd,?_⟩
   refine ⟨by omega,_,hrow,?_⟩
   refine ⟨fun q=>?_,fun _=>?_⟩
   ·have q:(x.off != x.off)=true:=q
    exact absurd q (by simp)
   refine ⟨by omega,_,hrow,?_⟩
   refine ⟨⟨by omega,by omega⟩,_,Nat.mul_one _,?_⟩
   refine ⟨by rw [hcl];show 0+_+1≤7;omega,_,hlk _,?_⟩
   refine ⟨now+1,wrap64 (by omega) (by omega),?_⟩
   refine ⟨by omega,_,hrow,?_⟩
   refine ⟨fun r=>?_,fun r=>?_⟩
   ·have r:x.off=true:=r
    rw [if_pos r] at hnow'
    refine ⟨now+1 - 2,wrap64 (by omega) (by omega),?_⟩
    refine ⟨fun q=>?_,fun _=>?_⟩
    ·have q:now+1 - 2 > k:=of_decide_eq_true q
     omega
    refine ⟨(i:Int)+1,wrap64 (by omega) (by omega),?_⟩
    exact ⟨⟨rfl,okB_good (htell2.okAll 2)⟩,⟨i+1,f',b',now+1 - 2,_,_,hi',by rw [List.length_set];exact hop,htell2,hob',s2,hnow',hrun',rfl⟩,less⟩
   ·have r:x.off=false:=r
    rw [if_neg (by rw [r];decide)] at hnow'
    refine ⟨fun q=>?_,fun _=>?_⟩
    ·have q:now+1 > k:=of_decide_eq_true q
     omega
    refine ⟨(i:Int)+1,wrap64 (by omega) (by omega),?_⟩
    exact ⟨⟨rfl,okB_good (htell2.okAll 2)⟩,⟨i+1,f',b',now+1,_,_,hi',by rw [List.length_set];exact hop,htell2,hob',s2,hnow',hrun',rfl⟩,less⟩
  ·refine ⟨⟨by omega,by omega⟩,_,Nat.mul_one _,?_⟩
   refine ⟨_,hd,?_⟩
   refine ⟨by omega,_,hrow,?_⟩
   refine ⟨fun q=>?_,fun _=>?_⟩
   ·have q:(true != x.off)=true:=q
    rw [hc] at q;exact absurd q (by decide)
   refine ⟨by omega,_,hrow,?_⟩
   refine ⟨⟨by omega,by omega⟩,_,Nat.mul_one _,?_⟩
   refine ⟨by rw [hcl];show 0+_+1≤7;omega,_,hlk _,?_⟩
   refine ⟨now+1,wrap64 (by omega) (by omega),?_⟩
   refine ⟨by omega,_,hrow,?_⟩
   refine ⟨fun r=>?_,fun r=>?_⟩
   ·have r:x.off=true:=r
    rw [if_pos r] at hnow'
    refine ⟨now+1 - 2,wrap64 (by omega) (by omega),?_⟩
    refine ⟨fun q=>?_,fun _=>?_⟩
    ·have q:now+1 - 2 > k:=of_decide_eq_true q
     omega
    refine ⟨(i:Int)+1,wrap64 (by omega) (by omega),?_⟩
    exact ⟨⟨rfl,okB_good (htell2.okAll 2)⟩,⟨i+1,f',b',now+1 - 2,_,_,hi',by rw [List.length_set];exact hop,htell2,hob',s2,hnow',hrun',rfl⟩,less⟩
   ·have r:x.off=false:=r
    rw [if_neg (by rw [r];decide)] at hnow'
    refine ⟨fun q=>?_,fun _=>?_⟩
    ·have q:now+1 > k:=of_decide_eq_true q
     omega
    refine ⟨(i:Int)+1,wrap64 (by omega) (by omega),?_⟩
    exact ⟨⟨rfl,okB_good (htell2.okAll 2)⟩,⟨i+1,f',b',now+1,_,_,hi',by rw [List.length_set];exact hop,htell2,hob',s2,hnow',hrun',rfl⟩,less⟩
  ·refine ⟨⟨by omega,by omega⟩,_,Nat.mul_one _,?_⟩
   refine ⟨_,hd,?_⟩
   refine ⟨by omega,_,hrow,?_⟩
   refine ⟨fun q=>?_,fun _=>?_⟩
   ·have q:(false != x.off)=true:=q
    rw [hc] at q;exact absurd q (by decide)
   refine ⟨by omega,_,hrow,?_⟩
   refine ⟨⟨by omega,by omega⟩,_,Nat.mul_one _,?_⟩
   refine ⟨by rw [hcl];show 0+_+1≤7;omega,_,hlk _,?_⟩
   refine ⟨now+1,wrap64 (by omega) (by omega),?_⟩
   refine ⟨by omega,_,hrow,?_⟩
   refine ⟨fun r=>?_,fun r=>?_⟩
   ·have r:x.off=true:=r
    rw [if_pos r] at hnow'
    refine ⟨now+1 - 2,wrap64 (by omega) (by omega),?_⟩
    refine ⟨fun q=>?_,fun _=>?_⟩
    ·have q:now+1 - 2 > k:=of_decide_eq_true q
     omega
    refine ⟨(i:Int)+1,wrap64 (by omega) (by omega),?_⟩
    exact ⟨⟨rfl,okB_good (htell2.okAll 2)⟩,⟨i+1,f',b',now+1 - 2,_,_,hi',by rw [List.length_set];exact hop,htell2,hob',s2,hnow',hrun',rfl⟩,less⟩
   ·have r:x.off=false:=r
    rw [if_neg (by rw [r];decide)] at hnow'
    refine ⟨fun q=>?_,fun _=>?_⟩
    ·have q:now+1 > k:=of_decide_eq_true q
     omega
    refine ⟨(i:Int)+1,wrap64 (by omega) (by omega),?_⟩
    exact ⟨⟨rfl,okB_good (htell2.okAll 2)⟩,⟨i+1,f',b',now+1,_,_,hi',by rw [List.length_set];exact hop,htell2,hob',s2,hnow',hrun',rfl⟩,less⟩

set_option maxRecDepth 10000 in
set_option maxHeartbeats 8000000 in
theorem den9 (n:Nt) (bl wt:List Int) (k:Int) (xs:List Nat) (hbl:bl.length<9223372036854775808) (hwl:wt.length<9223372036854775808) (hxs:xs.length<9223372036854775808) (hx8:∀ b∈xs,b<256) :
    DN 9 [.agg n.enc,askD bl wt k,.list 1 (xs.map encB)] (.bool true):=by
  have h31:=den31 n bl wt k hbl hwl
  have h39:=den39 n bl wt hbl hwl
  refine mk Try.func9 Try.call9 rfl rfl ?_
  by_cases he:n.lookE bl wt true=0
  rotate_left
  ·have r3:n.planN bl wt k=([],n.lookE bl wt true):=by unfold Nt.planN;rw [if_neg he]
   rw [r3] at h31
   refine ⟨_,rfl,_,h31,?_⟩
   refine ⟨_,rfl,_,h39,?_⟩
   refine ⟨fun _=>?_,fun h=>?_⟩
   ·refine ⟨fun _=>?_,fun h=>?_⟩
    ·refine ⟨fun _=>?_,fun h=>Bool.noConfusion (show true=false from h)⟩
     exact ⟨_,rfl,_,den23,rfl⟩
    ·have h:(n.lookE bl wt true != 0)=false:=h
     exact absurd (by simpa using h) he
   ·have h:(n.lookE bl wt true != 0)=false:=h
    exact absurd (by simpa using h) he
  rw [he] at h39
  by_cases hk:k<1∨k > 7
  ·have r3:n.planN bl wt k=([],7):=by unfold Nt.planN;rw [if_pos he,if_pos hk]
   rw [r3] at h31
   refine ⟨_,rfl,_,h31,?_⟩
   refine ⟨_,rfl,_,h39,?_⟩
   refine ⟨fun h=>Bool.noConfusion (show false=true from h),fun _=>?_⟩
   refine ⟨fun _=>?_,fun q=>?_⟩
   ·refine ⟨fun _=>?_,fun h=>Bool.noConfusion (show true=false from h)⟩
    refine ⟨fun _=>?_,fun h=>Bool.noConfusion (show true=false from h)⟩
    exact ⟨_,rfl,_,den23,rfl⟩
   ·have q:¬ k<1:=of_decide_eq_false q
    refine ⟨fun _=>?_,fun q2=>?_⟩
    ·refine ⟨fun _=>?_,fun h=>Bool.noConfusion (show true=false from h)⟩
     refine ⟨fun _=>?_,fun h=>Bool.noConfusion (show true=false from h)⟩
     exact ⟨_,rfl,_,den23,rfl⟩
    ·have q2:¬ k > 7:=of_decide_eq_false q2
     omega
  have r3:=planN_of (k:=k) he (by omega) (by omega)
  obtain ⟨hn,_,hw⟩:=Nt.lookE_ok he
  have hin:=Nt.wantedE_in (hw rfl)
  have hok:=Nt.look_ok hn bl hin
  cases hp:(n.look bl wt).plan k with
  | none =>
   rw [hp] at r3
   rw [r3] at h31
   refine ⟨_,rfl,_,h31,?_⟩
   refine ⟨_,rfl,_,h39,?_⟩
   refine ⟨fun h=>Bool.noConfusion (show false=true from h),fun _=>?_⟩
   refine ⟨fun q=>?_,fun _=>?_⟩
   ·have q:k<1:=of_decide_eq_true q
    omega
   refine ⟨fun q=>?_,fun _=>?_⟩
   ·have q:k > 7:=of_decide_eq_true q
    omega
   refine ⟨fun _=>?_,fun h=>Bool.noConfusion (show true=false from h)⟩
   refine ⟨fun _=>?_,fun h=>Bool.noConfusion (show true=false from h)⟩
   refine ⟨fun _=>?_,fun h=>Bool.noConfusion (show true=false from h)⟩
   exact ⟨_,rfl,_,den23,rfl⟩
  | some l =>
   rw [hp] at r3
   rw [r3] at h31
   have he0:n.lookE bl [] false=0:=by
    obtain ⟨_,hb,_⟩:=Nt.lookE_ok he
    unfold Nt.lookE
    rw [if_neg (by simpa using Nt.check_of he),hb]
   obtain ⟨f,f1,f2,f3,f4,g,gb,f5,f6,f7⟩:=freed_ok hn hok (k:=k) (by omega) hp xs
   have h43:=den43 n hn bl wt k l (by omega) f1
   have hR1:n.afterR bl l=(0,f,0):=by unfold Nt.afterR;rw [if_pos he0,if_neg (by omega),← f4];exact afterL_want n bl [] wt _ 0 0
   have hb7:=runB_tanks l 0 0 f 0 f1
   have h44:=den44 n hn l xs 7 f2 (fun x hx=>by have:=hb7 x hx;have h7:=hn.t7;have h3:(n.look bl wt).tanks.length=n.tanks.length:=rfl;omega) hxs hx8
   obtain ⟨A,hA⟩:∃ A,anyR n l xs 7=A:=⟨_,rfl⟩
   rw [hA] at h44 f5 f7
   have hR2:n.afterR bl A=(0,g,gb):=by unfold Nt.afterR;rw [if_pos he0,if_neg (by omega),← f5];exact afterL_want n bl [] wt _ 0 0
   have h20:=den20 n bl l hbl
   rw [hR1] at h20
   have h20:DN 20 [.agg n.enc,.list 1 (bl.map encI),.list 2 (l.map Vs.enc)] (.tup [.agg [.list 1 ((tanks f).map encI),.list 1 ((tanks 0).map encI)],.int .i64 0]):=h20
   have h20b:=den20 n bl A hbl
   rw [hR2] at h20b
   have h20b:DN 20 [.agg n.enc,.list 1 (bl.map encI),.list 2 (A.map Vs.enc)] (.tup [.agg [.list 1 ((tanks g).map encI),.list 1 ((tanks gb).map encI)],.int .i64 0]):=h20b
   have h45:=den45 (tanks f) (tanks 0) wt (tanks_len f) hwl
   rw [(all_iff (bl:=bl) hn hin).2 f3] at h45
   have h45b:=den45 (tanks g) (tanks gb) wt (tanks_len g) hwl
   rw [(all_iff (bl:=bl) hn hin).2 f6] at h45b
   refine ⟨_,rfl,_,h31,?_⟩
   refine ⟨_,rfl,_,h39,?_⟩
   refine ⟨fun h=>Bool.noConfusion (show false=true from h),fun _=>?_⟩
   refine ⟨fun q=>?_,fun _=>?_⟩
   ·have q:k<1:=of_decide_eq_true q
    omega
   refine ⟨fun q=>?_,fun _=>?_⟩
   ·have q:k > 7:=of_decide_eq_true q
    omega
   refine ⟨fun h=>Bool.noConfusion (show false=true from h),fun _=>?_⟩
   refine ⟨_,rfl,_,h43,?_⟩
   refine ⟨fun h=>Bool.noConfusion (show false=true from h),fun _=>?_⟩
   refine ⟨_,rfl,_,h20,?_⟩
   refine Or.inr (Or.inr (Or.inl ⟨[0,1,2,3,4,5,11,6,7,8,9,10,12,13],7,[0,1,2,6,10,11],by kernel_rfl,?_⟩))
   refine ⟨_,rfl,_,h44,?_⟩
   refine ⟨⟨rfl,rfl,rfl,⟨_,rfl,rfl⟩,trivial⟩,?_⟩
   refine ⟨_,rfl,_,h20b,?_⟩
   refine ⟨⟨rfl,⟨_,rfl,rfl⟩,trivial⟩,?_⟩
   refine ⟨⟨rfl,⟨_,rfl,rfl⟩,trivial⟩,?_⟩
   refine ⟨⟨rfl,rfl,⟨_,rfl,rfl⟩,trivial⟩,?_⟩
   refine ⟨⟨rfl,rfl,rfl,⟨_,rfl,rfl⟩,trivial⟩,?_⟩
   refine ⟨⟨rfl,trivial⟩,?_⟩
   refine ⟨trivial,?_⟩
   refine ⟨fun _=>?_,fun h=>Bool.noConfusion (show true=false from h)⟩
   refine ⟨fun _=>?_,fun h=>Bool.noConfusion (show true=false from h)⟩
   refine ⟨_,rfl,_,h45,?_⟩
   refine ⟨fun _=>?_,fun h=>Bool.noConfusion (show true=false from h)⟩
   refine ⟨fun _=>?_,fun h=>Bool.noConfusion (show true=false from h)⟩
   refine ⟨_,rfl,_,h45b,?_⟩
   refine ⟨fun _=>?_,fun h=>Bool.noConfusion (show true=false from h)⟩
   exact ⟨_,rfl,_,den23,rfl⟩

end Go.Proofs.Vent
