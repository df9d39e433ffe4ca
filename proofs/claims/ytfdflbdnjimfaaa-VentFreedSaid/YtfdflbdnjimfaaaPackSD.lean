/- Steps that can be done, and what Any makes of them: what is free once stays free. No condition. -/
import Derived.Test.YtfdflbdnjimfaaaPackTZ

namespace Go.Proofs.Vent
open Go.V Go.Proofs

theorem runB_cons {n:NetL} {bl:Int} {x:Vs} {l:List Vs} {f b f1 b1:Nat} (h:n.runB bl (x::l) f b=some (f1,b1)) :
    0≤x.tank∧x.tank<n.tanks.length∧x.off=b.testBit x.tank.toNat∧n.kept.testBit x.tank.toNat=false∧∃ f' b',n.stepR f b x.tank.toNat x.off=((f',b'),true)∧((pop b':Nat):Int)≤bl∧n.runB bl l f' b'=some (f1,b1):=by
  simp only [NetL.runB] at h
  split at h
  ·rename_i hc
   obtain ⟨⟨⟨f',b'⟩,is_⟩,hs⟩:∃ y,n.stepR f b x.tank.toNat x.off=y:=⟨_,rfl⟩
   rw [hs] at h
   cases is_ with
   | false=>cases h
   | true =>
    simp only at h
    split at h
    ·rename_i hp
     exact ⟨hc.1,hc.2.1,hc.2.2,(stepR_true hs).1,f',b',hs,hp,h⟩
    ·cases h
  ·cases h

theorem runB_leads {m:NetL} (hm:m.Ok) {bl:Int}:∀ (l out:List Vs) (op:List Bool) (now:Int) (f b f1 b1:Nat),Leads m out op f b→op.length=7→m.runB bl l f b=some (f1,b1) →
    Leads m (out++l) (beginL l (op,now)).1 f1 b1∧(beginL l (op,now)).1.length=7
  | [],out,op,now,f,b,f1,b1,h,hop,hr=>by
   cases hr
   rw [List.append_nil]
   exact ⟨h,hop⟩
  | x::l,out,op,now,f,b,f1,b1,h,hop,hr=>by
   have h7:=hm.t7
   obtain ⟨h0,ht,ho,hk,f',b',hs,_,hr⟩:=runB_cons hr
   obtain ⟨h1,h2,h3⟩:=h
   obtain ⟨k,hkx⟩:∃ k:Nat,x.tank=k:=⟨x.tank.toNat,by omega⟩
   rw [hkx] at h0 ht ho hk hs
   rw [Int.toNat_natCast] at ho hk hs
   obtain ⟨s1,s2,s3⟩:=h2.step (i:=k) (by omega) hk x.off ho.symm
   rw [hs] at s1 s2 s3
   have hx:x=⟨(k:Int),x.off⟩:=by cases x;simp only at hkx;rw [hkx]
   have hnew:Leads m (out++[x]) (op.set k (!x.off)) f' b':=by
    refine ⟨?_,s2,fun j hj=>?_⟩
    ·rw [NetL.afterL_app,h1]
     simp only [if_true,NetL.afterL]
     have hoff:offB (m.tanks.length:Int) x.tank=false:=by
      unfold offB
      rw [hkx,decide_eq_false (by omega),decide_eq_false (by omega)]
      rfl
     rw [hoff]
     simp only
     rw [hkx,Int.toNat_natCast,hs]
    ·rw [getD_set (by omega),s3 j]
     by_cases e:j=k
     ·rw [if_pos e,if_pos e]
     ·rw [if_neg e,if_neg e,h3 j hj]
   have hrec:=runB_leads hm l (out++[x]) (op.set k (!x.off)) (if x.off=true then now - 1 else now+1) f' b' f1 b1 hnew (by rw [List.length_set];exact hop) hr
   rw [List.append_assoc] at hrec
   have he:beginL (x::l) (op,now)=beginL l (op.set k (!x.off),if x.off=true then now - 1 else now+1):=by
    show beginL l (op.set x.tank.toNat (!x.off),_)=_
    rw [hkx,Int.toNat_natCast]
   rw [he]
   exact hrec

theorem runB_tanks {m:NetL} {bl:Int}:∀ (l:List Vs) (f b f1 b1:Nat),m.runB bl l f b=some (f1,b1)→∀ x∈l,0≤x.tank∧x.tank<m.tanks.length
 | [],_,_,_,_,_=>fun x hx=>by cases hx
 | y::l,f,b,f1,b1,hr=>fun x hx=>by
  obtain ⟨h0,ht,_,_,f',b',_,_,hr⟩:=runB_cons hr
  rcases List.mem_cons.1 hx with rfl | hx
  ·exact ⟨h0,ht⟩
  ·exact runB_tanks l f' b' f1 b1 hr x hx

theorem freed_ok {n:Nt} (hn:n.Ok) {bl wt:List Int} (hok:(n.look bl wt).Ok) {k:Int} (hk:1≤k) {l:List Vs} (h:(n.look bl wt).plan k=some l) (xs:List Nat) :
    ∃ f,(n.look bl wt).runB k l 0 0=some (f,0)∧l.length≤60∧Sub (n.look bl wt).wanted f∧(n.look bl wt).afterL l 0 0=(0,f,0) ∧
     ∃ f2 b2,(n.look bl wt).afterL (anyR n l xs 7) 0 0=(0,f2,b2)∧Sub (n.look bl wt).wanted f2∧(anyR n l xs 7).length≤60:=by
  have h1:=NetL.plan_ok hok k
  rw [h] at h1
  obtain ⟨⟨f,b,hr,hg⟩,hmin⟩:=h1
  obtain ⟨rfl,hw⟩:=goalS_iff.1 hg
  have hrch:=NetL.runB_rch l 0 0 0 f 0 .zero hr
  obtain ⟨m',f',hm,hr',hg'⟩:=hrch.few hok hk hg
  have hl:=hmin _ _ _ hr' hg'
  obtain ⟨hl1,hl2⟩:=runB_leads hok l [] [false,false,false,false,false,false,false] 0 0 0 f 0 (Leads.nil _) rfl hr
  rw [List.nil_append] at hl1
  have hsh:=hl1.2.1.shut
  obtain ⟨f2,b2,now',a1,a2,a3,a4⟩:=anyL_q hn (bl:=bl) (wt:=wt) 7 (Q:=fun _ f2 _=>Sub f f2) (fun now f2 b2 k f3 b3 hst hq hkk hnow hs=>by
   obtain ⟨hkk2,_⟩:=stepR_true hs
   have hsh2:∀ b,(n.look bl wt).Shut b f:=fun b u v hu _ ha=>hsh u v hu (Nat.zero_testBit u) ha
   cases hb:b2.testBit k with
   | true =>
    rw [hb,stepR_off hkk2 hb] at hs
    cases hs
    exact NetL.spread_most (hsh2 _) hq
   | false =>
    rw [hb,stepR_on hkk2 hb] at hs
    cases hs
    exact NetL.spread_most (hsh2 _) fun i hi=>by rw [or_bit,hq i hi];rfl) xs l _ (beginL l ([false,false,false,false,false,false,false],0)).2 f 0 hl1 hl2 (by omega) (Sub.refl f)
  exact ⟨f,hr,by omega,hw,hl1.1,f2,b2,a1,fun i hi=>a4 i (hw i hi),a3⟩

end Go.Proofs.Vent
