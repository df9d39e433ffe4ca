/- The document's reached, walked; The document's plan, Plan and Fewest; VentPlans; The document's Fewest; VentPlans: Plan and Fewest return what the document says. No condition. -/
import Derived.Test.YtfdflbdnjimfaaaPackSO
import Derived.Test.YtfdflbdnjimfaaaPackTD
import Derived.Test.YtfdflbdnjimfaaaPackTF
import Derived.Test.YtfdflbdnjimfaaaPackTG
import Derived.Test.YtfdflbdnjimfaaaPackTS

namespace Go.Proofs.Vent
open Go.V Go.Proofs

set_option maxRecDepth 10000 in
set_option maxHeartbeats 32000000 in
theorem den98 (n:Nt) (hn:n.Ok) (bl:List Int) (hbl:bl.length<9223372036854775808) (bw:Int):DN 98 [.agg n.enc,.list 1 (bl.map encI),.int .i64 bw] (.list 17 (rowsN ((n.look bl []).reach bw))):=by
 have h7:=hn.t7
 have htl:((n.tanks.map Tk.enc).length:Int)=n.tanks.length:=by simp
 have hok:=Nt.look_ok hn bl (wanted:=[]) (fun v h=>by cases h)
 obtain ⟨N,hN⟩:∃ N,n.look bl []=N:=⟨_,rfl⟩
 have hNt:N.tanks.length=n.tanks.length:=by rw [← hN];rfl
 rw [hN] at hok ⊢
 obtain ⟨RO,hRO⟩:∃ RO:List En→List (List D),rowsO=RO:=⟨_,rfl⟩
 have oget:∀ (K:List En) (c:Nat),c<16384→(RO K)[c]?=some [bD (knownC K c)]:=fun K c h=>by rw [← hRO];exact rowsO_get h
 have oset:∀ (K:List En) (e:En),(RO K).set (codeN e.f e.b) [.tt]=RO (K++[e]):=fun K e=>by rw [← hRO];exact rowsO_set
 have ozero:List.replicate 16384 [D.ff]=RO []:=by rw [← hRO];exact rowsO_zero
 have oroot:(RO []).set 0 [.tt]=RO [root]:=by rw [← hRO];exact rowsO_root
 clear hRO
 refine mkW Try.func98 Try.call98 rfl rfl ?_
 refine ⟨by decide,rfl,by decide,16384,rfl,_,ozero,?_⟩
 refine ⟨by decide,by decide,0,rfl,?_⟩
 refine ⟨_,oget [] 0 (by decide),Nat.le_refl 1,_,oroot,?_⟩
 refine ⟨[1,2,3,7,8,9],3,[],fun σ=>∃ (i g:Nat) (K:List En),i≤K.length∧Known K∧N.reach bw=N.reachF bw (20000 - i) i K ∧
  σ=⟨[(1,.list 1 (bl.map encI)),(2,.int .i64 bw),(3,.loc 0 0),(7,.sl 1 g 0 (rowsP K).length),(8,.sl 2 0 0 16384),(9,.int .i64 (i:Int))],[.flat false n.enc,.rows false g 17 (rowsP K),.rows false 0 1 (RO K)],.non⟩,
  fun σ=>(20000 - slotI 9 σ).toNat,rfl,⟨rfl,rfl⟩,⟨0,0,[root],Nat.zero_le _,Known.root,rfl,rfl⟩,?_⟩
 rintro σ ⟨i,g0,K0,hi,hK0,hreach,rfl⟩
 have hK0l:=hK0.len
 have hP0:=rowsP_len K0
 refine ⟨fun q1=>?_,fun q1=>?_⟩
 rotate_left
 ·have q1:¬ (i:Int)<(((rowsP K0).length:Nat):Int):=of_decide_eq_false q1
  have hend:N.reachF bw (20000 - i) i K0=K0:=by
   rw [show 20000 - i=(20000 - i - 1)+1 by omega]
   unfold NetL.reachF
   rw [List.getElem?_eq_none (by omega)]
  rw [hreach,hend]
  have hr:reify [Box.flat false n.enc,.rows false g0 17 (rowsP K0),.rows false 0 1 (RO K0)] 8 (.sl 1 g0 0 (rowsP K0).length)=some (.list 17 (rowsP K0)):=reify_sl rfl rfl
  exact ⟨_,hr,Wk.rows' (rowsP_norm K0)⟩
 have q1:(i:Int)<(((rowsP K0).length:Nat):Int):=of_decide_eq_true q1
 have hi':i<K0.length:=by omega
 have lessI:(20000 - ((i:Int)+1)).toNat<(20000 - (i:Int)).toNat:=by omega
 obtain ⟨e,he⟩:∃ e,K0[i]?=some e:=⟨_,List.getElem?_eq_getElem hi'⟩
 have hlt:=hK0.lt e (List.mem_of_getElem? he)
 have hstep:N.reachF bw (20000 - i) i K0=N.reachF bw (20000 - (i+1)) (i+1) (N.growF bw e N.tanks.length 0 K0):=by
  rw [show 20000 - i=(20000 - (i+1))+1 by omega]
  conv=>lhs;unfold NetL.reachF
  rw [he]
 rw [hstep] at hreach
 clear hstep
 by_cases hi0:i=0
 · have he0:e.f=0∧e.b=0:=by
     subst hi0
     rw [hK0.ne] at he
     cases he
     exact ⟨rfl,rfl⟩
   refine ⟨[1,2,3,7,8,9,10],3,[],fun σ=>∃ (k g:Nat) (K:List En),k≤2*n.tanks.length∧Known K∧K=N.tryF bw e k K0∧(∃ L,K=K0++L) ∧
    σ=⟨[(1,.list 1 (bl.map encI)),(2,.int .i64 bw),(3,.loc 0 0),(7,.sl 1 g 0 (rowsP K).length),(8,.sl 2 0 0 16384),(9,.int .i64 (i:Int)),(10,.int .i64 (k:Int))],[.flat false n.enc,.rows false g 17 (rowsP K),.rows false 0 1 (RO K)],.non⟩,
    fun σ=>(1000 - slotI 10 σ).toNat,rfl,⟨rfl,rfl⟩,⟨0,g0,K0,Nat.zero_le _,hK0,rfl,⟨[],(List.append_nil _).symm⟩,rfl⟩,?_⟩
   rintro σ ⟨k,g,K,hk,hK,hrec,⟨L,hKL⟩,rfl⟩
   have hKe:K[i]?=some e:=by rw [hKL,List.getElem?_append_left hi'];exact he
   have hKlen:=hK.len
   have hKi:=(List.getElem?_eq_some_iff.1 hKe).1
   have hPl:=rowsP_len K
   refine ⟨2*((n.tanks.map Tk.enc).length:Int),wrap64 (by omega) (by omega),?_⟩
   refine ⟨fun q2=>?_,fun q2=>?_⟩
   rotate_left
   ·have q2:=of_decide_eq_false q2
    rw [htl] at q2
    obtain rfl:k=2*n.tanks.length:=by omega
    have hgr:K=N.growF bw e N.tanks.length 0 K0:=by rw [hrec,← tryF_all,hNt]
    rw [← hgr] at hreach
    refine ⟨(i:Int)+1,wrap64 (by omega) (by omega),?_⟩
    exact ⟨⟨rfl,rfl⟩,⟨i+1,g,K,by omega,hK,hreach,rfl⟩,lessI⟩
   have q2:=of_decide_eq_true q2
   rw [htl] at q2
   have hk':k<2*n.tanks.length:=by omega
   have less:(1000 - ((k:Int)+1)).toNat<(1000 - (k:Int)).toNat:=by omega
   have hst:N.tryF bw e (k+1) K0=N.tryK bw e k K:=by rw [hrec];rfl
   have hrow:(rowsP K)[((i:Nat):Int).toNat]?=some rootP:=by rw [Int.toNat_natCast];exact (by rw [hi0];exact rowsP_zero hK)
   have hquo:((k:Nat):Int).tdiv 2=((k / 2:Nat):Int):=by rw [Int.tdiv_eq_ediv_of_nonneg (Int.natCast_nonneg _)];omega
   have hrem:((k:Nat):Int).tmod 2=((k % 2:Nat):Int):=by rw [Int.tmod_eq_emod_of_nonneg (Int.natCast_nonneg _)];omega
   have hoff:(((k % 2:Nat):Int)==1)=(k % 2==1):=by
    apply Bool.eq_iff_iff.2
    rw [beq_iff_eq,beq_iff_eq]
    omega
   have h60:=den60 n hn bl [] hbl e.f e.b (k / 2) hlt.1 (by omega) (((k % 2:Nat):Int)==1)
   rw [hN,hoff] at h60
   have hlt2:=N.stepR_lt (i:=k / 2) (off:=k % 2==1) hlt.1 hlt.2 (by omega)
   have htry:∀ (f' b':Nat) (is_:Bool),N.stepR e.f e.b (k / 2) (k % 2==1)=((f',b'),is_)→N.tryK bw e k K=match is_ with
       | false=>K
       | true=>if (idx K f' b').isSome=false∧((pop b':Nat):Int)≤bw then K++[⟨f',b',e.f,e.b,k / 2,k % 2==1⟩] else K:=fun f' b' is_ h=>by
     unfold NetL.tryK
     rw [h]
     cases is_ <;> rfl
   obtain ⟨⟨⟨f',b'⟩,is_⟩,hres⟩:∃ y,N.stepR e.f e.b (k / 2) (k % 2==1)=y:=⟨_,rfl⟩
   have htry:=htry f' b' is_ hres
   rw [hres] at h60 hlt2
   rw [← hoff] at h60
   rw [htry] at hst
   clear htry
   obtain ⟨x,hx⟩:∃ x:En,x=⟨f',b',e.f,e.b,k / 2,k % 2==1⟩:=⟨_,rfl⟩
   have h60:DN 60 [.agg n.enc,.list 1 (bl.map encI),.agg (stA e.f e.b),.agg [.int .i64 ((k / 2:Nat):Int),.bool (((k % 2:Nat):Int)==1)]] (.tup [.agg [.bool (f'.testBit 0),.bool (f'.testBit 1),.bool (f'.testBit 2),.bool (f'.testBit 3),.bool (f'.testBit 4),.bool (f'.testBit 5),.bool (f'.testBit 6),.bool (b'.testBit 0),.bool (b'.testBit 1),.bool (b'.testBit 2),.bool (b'.testBit 3),.bool (b'.testBit 4),.bool (b'.testBit 5),.bool (b'.testBit 6)],.bool is_]):=h60
   have h106:DN 106 [.agg [.bool (b'.testBit 0),.bool (b'.testBit 1),.bool (b'.testBit 2),.bool (b'.testBit 3),.bool (b'.testBit 4),.bool (b'.testBit 5),.bool (b'.testBit 6)]] (.int .i64 ((pop b':Nat):Int)):=den106 b'
   have h107:DN 107 [.agg [.bool (f'.testBit 0),.bool (f'.testBit 1),.bool (f'.testBit 2),.bool (f'.testBit 3),.bool (f'.testBit 4),.bool (f'.testBit 5),.bool (f'.testBit 6),.bool (b'.testBit 0),.bool (b'.testBit 1),.bool (b'.testBit 2),.bool (b'.testBit 3),.bool (b'.testBit 4),.bool (b'.testBit 5),.bool (b'.testBit 6)]] (.int .i64 ((codeN f' b':Nat):Int)):=den107 f' b'
   refine ⟨by decide,((k / 2:Nat):Int),(congrArg _ hquo).trans (wrap64 (by omega) (by omega)),?_⟩
   refine ⟨by decide,_,hrem,?_⟩
   refine Or.inr (Or.inr (Or.inl ⟨[0,1,2,3,4,5,6,7,12,8,9,10,11,13,14],9,[8,11,12],by kernel_rfl,?_⟩))
   refine iff' (by rw [beq_self];rfl) ⟨by omega,by omega,_,Nat.zero_add _,?_⟩
   refine iff' (beq_self _) ⟨_,hrow,?_⟩
   refine ⟨_,mapO_cons rfl (mapO_cons rfl (mapO_cons (reify_agg (mapO_stZ (z:=true) (f:=e.f) (b:=e.b) (fun _=>he0.1) (fun _=>he0.2))) (mapO_cons rfl rfl))),_,h60,?_⟩
   refine ⟨⟨⟨_,rfl,rfl⟩,trivial⟩,?_⟩
   refine ⟨⟨⟨_,rfl,rfl⟩,trivial⟩,?_⟩
   refine ⟨⟨rfl,⟨_,rfl,rfl⟩,trivial⟩,?_⟩
   refine ⟨⟨rfl,rfl,⟨_,rfl,rfl⟩,trivial⟩,?_⟩
   refine ⟨⟨rfl,trivial⟩,?_⟩
   refine ⟨trivial,?_⟩
   cases is_ with
   | false =>
    have hst:N.tryF bw e (k+1) K0=K:=hst
    refine ⟨fun h=>Bool.noConfusion (show false=true from h),fun _=>?_⟩
    refine ⟨(k:Int)+1,wrap64 (by omega) (by omega),?_⟩
    exact ⟨⟨rfl,rfl⟩,⟨k+1,g,K,by omega,hK,hst.symm,⟨L,hKL⟩,rfl⟩,less⟩
   | true =>
    have hst:N.tryF bw e (k+1) K0=if (idx K f' b').isSome=false∧((pop b':Nat):Int)≤bw then K++[⟨f',b',e.f,e.b,k / 2,k % 2==1⟩] else K:=hst
    refine ⟨fun _=>?_,fun h=>Bool.noConfusion (show true=false from h)⟩
    refine ⟨_,rfl,_,h106,?_⟩
    refine ⟨fun r1=>?_,fun r1=>?_⟩
    rotate_left
    ·have r1:¬ ((pop b':Nat):Int)≤bw:=of_decide_eq_false r1
     rw [if_neg fun h=>r1 h.2] at hst
     refine ⟨(k:Int)+1,wrap64 (by omega) (by omega),?_⟩
     exact ⟨⟨rfl,rfl⟩,⟨k+1,g,K,by omega,hK,hst.symm,⟨L,hKL⟩,rfl⟩,less⟩
    have r1:((pop b':Nat):Int)≤bw:=of_decide_eq_true r1
    have hcl:=codeN_lt f' b'
    have hgo:=oget K _ hcl
    rw [known_idx hK hlt2.1 hlt2.2] at hgo
    refine ⟨_,rfl,_,h107,?_⟩
    refine ⟨by omega,by omega,_,Nat.zero_add _,?_⟩
    have hgo:(RO K)[((codeN f' b':Nat):Int).toNat]?=some [bD (idx K f' b').isSome]:=by rw [Int.toNat_natCast];exact hgo
    have hz:(idx K f' b').isSome=true∨(idx K f' b').isSome=false:=by cases (idx K f' b').isSome <;> simp
    rcases hz with hix | hix
    ·
     rw [hix] at hgo
     rw [if_neg fun h=>by rw [hix] at h;cases h.1] at hst
     refine ⟨_,hgo,?_⟩
     refine ⟨(k:Int)+1,wrap64 (by omega) (by omega),?_⟩
     exact ⟨⟨rfl,rfl⟩,⟨k+1,g,K,by omega,hK,hst.symm,⟨L,hKL⟩,rfl⟩,less⟩
    ·skip
     rw [hix] at hgo
     rw [if_pos ⟨hix,r1⟩] at hst
     refine ⟨_,hgo,?_⟩
     refine ⟨_,rfl,_,h107,?_⟩
     refine ⟨by omega,by omega,_,Nat.zero_add _,?_⟩
     have hset:(RO K).set (((codeN f' b':Nat):Int).toNat) [.tt]=RO (K++[x]):=by rw [Int.toNat_natCast,hx];exact oset K ⟨f',b',e.f,e.b,k / 2,k % 2==1⟩
     have hnone:idx K f' b'=none:=Option.isSome_eq_false_iff.1 hix |> Option.isNone_iff_eq_none.1
     have hKx:Known (K++[x]):=by rw [hx];exact hK.snoc hlt2.1 hlt2.2 hnone (idx_at hK hKe)
     have hcat:rowsP K++[[.bool (f'.testBit 0),.bool (f'.testBit 1),.bool (f'.testBit 2),.bool (f'.testBit 3),.bool (f'.testBit 4),.bool (f'.testBit 5),.bool (f'.testBit 6),.bool (b'.testBit 0),.bool (b'.testBit 1),.bool (b'.testBit 2),.bool (b'.testBit 3),.bool (b'.testBit 4),.bool (b'.testBit 5),.bool (b'.testBit 6),.int .i64 (i:Int),.int .i64 ((k / 2:Nat):Int),.bool (((k % 2:Nat):Int)==1)]]=rowsP (K++[x]):=by
      show rowsP K++[stA f' b'++[.int .i64 (i:Int),.int .i64 ((k / 2:Nat):Int),.bool (((k % 2:Nat):Int)==1)]]=rowsP (K++[x])
      rw [rowsP_snoc hK,hoff]
      have hf:frm (K++[x]) x=(i:Int):=by
       unfold frm
       have:idx (K++[x]) x.pf x.pb=some i:=by rw [hx];exact idx_app _ (idx_at hK hKe)
       rw [this]
      unfold rowP
      rw [hf,hx]
     rw [← hx] at hst
     refine ⟨_,hgo,Nat.le_refl 1,_,hset,?_⟩
     refine ⟨trivial,iff' (by rw [beq_self];rfl) ⟨Nat.le_of_eq (Nat.zero_add _),?_,_,old_all rfl,_,hcat,trivial,?_⟩⟩
     ·rw [hPl];show (_+1)*40≤mostBytes;unfold mostBytes;omega
     refine ⟨(k:Int)+1,wrap64 (by omega) (by omega),?_⟩
     exact ⟨⟨rfl,rfl⟩,⟨k+1,g+1,K++[x],by omega,hKx,hst.symm,⟨L++[x],by rw [hKL,List.append_assoc]⟩,rfl⟩,less⟩
 ·skip
  refine ⟨[1,2,3,7,8,9,10],3,[],fun σ=>∃ (k g:Nat) (K:List En),k≤2*n.tanks.length∧Known K∧K=N.tryF bw e k K0∧(∃ L,K=K0++L) ∧
   σ=⟨[(1,.list 1 (bl.map encI)),(2,.int .i64 bw),(3,.loc 0 0),(7,.sl 1 g 0 (rowsP K).length),(8,.sl 2 0 0 16384),(9,.int .i64 (i:Int)),(10,.int .i64 (k:Int))],[.flat false n.enc,.rows false g 17 (rowsP K),.rows false 0 1 (RO K)],.non⟩,
   fun σ=>(1000 - slotI 10 σ).toNat,rfl,⟨rfl,rfl⟩,⟨0,g0,K0,Nat.zero_le _,hK0,rfl,⟨[],(List.append_nil _).symm⟩,rfl⟩,?_⟩
  rintro σ ⟨k,g,K,hk,hK,hrec,⟨L,hKL⟩,rfl⟩
  have hKe:K[i]?=some e:=by rw [hKL,List.getElem?_append_left hi'];exact he
  have hKlen:=hK.len
  have hKi:=(List.getElem?_eq_some_iff.1 hKe).1
  have hPl:=rowsP_len K
  refine ⟨2*((n.tanks.map Tk.enc).length:Int),wrap64 (by omega) (by omega),?_⟩
  refine ⟨fun q2=>?_,fun q2=>?_⟩
  rotate_left
  ·have q2:=of_decide_eq_false q2
   rw [htl] at q2
   obtain rfl:k=2*n.tanks.length:=by omega
   have hgr:K=N.growF bw e N.tanks.length 0 K0:=by rw [hrec,← tryF_all,hNt]
   rw [← hgr] at hreach
   refine ⟨(i:Int)+1,wrap64 (by omega) (by omega),?_⟩
   exact ⟨⟨rfl,rfl⟩,⟨i+1,g,K,by omega,hK,hreach,rfl⟩,lessI⟩
  have q2:=of_decide_eq_true q2
  rw [htl] at q2
  have hk':k<2*n.tanks.length:=by omega
  have less:(1000 - ((k:Int)+1)).toNat<(1000 - (k:Int)).toNat:=by omega
  have hst:N.tryF bw e (k+1) K0=N.tryK bw e k K:=by rw [hrec];rfl
  have hrow:(rowsP K)[((i:Nat):Int).toNat]?=some (rowP K e):=by rw [Int.toNat_natCast];exact rowsP_get hKe (by omega)
  have hquo:((k:Nat):Int).tdiv 2=((k / 2:Nat):Int):=by rw [Int.tdiv_eq_ediv_of_nonneg (Int.natCast_nonneg _)];omega
  have hrem:((k:Nat):Int).tmod 2=((k % 2:Nat):Int):=by rw [Int.tmod_eq_emod_of_nonneg (Int.natCast_nonneg _)];omega
  have hoff:(((k % 2:Nat):Int)==1)=(k % 2==1):=by
   apply Bool.eq_iff_iff.2
   rw [beq_iff_eq,beq_iff_eq]
   omega
  have h60:=den60 n hn bl [] hbl e.f e.b (k / 2) hlt.1 (by omega) (((k % 2:Nat):Int)==1)
  rw [hN,hoff] at h60
  have hlt2:=N.stepR_lt (i:=k / 2) (off:=k % 2==1) hlt.1 hlt.2 (by omega)
  have htry:∀ (f' b':Nat) (is_:Bool),N.stepR e.f e.b (k / 2) (k % 2==1)=((f',b'),is_)→N.tryK bw e k K=match is_ with
      | false=>K
      | true=>if (idx K f' b').isSome=false∧((pop b':Nat):Int)≤bw then K++[⟨f',b',e.f,e.b,k / 2,k % 2==1⟩] else K:=fun f' b' is_ h=>by
    unfold NetL.tryK
    rw [h]
    cases is_ <;> rfl
  obtain ⟨⟨⟨f',b'⟩,is_⟩,hres⟩:∃ y,N.stepR e.f e.b (k / 2) (k % 2==1)=y:=⟨_,rfl⟩
  have htry:=htry f' b' is_ hres
  rw [hres] at h60 hlt2
  rw [← hoff] at h60
  rw [htry] at hst
  clear htry
  obtain ⟨x,hx⟩:∃ x:En,x=⟨f',b',e.f,e.b,k / 2,k % 2==1⟩:=⟨_,rfl⟩
  have h60:DN 60 [.agg n.enc,.list 1 (bl.map encI),.agg (stA e.f e.b),.agg [.int .i64 ((k / 2:Nat):Int),.bool (((k % 2:Nat):Int)==1)]] (.tup [.agg [.bool (f'.testBit 0),.bool (f'.testBit 1),.bool (f'.testBit 2),.bool (f'.testBit 3),.bool (f'.testBit 4),.bool (f'.testBit 5),.bool (f'.testBit 6),.bool (b'.testBit 0),.bool (b'.testBit 1),.bool (b'.testBit 2),.bool (b'.testBit 3),.bool (b'.testBit 4),.bool (b'.testBit 5),.bool (b'.testBit 6)],.bool is_]):=h60
  have h106:DN 106 [.agg [.bool (b'.testBit 0),.bool (b'.testBit 1),.bool (b'.testBit 2),.bool (b'.testBit 3),.bool (b'.testBit 4),.bool (b'.testBit 5),.bool (b'.testBit 6)]] (.int .i64 ((pop b':Nat):Int)):=den106 b'
  have h107:DN 107 [.agg [.bool (f'.testBit 0),.bool (f'.testBit 1),.bool (f'.testBit 2),.bool (f'.testBit 3),.bool (f'.testBit 4),.bool (f'.testBit 5),.bool (f'.testBit 6),.bool (b'.testBit 0),.bool (b'.testBit 1),.bool (b'.testBit 2),.bool (b'.testBit 3),.bool (b'.testBit 4),.bool (b'.testBit 5),.bool (b'.testBit 6)]] (.int .i64 ((codeN f' b':Nat):Int)):=den107 f' b'
  refine ⟨by decide,((k / 2:Nat):Int),(congrArg _ hquo).trans (wrap64 (by omega) (by omega)),?_⟩
  refine ⟨by decide,_,hrem,?_⟩
  refine Or.inr (Or.inr (Or.inl ⟨[0,1,2,3,4,5,6,7,12,8,9,10,11,13,14],9,[8,11,12],by kernel_rfl,?_⟩))
  refine iff' (by rw [beq_self];rfl) ⟨by omega,by omega,_,Nat.zero_add _,?_⟩
  refine iff' (beq_self _) ⟨_,hrow,?_⟩
  refine ⟨_,rfl,_,h60,?_⟩
  refine ⟨⟨⟨_,rfl,rfl⟩,trivial⟩,?_⟩
  refine ⟨⟨⟨_,rfl,rfl⟩,trivial⟩,?_⟩
  refine ⟨⟨rfl,⟨_,rfl,rfl⟩,trivial⟩,?_⟩
  refine ⟨⟨rfl,rfl,⟨_,rfl,rfl⟩,trivial⟩,?_⟩
  refine ⟨⟨rfl,trivial⟩,?_⟩
  refine ⟨trivial,?_⟩
  cases is_ with
  | false =>
   have hst:N.tryF bw e (k+1) K0=K:=hst
   refine ⟨fun h=>Bool.noConfusion (show false=true from h),fun _=>?_⟩
   refine ⟨(k:Int)+1,wrap64 (by omega) (by omega),?_⟩
   exact ⟨⟨rfl,rfl⟩,⟨k+1,g,K,by omega,hK,hst.symm,⟨L,hKL⟩,rfl⟩,less⟩
  | true =>
   have hst:N.tryF bw e (k+1) K0=if (idx K f' b').isSome=false∧((pop b':Nat):Int)≤bw then K++[⟨f',b',e.f,e.b,k / 2,k % 2==1⟩] else K:=hst
   refine ⟨fun _=>?_,fun h=>Bool.noConfusion (show true=false from h)⟩
   refine ⟨_,rfl,_,h106,?_⟩
   refine ⟨fun r1=>?_,fun r1=>?_⟩
   rotate_left
   ·have r1:¬ ((pop b':Nat):Int)≤bw:=of_decide_eq_false r1
    rw [if_neg fun h=>r1 h.2] at hst
    refine ⟨(k:Int)+1,wrap64 (by omega) (by omega),?_⟩
    exact ⟨⟨rfl,rfl⟩,⟨k+1,g,K,by omega,hK,hst.symm,⟨L,hKL⟩,rfl⟩,less⟩
   have r1:((pop b':Nat):Int)≤bw:=of_decide_eq_true r1
   have hcl:=codeN_lt f' b'
   have hgo:=oget K _ hcl
   rw [known_idx hK hlt2.1 hlt2.2] at hgo
   refine ⟨_,rfl,_,h107,?_⟩
   refine ⟨by omega,by omega,_,Nat.zero_add _,?_⟩
   have hgo:(RO K)[((codeN f' b':Nat):Int).toNat]?=some [bD (idx K f' b').isSome]:=by rw [Int.toNat_natCast];exact hgo
   have hz:(idx K f' b').isSome=true∨(idx K f' b').isSome=false:=by cases (idx K f' b').isSome <;> simp
   rcases hz with hix | hix
   ·
    rw [hix] at hgo
    rw [if_neg fun h=>by rw [hix] at h;cases h.1] at hst
    refine ⟨_,hgo,?_⟩
    refine ⟨(k:Int)+1,wrap64 (by omega) (by omega),?_⟩
    exact ⟨⟨rfl,rfl⟩,⟨k+1,g,K,by omega,hK,hst.symm,⟨L,hKL⟩,rfl⟩,less⟩
   ·skip
    rw [hix] at hgo
    rw [if_pos ⟨hix,r1⟩] at hst
    refine ⟨_,hgo,?_⟩
    refine ⟨_,rfl,_,h107,?_⟩
    refine ⟨by omega,by omega,_,Nat.zero_add _,?_⟩
    have hset:(RO K).set (((codeN f' b':Nat):Int).toNat) [.tt]=RO (K++[x]):=by rw [Int.toNat_natCast,hx];exact oset K ⟨f',b',e.f,e.b,k / 2,k % 2==1⟩
    have hnone:idx K f' b'=none:=Option.isSome_eq_false_iff.1 hix |> Option.isNone_iff_eq_none.1
    have hKx:Known (K++[x]):=by rw [hx];exact hK.snoc hlt2.1 hlt2.2 hnone (idx_at hK hKe)
    have hcat:rowsP K++[[.bool (f'.testBit 0),.bool (f'.testBit 1),.bool (f'.testBit 2),.bool (f'.testBit 3),.bool (f'.testBit 4),.bool (f'.testBit 5),.bool (f'.testBit 6),.bool (b'.testBit 0),.bool (b'.testBit 1),.bool (b'.testBit 2),.bool (b'.testBit 3),.bool (b'.testBit 4),.bool (b'.testBit 5),.bool (b'.testBit 6),.int .i64 (i:Int),.int .i64 ((k / 2:Nat):Int),.bool (((k % 2:Nat):Int)==1)]]=rowsP (K++[x]):=by
     show rowsP K++[stA f' b'++[.int .i64 (i:Int),.int .i64 ((k / 2:Nat):Int),.bool (((k % 2:Nat):Int)==1)]]=rowsP (K++[x])
     rw [rowsP_snoc hK,hoff]
     have hf:frm (K++[x]) x=(i:Int):=by
      unfold frm
      have:idx (K++[x]) x.pf x.pb=some i:=by rw [hx];exact idx_app _ (idx_at hK hKe)
      rw [this]
     unfold rowP
     rw [hf,hx]
    rw [← hx] at hst
    refine ⟨_,hgo,Nat.le_refl 1,_,hset,?_⟩
    refine ⟨trivial,iff' (by rw [beq_self];rfl) ⟨Nat.le_of_eq (Nat.zero_add _),?_,_,old_all rfl,_,hcat,trivial,?_⟩⟩
    ·rw [hPl];show (_+1)*40≤mostBytes;unfold mostBytes;omega
    refine ⟨(k:Int)+1,wrap64 (by omega) (by omega),?_⟩
    exact ⟨⟨rfl,rfl⟩,⟨k+1,g+1,K++[x],by omega,hKx,hst.symm,⟨L++[x],by rw [hKL,List.append_assoc]⟩,rfl⟩,less⟩

end Go.Proofs.Vent

namespace Go.Proofs.Vent
open Go.V Go.Proofs

theorem fzs_list {σ:St} {lo t i g sz0 sz:Nat} {fz:Bool} {rs:List (List D)} (h:Go.V.look σ.tmps t=some (.sl i g 0 rs.length)) (hb:σ.boxes[i]?=some (.rows fz g sz rs)) :
    St.fzs σ lo [(.asList t,sz0)]=⟨putIn σ.tmps t (.list sz rs),freezeIn σ.boxes 0 [i],σ.y⟩:=by
  unfold St.fzs
  rw [h]
  simp only
  have hr:reify σ.boxes fuel (.sl i g 0 rs.length)=some (.list sz rs):=reify_sl hb rfl
  rw [hr]
  rfl
theorem reach_want (n:Nt) (bl wt wt':List Int) (bw:Int):(n.look bl wt).reach bw=(n.look bl wt').reach bw:=by
 have h1:∀ (e:En) (i:Nat) (K:List En),(n.look bl wt).grow1 bw e i K=(n.look bl wt').grow1 bw e i K:=fun e i K=>by
  unfold NetL.grow1
  rw [stepR_want n bl wt wt']
 have h2:∀ (e:En) (r i:Nat) (K:List En),(n.look bl wt).growF bw e r i K=(n.look bl wt').growF bw e r i K:=by
  intro e r
  induction r with
  | zero=>intro i K;rfl
  | succ r ih=>intro i K;unfold NetL.growF;rw [h1,ih]
 have h3:∀ (r h:Nat) (K:List En),(n.look bl wt).reachF bw r h K=(n.look bl wt').reachF bw r h K:=by
  intro r
  induction r with
  | zero=>intro h K;rfl
  | succ r ih =>
   intro h K
   unfold NetL.reachF
   cases K[h]? with
   | none=>rfl
   | some e =>
    simp only
    rw [h2,ih]
    rfl
 exact h3 20000 0 [root]

def frmI (K:List En) (i:Nat) (e:En):Int:=if i=0 then -1 else frm K e
theorem rowsN_get {K:List En} (h:Known K) {i:Nat} {e:En} (he:K[i]?=some e):(rowsN K)[i]?=some (stA e.f e.b++[.int .i64 (frmI K i e),.int .i64 (e.tank:Int),.bool e.off]):=by
 cases K with
 | nil=>cases he
 | cons a r =>
  cases i with
  | zero =>
   have h0:=h.ne
   rw [he] at h0
   cases h0
   rfl
  | succ i =>
   show (r.map (rowP (a::r)))[i]?=_
   rw [List.getElem?_map]
   have:r[i]?=some e:=by simpa using he
   rw [this]
   rfl
theorem rowsN_len:∀ K:List En,(rowsN K).length=K.length
 | []=>rfl
 | a::r=>by simp [rowsN]
theorem frmI_pos {K:List En} (h:Known K) {i:Nat} {e:En} (he:K[i]?=some e) (hi:0<i):∃ j:Nat,frmI K i e=(j:Int)∧j<i∧idx K e.pf e.pb=some j:=by
 obtain ⟨j,h1,h2⟩:=h.par i e he hi
 refine ⟨j,?_,h2,h1⟩
 unfold frmI frm
 rw [if_neg (by omega),h1]

set_option maxRecDepth 10000 in
set_option maxHeartbeats 16000000 in
theorem den79 (n:Nt) (hn:n.Ok) (bl wt:List Int) (hbl:bl.length<9223372036854775808) (hwl:wt.length<9223372036854775808) (hin:inAll n.tanks.length wt) (bw:Int) :
    DN 79 [.agg n.enc,.list 1 (bl.map encI),.list 1 (wt.map encI),.int .i64 bw] (planR ((n.look bl wt).plan bw)):=by
  have h7:=hn.t7
  have hok:=Nt.look_ok hn bl hin
  have h98:=den98 n hn bl hbl bw
  rw [reach_want n bl [] wt] at h98
  obtain ⟨hR,hplan⟩:=plan_reach hok bw
  have hw7:∀ v∈wt,0≤v∧v<7:=fun v hv=>by have:=hin v hv;omega
  have hgoal:∀ e∈(n.look bl wt).reach bw,freedB wt e.f e.b=(n.look bl wt).goal e:=fun e he=>freedB_goal hn hin (hR.lt e he).2
  obtain ⟨R,hRr⟩:∃ R,(n.look bl wt).reach bw=R:=⟨_,rfl⟩
  obtain ⟨P,hP⟩:∃ P,(n.look bl wt).plan bw=P:=⟨_,rfl⟩
  rw [hP] at hplan ⊢
  rw [hRr] at h98 hR hplan hgoal
  have hRl:=rowsN_len R
  have hRmax:=hR.len
  refine mkW Try.func79 Try.call79 rfl rfl ?_
  refine ⟨_,rfl,_,h98,?_⟩
  refine ⟨[2,4,10,11],1,[],fun σ=>∃ i:Nat,i≤R.length∧(∀ j d,j<i→R[j]?=some d→(n.look bl wt).goal d=false) ∧
   σ=⟨[(2,.list 1 (wt.map encI)),(4,.loc 0 0),(10,.list 17 (rowsN R)),(11,.int .i64 (i:Int))],[.flat false n.enc],.non⟩,
   fun σ=>(20000 - slotI 11 σ).toNat,rfl,⟨rfl,rfl⟩,⟨0,Nat.zero_le _,fun j d h=>absurd h (Nat.not_lt_zero _),rfl⟩,?_⟩
  rintro σ ⟨i,hi,hall,rfl⟩
  refine ⟨fun q1=>?_,fun q1=>?_⟩
  rotate_left
  ·have q1:¬ (i:Int)<(((rowsN R).length:Nat):Int):=of_decide_eq_false q1
   cases P with
   | none=>exact ⟨_,rfl,.tcons (.nil 0 2) (.refl _)⟩
   | some l =>
    obtain ⟨j,e,h1,h2,_⟩:=hplan
    have hj:=(List.getElem?_eq_some_iff.1 h1).1
    have:=hall j e (by omega) h1
    rw [h2] at this;cases this
  have q1:(i:Int)<(((rowsN R).length:Nat):Int):=of_decide_eq_true q1
  have hi':i<R.length:=by omega
  have lessI:(20000 - ((i:Int)+1)).toNat<(20000 - (i:Int)).toNat:=by omega
  obtain ⟨e,he⟩:∃ e,R[i]?=some e:=⟨_,List.getElem?_eq_getElem hi'⟩
  have hrow:=rowsN_get hR he
  have hrowI:(rowsN R)[((i:Nat):Int).toNat]?=some (stA e.f e.b++[.int .i64 (frmI R i e),.int .i64 (e.tank:Int),.bool e.off]):=by rw [Int.toNat_natCast];exact hrow
  have hge:=hgoal e (List.mem_of_getElem? he)
  refine ⟨by omega,_,hrowI,?_⟩
  refine ⟨_,rfl,_,den99 e.f e.b wt hwl hw7,?_⟩
  refine ⟨fun q2=>?_,fun q2=>?_⟩
  ·have q2:(!(freedB wt e.f e.b))=true:=q2
   have q2:(n.look bl wt).goal e=false:=by rw [← hge];simpa using q2
   refine ⟨(i:Int)+1,wrap64 (by omega) (by omega),?_⟩
   refine ⟨⟨rfl,rfl⟩,⟨i+1,hi',fun j d hj hd=>?_,rfl⟩,lessI⟩
   by_cases e0:j=i
   ·subst e0;rw [he] at hd;cases hd;exact q2
   ·exact hall j d (by omega) hd
  have q2:(!(freedB wt e.f e.b))=false:=q2
  have q2:(n.look bl wt).goal e=true:=by rw [← hge];simpa using q2
  obtain ⟨l,rfl,hl⟩:∃ l,P=some l∧l=(pathF R 20000 e.f e.b).reverse:=by
   cases P with
   | none =>
    have:=hplan e (List.mem_of_getElem? he)
    rw [q2] at this;cases this
   | some l =>
    obtain ⟨j,d,h1,h2,h3,h4⟩:=hplan
    refine ⟨l,rfl,?_⟩
    have:j=i:=by
     rcases Nat.lt_trichotomy j i with h | h | h
     ·have:=hall j d h h1;rw [h2] at this;cases this
     ·exact h
     ·have:=h3 i e h he;rw [q2] at this;cases this
    subst this
    rw [he] at h1
    cases h1
    exact h4
  refine ⟨[4,10,12,13],1,[(.asList 12,2)],fun σ=>∃ (k q:Nat) (e2:En) (out:List Vs),R[k]?=some e2∧k<q∧l=(pathF R q e2.f e2.b).reverse++out∧out.length+k≤20000 ∧
   σ=⟨[(4,.loc 0 0),(10,.list 17 (rowsN R)),(12,.list 2 (out.map Vs.enc)),(13,.int .i64 (k:Int))],[.flat false n.enc],.non⟩,
   fun σ=>(slotI 13 σ).toNat,rfl,⟨rfl,rfl⟩,⟨i,20000,e,[],he,by omega,by rw [List.append_nil];exact hl,by simp;omega,rfl⟩,?_⟩
  rintro σ ⟨k,q,e2,out,hk2,hkq,hpath,hol,rfl⟩
  have hrow2:=rowsN_get hR hk2
  have hk2':=(List.getElem?_eq_some_iff.1 hk2).1
  have hrowk:(rowsN R)[((k:Nat):Int).toNat]?=some (stA e2.f e2.b++[.int .i64 (frmI R k e2),.int .i64 (e2.tank:Int),.bool e2.off]):=by rw [Int.toNat_natCast];exact hrow2
  refine ⟨by omega,_,hrowk,?_⟩
  refine ⟨fun q3=>?_,fun q3=>?_⟩
  rotate_left
  ·have q3:¬ frmI R k e2 ≥ 0:=of_decide_eq_false q3
   have hk0:k=0:=by
    rcases Nat.eq_zero_or_pos k with h | h
    ·exact h
    ·obtain ⟨j,h1,_⟩:=frmI_pos hR hk2 h
     omega
   subst hk0
   rw [hR.ne] at hk2
   cases hk2
   have:pathF R q root.f root.b=[]:=by
    cases q with
    | zero=>rfl
    | succ q=>rfl
   rw [this] at hpath
   have hpath:l=out:=hpath
   subst hpath
   exact ⟨_,rfl,.refl _⟩
  have q3:frmI R k e2 ≥ 0:=of_decide_eq_true q3
  have hkp:0<k:=by
   rcases Nat.eq_zero_or_pos k with h | h
   ·subst h;unfold frmI at q3;rw [if_pos rfl] at q3;omega
   ·exact h
  obtain ⟨j,hj1,hj2,hj3⟩:=frmI_pos hR hk2 hkp
  obtain ⟨e3,e31,e32,e33⟩:=idx_get hj3
  obtain ⟨q',rfl⟩:∃ q',q=q'+1:=⟨q - 1,by omega⟩
  have hst:pathF R (q'+1) e2.f e2.b=⟨(e2.tank:Nat),e2.off⟩::pathF R q' e2.pf e2.pb:=by
   have hne:¬ (e2.f=0∧e2.b=0):=fun h=>by
    have:=hR.one k 0 e2 root hk2 hR.ne h.1 h.2
    omega
   conv=>lhs;unfold pathF
   rw [if_neg hne,idx_at hR hk2]
   simp only
   rw [hk2]
  rw [hj1] at hrowk
  obtain ⟨x,hx⟩:∃ x:Vs,x=⟨(e2.tank:Int),e2.off⟩:=⟨_,rfl⟩
  have hpath2:l=(pathF R q' e3.f e3.b).reverse++(x::out):=by
   rw [hpath,hst,List.reverse_cons,List.append_assoc,e32,e33,hx]
   rfl
  have hcat:[[D.int .i64 (e2.tank:Int),.bool e2.off]]++out.map Vs.enc=(x::out).map Vs.enc:=by rw [hx];rfl
  have hlx:(x::out).length=out.length+1:=rfl
  refine ⟨by omega,_,hrowk,?_⟩
  refine ⟨trivial,iff' (by rfl) ⟨Nat.le_of_eq (Nat.zero_add _),?_,_,old_all rfl,_,hcat,trivial,?_⟩⟩
  ·rw [List.length_map];show (1+_)*16≤mostBytes;unfold mostBytes;omega
  refine ⟨by omega,_,hrowk,?_⟩
  refine ⟨?_,?_,?_⟩
  ·rw [fzs_list (i:=1) (g:=1) (sz:=2) (fz:=false) (rs:=(x::out).map Vs.enc) rfl rfl]
   exact ⟨rfl,rfl⟩
  ·rw [fzs_list (i:=1) (g:=1) (sz:=2) (fz:=false) (rs:=(x::out).map Vs.enc) rfl rfl]
   exact ⟨j,q',e3,x::out,e31,by omega,hpath2,by rw [hlx];omega,rfl⟩
  ·rw [fzs_list (i:=1) (g:=1) (sz:=2) (fz:=false) (rs:=(x::out).map Vs.enc) rfl rfl]
   show ((j:Nat):Int).toNat<((k:Nat):Int).toNat
   omega

set_option maxHeartbeats 4000000 in
theorem den32 (n:Nt) (bl wt:List Int) (bw:Int) (hbl:bl.length<9223372036854775808) (hwl:wt.length<9223372036854775808):DN 32 [.agg n.enc,.list 1 (bl.map encI),.list 1 (wt.map encI),.int .i64 bw] (tupVI (n.planN bl wt bw)):=by
 have h65:=den65 n bl wt hbl hwl
 refine mkW Try.func32 Try.call32 rfl rfl ?_
 refine ⟨_,rfl,_,h65,?_⟩
 by_cases he:n.lookE bl wt true=0
 rotate_left
 ·have hR:n.planN bl wt bw=([],n.lookE bl wt true):=by unfold Nt.planN;rw [if_neg he]
  rw [hR]
  refine ⟨fun h=>?_,fun _=>?_⟩
  ·have h:(n.lookE bl wt true==0)=true:=h
   exact absurd (by simpa using h) he
  refine ⟨fun _=>?_,fun h=>?_⟩
  ·exact ⟨_,rfl,.tcons (.nil 0 2) (.refl _)⟩
  ·have h:(n.lookE bl wt true != 0)=false:=h
   exact absurd (by simpa using h) he
 obtain ⟨hn,_,hw⟩:=Nt.lookE_ok he
 have hin:=Nt.wantedE_in (hw rfl)
 by_cases hk:bw<1∨bw > 7
 ·have hR:n.planN bl wt bw=([],7):=by unfold Nt.planN;rw [if_pos he,if_pos hk]
  rw [hR]
  rw [he] at h65 ⊢
  refine ⟨fun _=>?_,fun h=>Bool.noConfusion (show true=false from h)⟩
  refine ⟨fun q=>?_,fun q=>?_⟩
  ·refine ⟨fun _=>?_,fun h=>Bool.noConfusion (show true=false from h)⟩
   exact ⟨_,rfl,.tcons (.nil 0 2) (.refl _)⟩
  ·have q:¬ bw<1:=of_decide_eq_false q
   refine ⟨fun q2=>?_,fun q2=>?_⟩
   ·refine ⟨fun _=>?_,fun h=>Bool.noConfusion (show true=false from h)⟩
    exact ⟨_,rfl,.tcons (.nil 0 2) (.refl _)⟩
   ·have q2:¬ bw > 7:=of_decide_eq_false q2
    omega
 have hR:=planN_of (n:=n) (bl:=bl) (wt:=wt) (k:=bw) he (by omega) (by omega)
 have h79:=den79 n hn bl wt hbl hwl hin bw
 rw [hR]
 rw [he] at h65 ⊢
 refine ⟨fun _=>?_,fun h=>Bool.noConfusion (show true=false from h)⟩
 refine ⟨fun q=>?_,fun _=>?_⟩
 ·have q:bw<1:=of_decide_eq_true q
  omega
 refine ⟨fun q=>?_,fun _=>?_⟩
 ·have q:bw > 7:=of_decide_eq_true q
  omega
 refine ⟨fun h=>Bool.noConfusion (show false=true from h),fun _=>?_⟩
 cases hp:(n.look bl wt).plan bw with
 | none =>
  rw [hp] at h79
  refine ⟨_,rfl,_,h79,?_⟩
  refine ⟨fun _=>?_,fun h=>Bool.noConfusion (show true=false from h)⟩
  exact ⟨_,rfl,.tcons (.nil 0 2) (.refl _)⟩
 | some l =>
  rw [hp] at h79
  refine ⟨_,rfl,_,h79,?_⟩
  refine ⟨fun h=>Bool.noConfusion (show false=true from h),fun _=>?_⟩
  exact ⟨_,rfl,.refl _⟩

end Go.Proofs.Vent

namespace Go.Proofs.Vent
open Go.V Go.Proofs

set_option maxHeartbeats 4000000 in
theorem den35 (n:Nt) (bl wt:List Int) (hbl:bl.length<9223372036854775808) (hwl:wt.length<9223372036854775808):DN 35 [.agg n.enc,.list 1 (bl.map encI),.list 1 (wt.map encI)] (tupII (n.fewN bl wt)):=by
 have h65:=den65 n bl wt hbl hwl
 refine mk Try.func35 Try.call35 rfl rfl ?_
 refine ⟨_,rfl,_,h65,?_⟩
 by_cases he:n.lookE bl wt true=0
 rotate_left
 ·have hR:n.fewN bl wt=(0,n.lookE bl wt true):=by unfold Nt.fewN;rw [if_neg he]
  rw [hR]
  refine ⟨fun _=>?_,fun h=>?_⟩
  ·rfl
  ·have h:(n.lookE bl wt true != 0)=false:=h
   exact absurd (by simpa using h) he
 obtain ⟨hn,_,hw⟩:=Nt.lookE_ok he
 have hin:=Nt.wantedE_in (hw rfl)
 have hok:=Nt.look_ok hn bl hin
 have h7:=hn.t7
 have h70:=den70 n hn bl wt hbl hwl hin
 have h79:=fun bw=>den79 n hn bl wt hbl hwl hin bw
 have htl:(n.look bl wt).tanks.length=n.tanks.length:=rfl
 have hs:(n.look bl wt).separate=false∨(n.look bl wt).separate=true:=by cases (n.look bl wt).separate <;> simp
 rcases hs with hs | hs
 ·skip
  rw [fewN_not he hs]
  rw [hs] at h70
  rw [he] at h65 ⊢
  refine ⟨fun h=>Bool.noConfusion (show false=true from h),fun _=>?_⟩
  refine ⟨[1,2,3,9],1,[],fun σ=>σ=⟨[(1,.list 1 (bl.map encI)),(2,.list 1 (wt.map encI)),(3,.loc 0 0),(9,.int .i64 1)],[.flat false n.enc],.non⟩,
   fun σ=>(1000 - slotI 9 σ).toNat,rfl,⟨rfl,rfl⟩,rfl,?_⟩
  rintro σ rfl
  refine ⟨fun _=>?_,fun h=>absurd h (by decide)⟩
  refine ⟨_,rfl,_,h70,?_⟩
  refine ⟨fun h=>Bool.noConfusion (show false=true from h),fun _=>?_⟩
  rfl
 ·skip
  obtain ⟨c,f1,c1,c2,⟨l,hl⟩,hmin⟩:=few_ok hok (want_in hin) hs
  rw [fewN_sep he hs,f1]
  rw [hs] at h70
  rw [he] at h65 ⊢
  refine ⟨fun h=>Bool.noConfusion (show false=true from h),fun _=>?_⟩
  refine ⟨[1,2,3,9],1,[],fun σ=>∃ j:Nat,1≤j∧j≤c∧σ=⟨[(1,.list 1 (bl.map encI)),(2,.list 1 (wt.map encI)),(3,.loc 0 0),(9,.int .i64 (j:Int))],[.flat false n.enc],.non⟩,
   fun σ=>(1000 - slotI 9 σ).toNat,rfl,⟨rfl,rfl⟩,⟨1,Nat.le_refl _,c1,rfl⟩,?_⟩
  rintro σ ⟨j,hj1,hj,rfl⟩
  refine ⟨fun _=>?_,fun q=>?_⟩
  rotate_left
  ·have q:¬ (j:Int)≤7:=of_decide_eq_false q
   omega
  refine ⟨_,rfl,_,h70,?_⟩
  refine ⟨fun _=>?_,fun h=>Bool.noConfusion (show true=false from h)⟩
  have h79:=h79 j
  by_cases e:j=c
  ·subst e
   rw [hl] at h79
   refine ⟨_,rfl,_,h79,?_⟩
   refine ⟨fun _=>?_,fun h=>Bool.noConfusion (show true=false from h)⟩
   rfl
  ·rw [hmin j hj1 (by omega)] at h79
   refine ⟨_,rfl,_,h79,?_⟩
   refine ⟨fun h=>Bool.noConfusion (show false=true from h),fun _=>?_⟩
   refine ⟨(j:Int)+1,wrap64 (by omega) (by omega),?_⟩
   refine ⟨⟨rfl,rfl⟩,⟨j+1,by omega,by omega,rfl⟩,?_⟩
   show (1000 - ((j:Int)+1)).toNat<(1000 - (j:Int)).toNat
   omega

theorem planN_len (n:Nt) (bl wt:List Int) (k:Int):(n.planN bl wt k).1.length<9223372036854775808:=by
 have h0:(0:Nat)<9223372036854775808:=by decide
 by_cases he:n.lookE bl wt true=0
 ·by_cases hk:k<1∨k > 7
  ·unfold Nt.planN;rw [if_pos he,if_pos hk];exact h0
  ·rw [planN_of he (by omega) (by omega)]
   obtain ⟨hn,_,hw⟩:=Nt.lookE_ok he
   have hok:=Nt.look_ok hn bl (Nt.wantedE_in (hw rfl))
   cases hp:(n.look bl wt).plan k with
   | none=>exact h0
   | some l =>
    obtain ⟨_,hR⟩:=plan_reach hok k
    rw [hp] at hR
    obtain ⟨i,e,_,_,_,hl⟩:=hR
    have key:∀ (K:List En) (q f b:Nat),(pathF K q f b).length≤q:=by
     intro K q
     induction q with
     | zero=>intro f b;exact Nat.le_refl _
     | succ q ih =>
      intro f b
      unfold pathF
      split
      ·exact Nat.zero_le _
      ·split
       ·exact Nat.zero_le _
       ·split
        ·exact Nat.zero_le _
        ·rename_i e he
         rw [List.length_cons];have:=ih e.pf e.pb;omega
    show l.length<_
    rw [hl,List.length_reverse]
    have:=key ((n.look bl wt).reach k) 20000 e.f e.b
    omega
 ·unfold Nt.planN;rw [if_neg he];exact h0

set_option maxRecDepth 10000 in
set_option maxHeartbeats 8000000 in
theorem den5 (n:Nt) (bl wt:List Int) (k:Int) (hbl:bl.length<9223372036854775808) (hwl:wt.length<9223372036854775808):DN 5 [.agg n.enc,askD bl wt k] (.bool true):=by
 have h31:=den31 n bl wt k hbl hwl
 have h32:=den32 n bl wt k hbl hwl
 have h34:=den34 n bl wt hbl hwl
 have h35:=den35 n bl wt hbl hwl
 have hl:=planN_len n bl wt k
 obtain ⟨⟨L1,E1⟩,h1⟩:∃ y,n.planN bl wt k=y:=⟨_,rfl⟩
 obtain ⟨⟨c,E2⟩,h2⟩:∃ y,n.fewN bl wt=y:=⟨_,rfl⟩
 rw [h1] at h31 h32 hl
 rw [h2] at h34 h35
 have h33:=den33 L1 L1 hl
 rw [eqVs_eq.2 rfl] at h33
 refine mk Try.func5 Try.call5 rfl rfl ?_
 refine ⟨_,rfl,_,h31,?_⟩
 refine ⟨_,rfl,_,h32,?_⟩
 refine ⟨_,rfl,_,h33,?_⟩
 refine ⟨fun h=>Bool.noConfusion (show false=true from h),fun _=>?_⟩
 refine ⟨fun q=>(xNe q).elim,fun _=>?_⟩
 refine ⟨_,rfl,_,h34,?_⟩
 refine ⟨_,rfl,_,h35,?_⟩
 refine ⟨fun _=>?_,fun h=>(xEq h).elim⟩
 refine ⟨fun _=>?_,fun h=>(xEq h).elim⟩
 exact ⟨_,rfl,_,den23,rfl⟩

end Go.Proofs.Vent
