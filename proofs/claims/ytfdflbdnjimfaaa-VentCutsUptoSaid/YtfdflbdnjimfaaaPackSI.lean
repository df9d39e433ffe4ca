/- The document's gas and Proves, walked. No condition. -/
import Derived.Test.YtfdflbdnjimfaaaPackSH

namespace Go.Proofs.Vent
open Go.V Go.Proofs

theorem snocAll {p:Nat→Bool} {k:Nat} (h:∀ j,j<k→p j=false) (hk:p k=false):∀ j,j<k+1→p j=false:=fun j hj=>by
 by_cases e:j=k
 ·rw [e];exact hk
 ·exact h j (by omega)
theorem gasW_cons {n:Nt} {wt tanks:List Int} {v last to:Int} {r:List Int} (hl:lastI tanks=last) (ht:stepTo n last v=to):gasW n wt (v::r) tanks=match decide (to ≥ 0) && (!(hasI tanks to) && (!(n.keepB to) && (hasI wt to==r.isEmpty))) with
    | true=>gasW n wt r (tanks++[to])
    | false=>false:=by
  subst hl;subst ht;rfl
theorem nodup_snoc {l:List Int} {v:Int} (h:l.Nodup) (hv:hasI l v=false):(l++[v]).Nodup:=by
 rw [List.nodup_append]
 refine ⟨h,by simp,fun a ha b hb e=>?_⟩
 rw [List.mem_singleton.1 hb] at e
 subst e
 have:hasI l a=true:=by unfold hasI;rw [List.any_eq_true];exact ⟨a,ha,beq_self_eq_true _⟩
 rw [this] at hv;cases hv

set_option maxRecDepth 10000 in
set_option maxHeartbeats 16000000 in
theorem den77 (n:Nt) (hn:n.Ok) (wt way:List Int) (hwl:wt.length<9223372036854775808) (hyl:way.length<9223372036854775808) :
    DN 77 [.agg n.enc,.list 1 (wt.map encI),.list 1 (way.map encI)] (.bool (gasQ n wt way)):=by
  have h7:=hn.t7
  have h12:=hn.p
  have htl:((n.tanks.map Tk.enc).length:Int)=n.tanks.length:=by simp
  have hpl:((n.pipes.map Rp.enc).length:Int)=n.pipes.length:=by simp
  have hwyl:=encI_lenI way
  refine mk Try.func77 Try.call77 rfl rfl ?_
  refine ⟨[1,2,3,7],1,[],fun σ=>∃ k:Nat,k≤n.tanks.length∧(∀ j,j<k→(n.keptB j && (!(way.isEmpty) && gasW n wt way [(j:Int)]))=false) ∧
   σ=⟨[(1,.list 1 (wt.map encI)),(2,.list 1 (way.map encI)),(3,.loc 0 0),(7,.int .i64 (k:Int))],[.flat false n.enc],.non⟩,
   fun σ=>(1000 - slotI 7 σ).toNat,rfl,⟨rfl,rfl⟩,⟨0,Nat.zero_le _,fun j h=>absurd h (Nat.not_lt_zero _),rfl⟩,?_⟩
  rintro σ ⟨k,hk,hall,rfl⟩
  refine ⟨fun q1=>?_,fun q1=>?_⟩
  rotate_left
  ·have q1:=of_decide_eq_false q1
   rw [htl] at q1
   have:gasQ n wt way=false:=by
    unfold gasQ
    rw [List.any_eq_false]
    intro j hj
    rw [List.mem_range] at hj
    rw [hall j (by omega)]
    decide
   show some (D.bool false)=some (D.bool (gasQ n wt way))
   rw [this]
  have q1:=of_decide_eq_true q1
  rw [htl] at q1
  have hk':k<n.tanks.length:=by omega
  have lessK:(1000 - ((k:Int)+1)).toNat<(1000 - (k:Int)).toNat:=by omega
  obtain ⟨t,ht⟩:∃ t,n.tanks[k]?=some t:=⟨_,List.getElem?_eq_getElem hk'⟩
  have htrow:(n.tanks.map Tk.enc)[((k:Nat):Int).toNat]?=some t.enc:=by rw [Int.toNat_natCast,List.getElem?_map,ht];rfl
  have hkb:n.keptB k=t.kept:=by unfold Nt.keptB;rw [ht]
  refine ⟨by omega,_,htrow,?_⟩
  refine ⟨fun q2=>?_,fun q2=>?_⟩
  ·have q2:(!t.kept)=true:=q2
   have q2:t.kept=false:=by simpa using q2
   refine ⟨(k:Int)+1,wrap64 (by omega) (by omega),?_⟩
   exact ⟨⟨rfl,rfl⟩,⟨k+1,hk',snocAll hall (by rw [hkb,q2];rfl),rfl⟩,lessK⟩
  have q2:(!t.kept)=false:=q2
  have q2:t.kept=true:=by simpa using q2
  rw [q2] at hkb
  obtain ⟨T,hT⟩:∃ T,(!(way.isEmpty) && gasW n wt way [(k:Int)])=T:=⟨_,rfl⟩
  have hF:T=false→(n.keptB k && (!(way.isEmpty) && gasW n wt way [(k:Int)]))=false:=fun h=>by rw [hT,h,Bool.and_false]
  have hTt:T=true→gasQ n wt way=true:=fun h=>by
   unfold gasQ
   rw [List.any_eq_true]
   exact ⟨k,List.mem_range.2 hk',by rw [hkb,hT,h];rfl⟩
  refine ⟨[1,2,3,7,8,9,10],2,[],fun σ=>∃ (i g:Nat) (tanks:List Int) (v:D),i≤way.length∧tanks.length=i+1 ∧
   ((v=.bool true∧T=gasW n wt (way.drop i) tanks∧tanks.Nodup∧∀ v∈tanks,0≤v∧v<n.tanks.length)∨((v=.bool false∨v=.ff)∧T=false)) ∧
   σ=⟨[(1,.list 1 (wt.map encI)),(2,.list 1 (way.map encI)),(3,.loc 0 0),(7,.int .i64 (k:Int)),(8,.sl 1 g 0 (tanks.map encI).length),(9,v),(10,.int .i64 (i:Int))],[.flat false n.enc,.rows false g 1 (tanks.map encI)],.non⟩,
   fun σ=>((way.length:Int) - slotI 10 σ).toNat,rfl,⟨rfl,rfl⟩,⟨0,0,[(k:Int)],.bool (decide (((way.map encI).length:Int) > 0)),Nat.zero_le _,rfl,?_,rfl⟩,?_⟩
  ·rw [hwyl]
   cases hw0:way with
   | nil =>
    right
    refine ⟨.inl rfl,?_⟩
    rw [← hT,hw0];rfl
   | cons x r =>
    left
    refine ⟨congrArg D.bool (decide_eq_true (by simp only [List.length_cons];omega)),?_,by simp,fun v hv=>by rw [List.mem_singleton.1 hv];omega⟩
    rw [← hT,hw0];rfl
  rintro σ ⟨i,g,tanks,v,hi,htkl,hcase,rfl⟩
  have htnl:=encI_lenI tanks
  rcases hcase with ⟨rfl,hrec,hnd,hrange⟩ | ⟨rfl | rfl,hTf⟩
  rotate_left
  ·refine ⟨fun q3=>?_,fun q3=>?_⟩
   ·refine ⟨fun h=>Bool.noConfusion (show false=true from h),fun _=>?_⟩
    refine ⟨fun h=>Bool.noConfusion (show false=true from h),fun _=>?_⟩
    refine ⟨(k:Int)+1,wrap64 (by omega) (by omega),?_⟩
    exact ⟨⟨rfl,rfl⟩,⟨k+1,hk',snocAll hall (hF hTf),rfl⟩,lessK⟩
   ·refine ⟨fun h=>Bool.noConfusion (show false=true from h),fun _=>?_⟩
    refine ⟨(k:Int)+1,wrap64 (by omega) (by omega),?_⟩
    exact ⟨⟨rfl,rfl⟩,⟨k+1,hk',snocAll hall (hF hTf),rfl⟩,lessK⟩
  ·refine ⟨fun q3=>?_,fun q3=>?_⟩
   ·refine ⟨(k:Int)+1,wrap64 (by omega) (by omega),?_⟩
    exact ⟨⟨rfl,rfl⟩,⟨k+1,hk',snocAll hall (hF hTf),rfl⟩,lessK⟩
   ·refine ⟨(k:Int)+1,wrap64 (by omega) (by omega),?_⟩
    exact ⟨⟨rfl,rfl⟩,⟨k+1,hk',snocAll hall (hF hTf),rfl⟩,lessK⟩
  refine ⟨fun q3=>?_,fun q3=>?_⟩
  rotate_left
  ·have q3:=of_decide_eq_false q3
   rw [hwyl] at q3
   rw [List.drop_of_length_le (by omega)] at hrec
   refine ⟨fun _=>?_,fun h=>Bool.noConfusion (show true=false from h)⟩
   show some (D.bool true)=some (D.bool (gasQ n wt way))
   rw [hTt hrec]
  have q3:=of_decide_eq_true q3
  rw [hwyl] at q3
  have hi':i<way.length:=by omega
  have less:((way.length:Int) - ((i:Int)+1)).toNat<((way.length:Int) - (i:Int)).toNat:=by omega
  have htk7:=nodup_len n.tanks.length tanks hnd hrange
  obtain ⟨x,hx⟩:∃ x,way[i]'hi'=x:=⟨_,rfl⟩
  have hxrow:=encI_get hi'
  rw [hx] at hxrow
  have hdrop:way.drop i=x::way.drop (i+1):=by rw [List.drop_eq_getElem_cons hi',hx]
  have hemp:(way.drop (i+1)).isEmpty=((i:Int)==(((way.map encI).length:Nat):Int) - 1):=by
   rw [hwyl]
   apply Bool.eq_iff_iff.2
   rw [List.isEmpty_iff,List.drop_eq_nil_iff,beq_iff_eq]
   omega
  obtain ⟨last,hlast⟩:∃ v,lastI tanks=v:=⟨_,rfl⟩
  have hne:tanks≠[]:=fun e=>by rw [e] at htkl;simp at htkl
  have hlrow:=lastI_get hne
  rw [hlast,← htnl] at hlrow
  rw [hdrop] at hrec
  refine ⟨fun _=>?_,fun h=>Bool.noConfusion (show true=false from h)⟩
  refine ⟨((tanks.map encI).length:Int) - 1,wrap64 (by omega) (by omega),?_⟩
  refine iff' (by rw [beq_self];rfl) ⟨by omega,by omega,_,Nat.zero_add _,?_⟩
  refine iff' (beq_self _) ⟨_,hlrow,?_⟩
  refine Or.inl ⟨by kernel_rfl,?_⟩
  refine ⟨by omega,_,hxrow,?_⟩
  refine ⟨_,rfl,_,den54 x _,?_⟩
  refine ⟨fun q4=>?_,fun q4=>?_⟩
  rotate_left
  ·have q4:(!(offB ((n.pipes.map Rp.enc).length:Int) x))=false:=q4
   rw [hpl] at q4
   have hto:stepTo n last x=-1:=by unfold stepTo;rw [show offB n.pipes.length x=true by simpa using q4]
   rw [gasW_cons hlast hto] at hrec
   refine ⟨fun h=>Bool.noConfusion (show false=true from h),fun _=>?_⟩
   refine ⟨trivial,iff' (by rw [beq_self];rfl) ⟨Nat.le_of_eq (Nat.zero_add _),?_,_,old_all rfl,_,encI_snoc tanks (-1),trivial,?_⟩⟩
   ·rw [List.length_map];show (_+1)*8≤mostBytes;unfold mostBytes;omega
   refine ⟨(i:Int)+1,wrap64 (by omega) (by omega),?_⟩
   exact ⟨⟨rfl,rfl⟩,⟨i+1,g+1,tanks++[(-1)],.ff,hi',by simp;omega,.inr ⟨.inr rfl,hrec⟩,rfl⟩,less⟩
  have q4:(!(offB ((n.pipes.map Rp.enc).length:Int) x))=true:=q4
  rw [hpl] at q4
  have q4:offB n.pipes.length x=false:=by simpa using q4
  have hxr:0≤x∧x<n.pipes.length:=by
   unfold offB at q4
   rw [Bool.or_eq_false_iff] at q4
   have:=of_decide_eq_false q4.1
   have:=of_decide_eq_false q4.2
   omega
  obtain ⟨p,hp⟩:∃ p,n.pipes[x.toNat]?=some p:=⟨_,List.getElem?_eq_getElem (by omega)⟩
  have hprow:(n.pipes.map Rp.enc)[x.toNat]?=some p.enc:=by rw [List.getElem?_map,hp];rfl
  have hpe:=hn.pe p (List.mem_of_getElem? hp)
  obtain ⟨to,hoth⟩:∃ v,otherI p last=v:=⟨_,rfl⟩
  have h91:=den91 p last
  rw [hoth] at h91
  have hto:stepTo n last x=to:=by unfold stepTo;rw [q4,hp];exact hoth
  rw [gasW_cons hlast hto,hemp] at hrec
  refine Or.inl ⟨by kernel_rfl,?_⟩
  refine ⟨by omega,_,hxrow,?_⟩
  refine ⟨by omega,_,hprow,?_⟩
  refine ⟨_,rfl,_,h91,?_⟩
  refine ⟨fun r1=>?_,fun r1=>?_⟩
  rotate_left
  ·have r1:decide (to ≥ 0)=false:=r1
   rw [r1] at hrec
   refine ⟨trivial,iff' (by rw [beq_self];rfl) ⟨Nat.le_of_eq (Nat.zero_add _),?_,_,old_all rfl,_,encI_snoc tanks to,trivial,?_⟩⟩
   ·rw [List.length_map];show (_+1)*8≤mostBytes;unfold mostBytes;omega
   refine ⟨(i:Int)+1,wrap64 (by omega) (by omega),?_⟩
   exact ⟨⟨rfl,rfl⟩,⟨i+1,g+1,tanks++[to],.ff,hi',by simp;omega,.inr ⟨.inr rfl,hrec⟩,rfl⟩,less⟩
  have r1:decide (to ≥ 0)=true:=r1
  rw [r1] at hrec
  have hto0:to ≥ 0:=of_decide_eq_true r1
  have hto1:to<n.tanks.length:=by
   unfold otherI at hoth
   split at hoth
   ·omega
   ·split at hoth <;> omega
  obtain ⟨t2,ht2⟩:∃ t,n.tanks[to.toNat]?=some t:=⟨_,List.getElem?_eq_getElem (by omega)⟩
  have ht2row:(n.tanks.map Tk.enc)[to.toNat]?=some t2.enc:=by rw [List.getElem?_map,ht2];rfl
  have hkp:n.keepB to=t2.kept:=tank_keep ht2
  rw [hkp] at hrec
  refine ⟨_,mapO_cons (reify_sl rfl rfl) (mapO_cons rfl rfl),_,den46 tanks to (by omega),?_⟩
  refine ⟨fun r2=>?_,fun r2=>?_⟩
  rotate_left
  ·have r2:(!(hasI tanks to))=false:=r2
   rw [r2] at hrec
   refine ⟨trivial,iff' (by rw [beq_self];rfl) ⟨Nat.le_of_eq (Nat.zero_add _),?_,_,old_all rfl,_,encI_snoc tanks to,trivial,?_⟩⟩
   ·rw [List.length_map];show (_+1)*8≤mostBytes;unfold mostBytes;omega
   refine ⟨(i:Int)+1,wrap64 (by omega) (by omega),?_⟩
   exact ⟨⟨rfl,rfl⟩,⟨i+1,g+1,tanks++[to],.ff,hi',by simp;omega,.inr ⟨.inr rfl,hrec⟩,rfl⟩,less⟩
  have r2:(!(hasI tanks to))=true:=r2
  rw [r2] at hrec
  have hnd2:=nodup_snoc hnd (show hasI tanks to=false by simpa using r2)
  refine ⟨by omega,_,ht2row,?_⟩
  refine ⟨fun r3=>?_,fun r3=>?_⟩
  rotate_left
  ·have r3:(!t2.kept)=false:=r3
   rw [r3] at hrec
   refine ⟨trivial,iff' (by rw [beq_self];rfl) ⟨Nat.le_of_eq (Nat.zero_add _),?_,_,old_all rfl,_,encI_snoc tanks to,trivial,?_⟩⟩
   ·rw [List.length_map];show (_+1)*8≤mostBytes;unfold mostBytes;omega
   refine ⟨(i:Int)+1,wrap64 (by omega) (by omega),?_⟩
   exact ⟨⟨rfl,rfl⟩,⟨i+1,g+1,tanks++[to],.ff,hi',by simp;omega,.inr ⟨.inr rfl,hrec⟩,rfl⟩,less⟩
  have r3:(!t2.kept)=true:=r3
  rw [r3] at hrec
  refine ⟨_,rfl,_,den46 wt to hwl,?_⟩
  refine ⟨((way.map encI).length:Int) - 1,wrap64 (by omega) (by omega),?_⟩
  have hcase:((D.bool (hasI wt to==((i:Int)==((way.map encI).length:Int) - 1))=.bool true∧T=gasW n wt (way.drop (i+1)) (tanks++[to])∧(tanks++[to]).Nodup∧∀ v∈tanks++[to],0≤v∧v<n.tanks.length) ∨
      ((D.bool (hasI wt to==((i:Int)==((way.map encI).length:Int) - 1))=.bool false∨D.bool (hasI wt to==((i:Int)==((way.map encI).length:Int) - 1))=.ff)∧T=false)):=by
    cases hb:hasI wt to==((i:Int)==((way.map encI).length:Int) - 1) with
    | true =>
     rw [hb] at hrec
     refine .inl ⟨rfl,hrec,hnd2,fun v hv=>?_⟩
     rcases List.mem_append.1 hv with hv | hv
     ·exact hrange v hv
     ·rw [List.mem_singleton.1 hv];omega
    | false =>
     rw [hb] at hrec
     exact .inr ⟨.inl rfl,hrec⟩
  refine ⟨trivial,iff' (by rw [beq_self];rfl) ⟨Nat.le_of_eq (Nat.zero_add _),?_,_,old_all rfl,_,encI_snoc tanks to,trivial,?_⟩⟩
  ·rw [List.length_map];show (_+1)*8≤mostBytes;unfold mostBytes;omega
  refine ⟨(i:Int)+1,wrap64 (by omega) (by omega),?_⟩
  exact ⟨⟨rfl,rfl⟩,⟨i+1,g+1,tanks++[to],.bool (hasI wt to==((i:Int)==((way.map encI).length:Int) - 1)),hi',by simp;omega,hcase,rfl⟩,less⟩

set_option maxRecDepth 10000 in
set_option maxHeartbeats 16000000 in
theorem den30 (n:Nt) (wt:List Int) (ways:List (List Int)) (hwl:wt.length<9223372036854775808) (hyl:ways.length≤1048576) (hw1:∀ w∈ways,w.length<9223372036854775808) :
    DN 30 [.agg n.enc,.list 1 (wt.map encI),.list 1 (ways.map encW)] (tupBI (n.provesN wt ways)):=by
  have h65:=(den65 n [] wt (by decide) hwl).wkargs (args:=[.agg n.enc,.list 0 [],.list 1 (wt.map encI)]) (.cons (.refl _) (.cons (.of (.nil 0 1)) (.cons (.refl _) .nil)))
  refine mk Try.func30 Try.call30 rfl rfl ?_
  refine ⟨_,rfl,_,h65,?_⟩
  by_cases he:n.lookE [] wt true=0
  rotate_left
  ·have hR:n.provesN wt ways=(false,n.lookE [] wt true):=by unfold Nt.provesN;rw [if_neg he]
   rw [hR]
   refine ⟨fun _=>?_,fun h=>?_⟩
   ·rfl
   ·have h:(n.lookE [] wt true != 0)=false:=h
    exact absurd (by simpa using h) he
  obtain ⟨hn,_,hw⟩:=Nt.lookE_ok he
  have hw:=hw rfl
  have hin:=Nt.wantedE_in hw
  have hok:=Nt.look_ok hn [] hin
  have h12:=hn.p
  have hpl:((n.pipes.map Rp.enc).length:Int)=n.pipes.length:=by simp
  have hyI:((ways.map encW).length:Int)=ways.length:=by simp
  have hR:n.provesN wt ways=(provesG n wt ways [],0):=by
   unfold Nt.provesN
   rw [if_pos he,← provesG_eq hn hw ways [] [] (fun v=>Int.le_refl _) (fun v=>rfl)]
  rw [hR]
  have fin:∀ b,provesG n wt ways []=b→some (D.tup [.bool b,.int .i64 0])=some (tupBI (provesG n wt ways [],0)):=fun b h=>by rw [h];rfl
  rw [he] at h65 ⊢
  refine ⟨fun h=>Bool.noConfusion (show false=true from h),fun _=>?_⟩
  refine ⟨[1,2,3,9,10],1,[(.slot 9,1)],fun σ=>∃ (i g:Nat) (seen:List Int),i≤ways.length∧seen.length≤7*i∧provesG n wt ways []=provesG n wt (ways.drop i) seen ∧
   σ=⟨[(1,.list 1 (wt.map encI)),(2,.list 1 (ways.map encW)),(3,.loc 0 0),(9,.sl 1 g 0 (seen.map encI).length),(10,.int .i64 (i:Int))],[.flat false n.enc,.rows false g 1 (seen.map encI)],.non⟩,
   fun σ=>((ways.length:Int) - slotI 10 σ).toNat,rfl,⟨rfl,rfl⟩,⟨0,0,[],Nat.zero_le _,Nat.le_refl _,rfl,rfl⟩,?_⟩
  rintro σ ⟨i,g,seen,hi,hsl,hrec,rfl⟩
  refine ⟨fun q1=>?_,fun q1=>?_⟩
  rotate_left
  ·have q1:=of_decide_eq_false q1
   rw [hyI] at q1
   rw [List.drop_of_length_le (by omega)] at hrec
   exact fin true hrec
  have q1:=of_decide_eq_true q1
  rw [hyI] at q1
  have hi':i<ways.length:=by omega
  have lessI:((ways.length:Int) - ((i:Int)+1)).toNat<((ways.length:Int) - (i:Int)).toNat:=by omega
  obtain ⟨w,hwx⟩:∃ w,ways[i]'hi'=w:=⟨_,rfl⟩
  have hwrow:(ways.map encW)[((i:Int)).toNat]?=some (encW w):=by simp [hi',hwx]
  have hwlen:=hw1 w (hwx ▸ List.getElem_mem hi')
  have hdrop:ways.drop i=w::ways.drop (i+1):=by rw [List.drop_eq_getElem_cons hi',hwx]
  rw [hdrop] at hrec
  have hst:provesG n wt (w::ways.drop (i+1)) seen=match gasQ n wt w with
   | false=>false
   | true=>match w.any fun v=>hasI seen v && !(n.weldB v) with
    | true=>false
    | false=>provesG n wt (ways.drop (i+1)) (seen++w):=rfl
  rw [hst] at hrec
  clear hst
  refine Or.inl ⟨by kernel_rfl,?_⟩
  refine ⟨by omega,_,hwrow,?_⟩
  refine ⟨_,rfl,_,den77 n hn wt w hwl hwlen,?_⟩
  refine ⟨fun q2=>?_,fun q2=>?_⟩
  ·have q2:(!(gasQ n wt w))=true:=q2
   have q2:gasQ n wt w=false:=by simpa using q2
   rw [q2] at hrec
   exact fin false hrec
  have q2:(!(gasQ n wt w))=false:=q2
  have q2:gasQ n wt w=true:=by simpa using q2
  rw [q2] at hrec
  have hg:=q2
  rw [gasQ_eq hn hw,List.any_eq_true] at hg
  obtain ⟨kk,_,hgas⟩:=hg
  obtain ⟨hw7,hwr⟩:=NetL.gas_len hok hgas
  rw [look_plen] at hwr
  have hwI:=encI_lenI w
  refine ⟨[1,2,3,9,10,11],2,[],fun σ=>∃ k:Nat,k≤w.length∧(w.any fun v=>hasI seen v && !(n.weldB v))=((w.drop k).any fun v=>hasI seen v && !(n.weldB v)) ∧
   σ=⟨[(1,.list 1 (wt.map encI)),(2,.list 1 (ways.map encW)),(3,.loc 0 0),(9,.sl 1 g 0 (seen.map encI).length),(10,.int .i64 (i:Int)),(11,.int .i64 (k:Int))],[.flat false n.enc,.rows false g 1 (seen.map encI)],.non⟩,
   fun σ=>(1000 - slotI 11 σ).toNat,rfl,⟨rfl,rfl⟩,⟨0,Nat.zero_le _,rfl,rfl⟩,?_⟩
  rintro σ ⟨k,hk,hany,rfl⟩
  refine ⟨by omega,_,hwrow,?_⟩
  refine ⟨fun q3=>?_,fun q3=>?_⟩
  ·have q3:=of_decide_eq_true q3
   rw [hwI] at q3
   have hk':k<w.length:=by omega
   have less:(1000 - ((k:Int)+1)).toNat<(1000 - (k:Int)).toNat:=by omega
   obtain ⟨v,hv⟩:∃ v,w[k]'hk'=v:=⟨_,rfl⟩
   have hvrow:=encI_get hk'
   rw [hv] at hvrow
   have hvr:=hwr v (hv ▸ List.getElem_mem hk')
   have hdk:w.drop k=v::w.drop (k+1):=by rw [List.drop_eq_getElem_cons hk',hv]
   rw [hdk,List.any_cons] at hany
   obtain ⟨p,hp⟩:∃ p,n.pipes[v.toNat]?=some p:=⟨_,List.getElem?_eq_getElem (by omega)⟩
   have hprow:(n.pipes.map Rp.enc)[v.toNat]?=some p.enc:=by rw [List.getElem?_map,hp];rfl
   have hwd:n.weldB v=p.welded:=pipe_weld hp
   rw [hwd] at hany
   refine Or.inl ⟨by kernel_rfl,?_⟩
   refine ⟨by omega,_,hwrow,?_⟩
   refine ⟨by omega,_,hvrow,?_⟩
   refine ⟨_,mapO_cons (reify_sl rfl rfl) (mapO_cons rfl rfl),_,den46 seen v (by omega),?_⟩
   refine ⟨fun q4=>?_,fun q4=>?_⟩
   ·have q4:hasI seen v=true:=q4
    rw [q4] at hany
    refine ⟨by omega,_,hwrow,?_⟩
    refine ⟨by omega,_,hvrow,?_⟩
    refine ⟨by omega,_,hprow,?_⟩
    refine ⟨fun q5=>?_,fun q5=>?_⟩
    ·have q5:(!p.welded)=true:=q5
     rw [q5] at hany
     have hany:(w.any fun v=>hasI seen v && !(n.weldB v))=true:=hany
     rw [hany] at hrec
     exact fin false hrec
    ·have q5:(!p.welded)=false:=q5
     rw [q5] at hany
     refine ⟨(k:Int)+1,wrap64 (by omega) (by omega),?_⟩
     exact ⟨⟨rfl,rfl⟩,⟨k+1,hk',hany,rfl⟩,less⟩
   ·have q4:hasI seen v=false:=q4
    rw [q4] at hany
    refine ⟨(k:Int)+1,wrap64 (by omega) (by omega),?_⟩
    exact ⟨⟨rfl,rfl⟩,⟨k+1,hk',hany,rfl⟩,less⟩
  ·have q3:=of_decide_eq_false q3
   rw [hwI] at q3
   rw [List.drop_of_length_le (by omega)] at hany
   have hany:(w.any fun v=>hasI seen v && !(n.weldB v))=false:=hany
   rw [hany] at hrec
   refine ⟨by omega,_,hwrow,?_⟩
   refine ⟨trivial,iff' (by rw [beq_self];rfl) ⟨Nat.le_of_eq (Nat.zero_add _),?_,_,old_all rfl,_,(List.map_append (f:=encI)).symm,trivial,?_⟩⟩
   ·rw [List.length_map,List.length_map];show (_+_)*8≤mostBytes;unfold mostBytes;omega
   refine ⟨(i:Int)+1,wrap64 (by omega) (by omega),?_⟩
   exact ⟨⟨rfl,rfl⟩,⟨i+1,g+1,seen++w,hi',by rw [List.length_append];omega,hrec,rfl⟩,lessI⟩

end Go.Proofs.Vent
