/- The document's Lists and Blanks. No condition. -/
import Derived.Test.YtfdflbdnjimfaaaPackSF
import Derived.Test.YtfdflbdnjimfaaaPackTV
import Derived.Test.YtfdflbdnjimfaaaPackTE

namespace Go.Proofs.Vent
open Go.V Go.Proofs

def encN (l:List Nat):List D:=encW (castL l)
theorem listsF_len (m:NetL):∀ (c i k:Nat) (b:List Nat),(m.listsF c i k b).length≤2^c
 | c,i,0,b=>by rw [NetL.listsF_zero];exact Nat.one_le_two_pow
 | 0,i,k+1,b=>Nat.zero_le _
 | c+1,i,k+1,b=>by
  have h1:=listsF_len m c (i+1) (k+1) b
  have h2:=fun b=>listsF_len m c (i+1) k b
  unfold NetL.listsF
  rw [List.length_append,Nat.pow_succ]
  split
  ·simp only [List.length_nil];omega
  ·rename_i p hp
   split
   ·simp only [List.length_nil];omega
   ·have:=h2 (b++[i]);omega
def fromN (b:List Nat):Nat:=match b.getLast? with | some x=>x+1 | none=>0
theorem fromN_snoc (b:List Nat) (i:Nat):fromN (b++[i])=i+1:=by unfold fromN;simp
theorem castL_app (b:List Nat) (i:Nat):castL b++[(i:Int)]=castL (b++[i]):=by simp [castL]
theorem castL_last {b:List Nat} (h:b≠[]):lastI (castL b)+1=(fromN b:Int):=by
 have hp:0<b.length:=List.length_pos_iff.2 h
 unfold lastI fromN
 rw [castL_len,castL_at (by omega),List.getLast?_eq_some_getLast h]
 simp only [List.getLast_eq_getElem]
 omega

theorem asc_len {l:List Nat} {m:Nat} (ha:l.Pairwise (·<·)) (hl:∀ j∈l,j<m):l.length≤m:=by
 have key:∀ i,i<l.length→∀ (h:i<l.length),i≤l[i]:=by
  intro i
  induction i with
  | zero=>intro _ _;exact Nat.zero_le _
  | succ i ih =>
   intro hi h
   have h1:=ih (by omega) (by omega)
   have h2:=List.pairwise_iff_getElem.1 ha i (i+1) (by omega) h (by omega)
   omega
 by_cases h:l.length=0
 ·omega
 ·have h1:=key (l.length - 1) (by omega) (by omega)
  have h2:=hl _ (List.getElem_mem (show l.length - 1<l.length by omega))
  omega

set_option maxRecDepth 10000 in
set_option maxHeartbeats 16000000 in
theorem den69 (n:Nt) (hn:n.Ok) (wt:List Int):∀ (k:Nat) (b:List Nat),fromN b≤n.pipes.length→b.length+k≤40 →
    DN 69 [.agg n.enc,.int .i64 k,.list 1 ((castL b).map encI)] (.list 1 (((n.look [] wt).listsF (n.pipes.length - fromN b) (fromN b) k b).map encN)):=by
  intro k
  induction k with
  | zero =>
   intro b hb hbl
   rw [NetL.listsF_zero]
   refine mk Try.func69 Try.call69 rfl rfl ?_
   refine ⟨fun _=>?_,fun h=>Bool.noConfusion (show true=false from h)⟩
   rfl
  | succ k ih =>
   intro b hb hbl
   have h12:=hn.p
   have hpl:((n.pipes.map Rp.enc).length:Int)=n.pipes.length:=by simp
   have hcl:=castL_len b
   have hcI:=encI_lenI (castL b)
   obtain ⟨N,hN⟩:∃ N,n.look [] wt=N:=⟨_,rfl⟩
   have hNp:∀ i:Nat,N.pipes[i]?=(n.pipes[i]?).map Rp.pp:=fun i=>by rw [← hN,look_pipe]
   rw [hN] at ih ⊢
   have htot:=listsF_len N (n.pipes.length - fromN b) (fromN b) (k+1) b
   have h4096:2^(n.pipes.length - fromN b)≤4096:=Nat.pow_le_pow_right (by decide) (show n.pipes.length - fromN b≤12 by omega)
   obtain ⟨tot,hT⟩:∃ x,N.listsF (n.pipes.length - fromN b) (fromN b) (k+1) b=x:=⟨_,rfl⟩
   rw [hT] at htot ⊢
   refine mk Try.func69 Try.call69 rfl rfl ?_
   refine ⟨fun q0=>?_,fun q0=>?_⟩
   ·have q0:(((k+1:Nat):Int)==0)=true:=q0
    have:((k+1:Nat):Int)=0:=by simpa using q0
    omega
   clear q0
   refine ⟨fun q00=>?_,fun q00=>?_⟩
   ·have q00:((castL b).map encI).length > (0:Int):=of_decide_eq_true q00
    have hbn:b≠[]:=fun e=>by rw [e] at q00;exact absurd q00 (by decide)
    have hrow:=lastI_get (l:=castL b) (fun e=>by have:=congrArg List.length e;rw [castL_len] at this;simp at this;exact hbn this)
    rw [← hcI] at hrow
    have hlast:=castL_last hbn
    refine ⟨(((castL b).map encI).length:Int) - 1,wrap64 (by omega) (by omega),?_⟩
    refine ⟨by omega,_,hrow,?_⟩
    refine ⟨(fromN b:Int),(wrap64 (by omega) (by omega)).trans hlast,?_⟩
    refine ⟨[1,2,3,8,9],1,[(.slot 8,1)],fun σ=>∃ (i g:Nat) (out:List (List Nat)),i≤n.pipes.length∧tot=out++N.listsF (n.pipes.length - i) i (k+1) b ∧
     σ=⟨[(1,.int .i64 ((k+1:Nat):Int)),(2,.list 1 ((castL b).map encI)),(3,.loc 0 0),(8,.sl 1 g 0 (out.map encN).length),(9,.int .i64 i)],[.flat false n.enc,.rows false g 1 (out.map encN)],.non⟩,
     fun σ=>(1000 - slotI 9 σ).toNat,rfl,⟨rfl,rfl⟩,⟨fromN b,0,[],by omega,hT.symm,rfl⟩,?_⟩
    rintro σ ⟨i,g,out,hi,hrec,rfl⟩
    have hol:out.length≤4096:=by
     have:=congrArg List.length hrec
     rw [List.length_append] at this
     omega
    have holI:((out.map encN).length:Int)=out.length:=by simp
    refine ⟨fun q1=>?_,fun q1=>?_⟩
    rotate_left
    ·have q1:=of_decide_eq_false q1
     rw [hpl] at q1
     rw [show n.pipes.length - i=0 by omega] at hrec
     have hrec:tot=out:=by rw [hrec];exact List.append_nil _
     rw [hrec]
     have hr:reify [Box.flat false n.enc,Box.rows false g 1 (out.map encN)] 8 (.sl 1 g 0 (out.map encN).length)=some (.list 1 (out.map encN)):=reify_sl rfl rfl
     exact hr
    have q1:=of_decide_eq_true q1
    rw [hpl] at q1
    have hi':i<n.pipes.length:=by omega
    have less:(1000 - ((i:Int)+1)).toNat<(1000 - (i:Int)).toNat:=by omega
    obtain ⟨p,hp⟩:∃ p,n.pipes[i]?=some p:=⟨_,List.getElem?_eq_getElem hi'⟩
    have hprow:(n.pipes.map Rp.enc)[((i:Int)).toNat]?=some p.enc:=by rw [Int.toNat_natCast,List.getElem?_map,hp];rfl
    have hst:N.listsF (n.pipes.length - i) i (k+1) b=(match p.welded with
        | true=>[]
        | false=>N.listsF (n.pipes.length - (i+1)) (i+1) k (b++[i]))++N.listsF (n.pipes.length - (i+1)) (i+1) (k+1) b:=by
      rw [show n.pipes.length - i=(n.pipes.length - (i+1))+1 by omega]
      conv=>lhs;unfold NetL.listsF
      rw [hNp,hp]
      rfl
    rw [hst] at hrec
    refine ⟨by omega,_,hprow,?_⟩
    refine ⟨fun r1=>?_,fun r1=>?_⟩
    rotate_left
    ·have r1:(!p.welded)=false:=r1
     have r1:p.welded=true:=by simpa using r1
     rw [r1] at hrec
     refine ⟨(i:Int)+1,wrap64 (by omega) (by omega),?_⟩
     exact ⟨⟨rfl,rfl⟩,⟨i+1,g,out,hi',hrec,rfl⟩,less⟩
    have r1:(!p.welded)=true:=r1
    have r1:p.welded=false:=by simpa using r1
    rw [r1] at hrec
    have h69:=ih (b++[i]) (by rw [fromN_snoc];omega) (by simp;omega)
    rw [fromN_snoc] at h69
    obtain ⟨L,hL⟩:∃ L,N.listsF (n.pipes.length - (i+1)) (i+1) k (b++[i])=L:=⟨_,rfl⟩
    rw [hL] at h69 hrec
    have hrec:tot=(out++L)++N.listsF (n.pipes.length - (i+1)) (i+1) (k+1) b:=by rw [hrec,List.append_assoc]
    have hol2:(out++L).length≤4096:=by
     have:=congrArg List.length hrec
     rw [List.length_append] at this
     omega
    rw [List.length_append] at hol2
    refine Or.inr (Or.inr (Or.inl ⟨[0,1,2,3,4,5,7,8,6,9,10,11,12],9,[0,1,2,3],by kernel_rfl,?_⟩))
    have hk1:((k+1:Nat):Int) - 1=((k:Nat):Int):=by omega
    refine ⟨((k:Nat):Int),(wrap64 (by omega) (by omega)).trans hk1,?_⟩
    refine ⟨trivial,?_,?_⟩
    ·rw [List.length_map,hcl];show _*8≤mostBytes;unfold mostBytes;omega
    refine ⟨trivial,iff' (by rfl) ⟨Nat.le_of_eq (Nat.zero_add _),?_,_,old_all rfl,_,(encI_snoc (castL b) (i:Int)).trans (by rw [castL_app]),trivial,?_⟩⟩
    ·rw [List.length_map,hcl];show (_+1)*8≤mostBytes;unfold mostBytes;omega
    refine ⟨⟨rfl,rfl,rfl,⟨_,(wrap64 (by omega) (by omega)).trans hk1,rfl⟩,trivial⟩,?_⟩
    refine ⟨_,mapO_cons rfl (mapO_cons rfl (mapO_cons (reify_sl rfl rfl) rfl)),_,h69,?_⟩
    refine ⟨⟨rfl,rfl,trivial⟩,?_⟩
    refine ⟨trivial,iff' (by rw [beq_self];rfl) ⟨Nat.le_of_eq (Nat.zero_add _),?_,_,old_all rfl,_,(List.map_append (f:=encN)).symm,trivial,?_⟩⟩
    ·rw [List.length_map,List.length_map];show (_+_)*24≤mostBytes;unfold mostBytes;omega
    refine ⟨⟨rfl,trivial⟩,?_⟩
    refine ⟨trivial,?_⟩
    refine ⟨(i:Int)+1,wrap64 (by omega) (by omega),?_⟩
    exact ⟨⟨rfl,rfl⟩,⟨i+1,g+1,out++L,hi',hrec,rfl⟩,less⟩
   ·have q00:¬ ((castL b).map encI).length > (0:Int):=of_decide_eq_false q00
    have h0:fromN b=0:=by
     have:b=[]:=by
      cases b with
      | nil=>rfl
      | cons x r=>exact absurd (show (0:Int)<(((castL (x::r)).map encI).length:Int) by rw [encI_lenI,castL_len];simp only [List.length_cons];omega) q00
     rw [this];rfl
    refine ⟨[1,2,3,8,9],1,[(.slot 8,1)],fun σ=>∃ (i g:Nat) (out:List (List Nat)),i≤n.pipes.length∧tot=out++N.listsF (n.pipes.length - i) i (k+1) b ∧
     σ=⟨[(1,.int .i64 ((k+1:Nat):Int)),(2,.list 1 ((castL b).map encI)),(3,.loc 0 0),(8,.sl 1 g 0 (out.map encN).length),(9,.int .i64 i)],[.flat false n.enc,.rows false g 1 (out.map encN)],.non⟩,
     fun σ=>(1000 - slotI 9 σ).toNat,rfl,⟨rfl,rfl⟩,⟨0,0,[],by omega,(by rw [← hT,h0];rfl),rfl⟩,?_⟩
    rintro σ ⟨i,g,out,hi,hrec,rfl⟩
    have hol:out.length≤4096:=by
     have:=congrArg List.length hrec
     rw [List.length_append] at this
     omega
    have holI:((out.map encN).length:Int)=out.length:=by simp
    refine ⟨fun q1=>?_,fun q1=>?_⟩
    rotate_left
    ·have q1:=of_decide_eq_false q1
     rw [hpl] at q1
     rw [show n.pipes.length - i=0 by omega] at hrec
     have hrec:tot=out:=by rw [hrec];exact List.append_nil _
     rw [hrec]
     have hr:reify [Box.flat false n.enc,Box.rows false g 1 (out.map encN)] 8 (.sl 1 g 0 (out.map encN).length)=some (.list 1 (out.map encN)):=reify_sl rfl rfl
     exact hr
    have q1:=of_decide_eq_true q1
    rw [hpl] at q1
    have hi':i<n.pipes.length:=by omega
    have less:(1000 - ((i:Int)+1)).toNat<(1000 - (i:Int)).toNat:=by omega
    obtain ⟨p,hp⟩:∃ p,n.pipes[i]?=some p:=⟨_,List.getElem?_eq_getElem hi'⟩
    have hprow:(n.pipes.map Rp.enc)[((i:Int)).toNat]?=some p.enc:=by rw [Int.toNat_natCast,List.getElem?_map,hp];rfl
    have hst:N.listsF (n.pipes.length - i) i (k+1) b=(match p.welded with
        | true=>[]
        | false=>N.listsF (n.pipes.length - (i+1)) (i+1) k (b++[i]))++N.listsF (n.pipes.length - (i+1)) (i+1) (k+1) b:=by
      rw [show n.pipes.length - i=(n.pipes.length - (i+1))+1 by omega]
      conv=>lhs;unfold NetL.listsF
      rw [hNp,hp]
      rfl
    rw [hst] at hrec
    refine ⟨by omega,_,hprow,?_⟩
    refine ⟨fun r1=>?_,fun r1=>?_⟩
    rotate_left
    ·have r1:(!p.welded)=false:=r1
     have r1:p.welded=true:=by simpa using r1
     rw [r1] at hrec
     refine ⟨(i:Int)+1,wrap64 (by omega) (by omega),?_⟩
     exact ⟨⟨rfl,rfl⟩,⟨i+1,g,out,hi',hrec,rfl⟩,less⟩
    have r1:(!p.welded)=true:=r1
    have r1:p.welded=false:=by simpa using r1
    rw [r1] at hrec
    have h69:=ih (b++[i]) (by rw [fromN_snoc];omega) (by simp;omega)
    rw [fromN_snoc] at h69
    obtain ⟨L,hL⟩:∃ L,N.listsF (n.pipes.length - (i+1)) (i+1) k (b++[i])=L:=⟨_,rfl⟩
    rw [hL] at h69 hrec
    have hrec:tot=(out++L)++N.listsF (n.pipes.length - (i+1)) (i+1) (k+1) b:=by rw [hrec,List.append_assoc]
    have hol2:(out++L).length≤4096:=by
     have:=congrArg List.length hrec
     rw [List.length_append] at this
     omega
    rw [List.length_append] at hol2
    refine Or.inr (Or.inr (Or.inl ⟨[0,1,2,3,4,5,7,8,6,9,10,11,12],9,[0,1,2,3],by kernel_rfl,?_⟩))
    have hk1:((k+1:Nat):Int) - 1=((k:Nat):Int):=by omega
    refine ⟨((k:Nat):Int),(wrap64 (by omega) (by omega)).trans hk1,?_⟩
    refine ⟨trivial,?_,?_⟩
    ·rw [List.length_map,hcl];show _*8≤mostBytes;unfold mostBytes;omega
    refine ⟨trivial,iff' (by rfl) ⟨Nat.le_of_eq (Nat.zero_add _),?_,_,old_all rfl,_,(encI_snoc (castL b) (i:Int)).trans (by rw [castL_app]),trivial,?_⟩⟩
    ·rw [List.length_map,hcl];show (_+1)*8≤mostBytes;unfold mostBytes;omega
    refine ⟨⟨rfl,rfl,rfl,⟨_,(wrap64 (by omega) (by omega)).trans hk1,rfl⟩,trivial⟩,?_⟩
    refine ⟨_,mapO_cons rfl (mapO_cons rfl (mapO_cons (reify_sl rfl rfl) rfl)),_,h69,?_⟩
    refine ⟨⟨rfl,rfl,trivial⟩,?_⟩
    refine ⟨trivial,iff' (by rw [beq_self];rfl) ⟨Nat.le_of_eq (Nat.zero_add _),?_,_,old_all rfl,_,(List.map_append (f:=encN)).symm,trivial,?_⟩⟩
    ·rw [List.length_map,List.length_map];show (_+_)*24≤mostBytes;unfold mostBytes;omega
    refine ⟨⟨rfl,trivial⟩,?_⟩
    refine ⟨trivial,?_⟩
    refine ⟨(i:Int)+1,wrap64 (by omega) (by omega),?_⟩
    exact ⟨⟨rfl,rfl⟩,⟨i+1,g+1,out++L,hi',hrec,rfl⟩,less⟩

def blanksQ (n:Nt) (wt:List Int):Nat→Nat→List Int × Int
 | 0,_=>([],9)
 | r+1,many=>match ((n.look [] wt).listsF n.pipes.length 0 many []).find? (fun l=>(n.look (castL l) wt).separate) with
  | some l=>(castL l,0)
  | none=>blanksQ n wt r (many+1)

theorem blanksQ_eq {n:Nt} {wt:List Int} (he:n.lookE [] wt true=0):blanksQ n wt (n.pipes.length+1) 0=n.blanksR wt:=by
 obtain ⟨hn,_,hw⟩:=Nt.lookE_ok he
 have hw:=hw rfl
 have hin:=Nt.wantedE_in hw
 have hok:=Nt.look_ok hn [] hin
 have hcut:=NetL.cut_ok hok (look_free hw) (look_open hn wt) (fun l=>sep_iff hn hin l)
 have hR:n.blanksR wt=(match (n.look [] wt).cut with | none=>([],9) | some l=>(castL l,0)):=by unfold Nt.blanksR;rw [if_pos he];cases (n.look [] wt).cut <;> rfl
 have hpl:=look_plen n [] wt
 rw [hpl] at hcut
 rw [hR]
 cases hx:(n.look [] wt).cut with
 | none =>
  rw [hx] at hcut
  have key:∀ r many,blanksQ n wt r many=([],9):=by
   intro r
   induction r with
   | zero=>intro _;rfl
   | succ r ih =>
    intro many
    unfold blanksQ
    have h1:=NetL.down_none hcut (fun l=>sep_iff hn hin l) many
    rw [hpl] at h1
    rw [h1]
    exact ih _
  exact key _ _
 | some l =>
  rw [hx] at hcut
  obtain ⟨T,h1,h2,h3⟩:=hcut
  have hT:T≤n.pipes.length:=by
   have:=asc_len h2.asc h2.lt
   rw [h2.len,hpl] at this
   exact this
  have key:∀ r many,many≤T→T<many+r→blanksQ n wt r many=(castL l,0):=by
   intro r
   induction r with
   | zero=>intro many a c;omega
   | succ r ih =>
    intro many a c
    unfold blanksQ
    by_cases e:many=T
    ·subst e
     rw [h3]
    ·have h4:=NetL.few_none h1 (fun l=>sep_iff hn hin l) (show many<T by omega)
     rw [hpl] at h4
     rw [h4]
     exact ih _ (by omega) (by omega)
  exact key _ _ (Nat.zero_le _) (by omega)

set_option maxRecDepth 10000 in
set_option maxHeartbeats 16000000 in
theorem den27 (n:Nt) (wt:List Int) (hwl:wt.length<9223372036854775808):DN 27 [.agg n.enc,.list 1 (wt.map encI)] (tupLI (n.blanksR wt)):=by
 have h65:=(den65 n [] wt (by decide) hwl).wkargs (args:=[.agg n.enc,.list 0 [],.list 1 (wt.map encI)]) (.cons (.refl _) (.cons (.of (.nil 0 1)) (.cons (.refl _) .nil)))
 refine mkW Try.func27 Try.call27 rfl rfl ?_
 refine ⟨_,rfl,_,h65,?_⟩
 by_cases he:n.lookE [] wt true=0
 rotate_left
 ·have hR:n.blanksR wt=([],n.lookE [] wt true):=by unfold Nt.blanksR;rw [if_neg he]
  rw [hR]
  refine ⟨fun _=>?_,fun h=>?_⟩
  ·exact ⟨_,rfl,.tcons (.nil 0 1) (.refl _)⟩
  ·have h:(n.lookE [] wt true != 0)=false:=h
   exact absurd (by simpa using h) he
 rw [← blanksQ_eq he]
 obtain ⟨hn,_,hw⟩:=Nt.lookE_ok he
 have hin:=Nt.wantedE_in (hw rfl)
 have h12:=hn.p
 have hpl:((n.pipes.map Rp.enc).length:Int)=n.pipes.length:=by simp
 rw [he] at h65 ⊢
 refine ⟨fun h=>Bool.noConfusion (show false=true from h),fun _=>?_⟩
 refine ⟨[1,2,7],1,[],fun σ=>∃ j:Nat,j≤n.pipes.length+1∧blanksQ n wt (n.pipes.length+1) 0=blanksQ n wt (n.pipes.length+1 - j) j ∧
  σ=⟨[(1,.list 1 (wt.map encI)),(2,.loc 0 0),(7,.int .i64 j)],[.flat false n.enc],.non⟩,
  fun σ=>(1000 - slotI 7 σ).toNat,rfl,⟨rfl,rfl⟩,⟨0,Nat.zero_le _,rfl,rfl⟩,?_⟩
 rintro σ ⟨j,hj,hout,rfl⟩
 refine ⟨fun q1=>?_,fun q1=>?_⟩
 rotate_left
 ·have q1:=of_decide_eq_false q1
  rw [hpl] at q1
  rw [show n.pipes.length+1 - j=0 by omega] at hout
  rw [hout]
  exact ⟨_,rfl,.tcons (.nil 0 1) (.refl _)⟩
 have q1:=of_decide_eq_true q1
 rw [hpl] at q1
 have hj':j<n.pipes.length+1:=by omega
 have lessJ:(1000 - ((j:Int)+1)).toNat<(1000 - (j:Int)).toNat:=by omega
 have h69:=(den69 n hn wt j [] (Nat.zero_le _) (by simp;omega)).wkargs (args:=[.agg n.enc,.int .i64 j,.list 0 []]) (.cons (.refl _) (.cons (.refl _) (.cons (.of (.nil 0 1)) .nil)))
 have hw1:blanksQ n wt (n.pipes.length+1 - j) j=match ((n.look [] wt).listsF n.pipes.length 0 j []).find? (fun l=>(n.look (castL l) wt).separate) with
     | some l=>(castL l,0)
     | none=>blanksQ n wt (n.pipes.length+1 - (j+1)) (j+1):=by
   rw [show n.pipes.length+1 - j=(n.pipes.length+1 - (j+1))+1 by omega];rfl
 rw [hw1] at hout
 clear hw1
 have hlt:=listsF_len (n.look [] wt) n.pipes.length 0 j []
 have h4096:2^n.pipes.length≤4096:=Nat.pow_le_pow_right (by decide) (show n.pipes.length≤12 by omega)
 have hmem:∀ l∈(n.look [] wt).listsF n.pipes.length 0 j [],l.length≤12:=fun l hl=>by
  obtain ⟨l1,_⟩:=NetL.listsF_mem n.pipes.length 0 j [] l hl (by rw [look_plen];omega) (fun j h=>by cases h) .nil (fun j p h=>by cases h)
  simp at l1
  omega
 have h69:DN 69 [.agg n.enc,.int .i64 j,.list 0 []] (.list 1 (((n.look [] wt).listsF n.pipes.length 0 j []).map encN)):=h69
 obtain ⟨L,hL⟩:∃ L,(n.look [] wt).listsF n.pipes.length 0 j []=L:=⟨_,rfl⟩
 rw [hL] at h69 hout hlt hmem
 have hLl:((L.map encN).length:Int)=L.length:=by simp
 refine ⟨_,rfl,_,h69,?_⟩
 refine ⟨[1,2,7,8,9],1,[],fun σ=>∃ i:Nat,i≤L.length∧L.find? (fun l=>(n.look (castL l) wt).separate)=(L.drop i).find? (fun l=>(n.look (castL l) wt).separate) ∧
  σ=⟨[(1,.list 1 (wt.map encI)),(2,.loc 0 0),(7,.int .i64 j),(8,.list 1 (L.map encN)),(9,.int .i64 i)],[.flat false n.enc],.non⟩,
  fun σ=>(10000 - slotI 9 σ).toNat,rfl,⟨rfl,rfl⟩,⟨0,Nat.zero_le _,rfl,rfl⟩,?_⟩
 rintro σ ⟨i,hi,hfind,rfl⟩
 refine ⟨fun q2=>?_,fun q2=>?_⟩
 ·have q2:=of_decide_eq_true q2
  rw [hLl] at q2
  have hi':i<L.length:=by omega
  have less:(10000 - ((i:Int)+1)).toNat<(10000 - (i:Int)).toNat:=by omega
  obtain ⟨l,hl⟩:∃ l,L[i]'hi'=l:=⟨_,rfl⟩
  have hrow:(L.map encN)[((i:Int)).toNat]?=some (encN l):=by simp [hi',hl]
  have hlm:=hmem l (hl ▸ List.getElem_mem hi')
  have hdrop:L.drop i=l::L.drop (i+1):=by rw [List.drop_eq_getElem_cons hi',hl]
  rw [hdrop,List.find?_cons] at hfind
  refine Or.inl ⟨by kernel_rfl,?_⟩
  refine ⟨by omega,_,hrow,?_⟩
  refine ⟨_,rfl,_,den70 n hn (castL l) wt (by rw [castL_len];omega) hwl hin,?_⟩
  refine ⟨fun r1=>?_,fun r1=>?_⟩
  ·have r1:(n.look (castL l) wt).separate=true:=r1
   simp only [r1] at hfind
   rw [hfind] at hout
   rw [hout]
   refine ⟨by omega,_,hrow,?_⟩
   exact ⟨_,rfl,.refl _⟩
  ·have r1:(n.look (castL l) wt).separate=false:=r1
   simp only [r1] at hfind
   refine ⟨(i:Int)+1,wrap64 (by omega) (by omega),?_⟩
   exact ⟨⟨rfl,rfl⟩,⟨i+1,hi',hfind,rfl⟩,less⟩
 ·have q2:=of_decide_eq_false q2
  rw [hLl] at q2
  rw [List.drop_of_length_le (by omega)] at hfind
  have hfind:L.find? (fun l=>(n.look (castL l) wt).separate)=none:=hfind
  rw [hfind] at hout
  refine ⟨(j:Int)+1,wrap64 (by omega) (by omega),?_⟩
  exact ⟨⟨rfl,rfl⟩,⟨j+1,hj',hout,rfl⟩,lessJ⟩

end Go.Proofs.Vent
