/- The document's ways and Way. No condition. -/
import Derived.Test.YtfdflbdnjimfaaaPackTH
import Derived.Test.YtfdflbdnjimfaaaPackTK

namespace Go.Proofs.Vent
open Go.V Go.Proofs

def lastI (l:List Int):Int:=dAt l (l.length - 1)
theorem lastI_get {l:List Int} (h:l≠[]):(l.map encI)[((l.length:Int) - 1).toNat]?=some [.int .i64 (lastI l)]:=by
 have hp:0<l.length:=List.length_pos_iff.2 h
 have e:((l.length:Int) - 1).toNat=l.length - 1:=by omega
 have hlt:l.length - 1<l.length:=by omega
 unfold lastI
 rw [e,dAt_get hlt]
 simp [hlt,encI]

def skipP (n:Nt) (bl tanks:List Int) (last:Int) (p:Rp) (i:Nat):Bool :=
 decide (otherI p last<0) || (hasI bl i || (hasI tanks (otherI p last) || n.keepB (otherI p last)))
def waysI (n:Nt) (bl tanks:List Int) (last:Int) (rec:Nat→Int→List Int × Bool):Nat→Nat→Option (List Int)
 | 0,_=>none
 | c+1,i=>match n.pipes[i]? with
  | none=>none
  | some p=>match skipP n bl tanks last p i with
   | true=>waysI n bl tanks last rec c (i+1)
   | false=>match rec i (otherI p last) with
    | (l,true)=>some l
    | (_,false)=>waysI n bl tanks last rec c (i+1)
def waysQ (n:Nt) (bl wt:List Int) (many:Int):Nat→List Int→List Int→List Int × Bool
 | 0,_,_=>([],false)
 | r+1,bg,tanks =>
  match hasI wt (lastI tanks) || ((bg.length:Int)==many) with
  | true=>(bg,hasI wt (lastI tanks) && ((bg.length:Int)==many))
  | false=>match waysI n bl tanks (lastI tanks) (fun i to=>waysQ n bl wt many r (bg++[(i:Int)]) (tanks++[to])) n.pipes.length 0 with
   | some l=>(l,true)
   | none=>([],false)
def tupLB (x:List Int × Bool):D:=.tup [.list 1 (x.1.map encI),.bool x.2]
theorem encI_snoc (l:List Int) (x:Int):l.map encI++[[D.int .i64 x]]=(l++[x]).map encI:=by simp [encI]
theorem encI_lenI (l:List Int):((l.map encI).length:Int)=l.length:=by simp

set_option maxRecDepth 10000 in
set_option maxHeartbeats 16000000 in
theorem den66 (n:Nt) (hn:n.Ok) (bl wt:List Int) (hbl:bl.length<9223372036854775808) (hwl:wt.length<9223372036854775808) (many:Int) (hmany:many≤7) :
    ∀ (r:Nat) (bg tanks:List Int),tanks≠[]→tanks.length=bg.length+1→(bg.length:Int)≤many→many<bg.length+r →
    DN 66 [.agg n.enc,.list 1 (bl.map encI),.list 1 (wt.map encI),.int .i64 many,.list 1 (bg.map encI),.list 1 (tanks.map encI)] (tupLB (waysQ n bl wt many r bg tanks)):=by
  intro r
  induction r with
  | zero=>intro bg tanks _ _ h1 h2;omega
  | succ r ih =>
   intro bg tanks htn htl hb1 hb2
   have h12:=hn.p
   have htkl:((n.tanks.map Tk.enc).length:Int)=n.tanks.length:=by simp
   have hpl:((n.pipes.map Rp.enc).length:Int)=n.pipes.length:=by simp
   have htnl:=encI_lenI tanks
   have hbgl:=encI_lenI bg
   obtain ⟨last,hlast⟩:∃ v,lastI tanks=v:=⟨_,rfl⟩
   have hrow:=lastI_get htn
   rw [hlast,← htnl] at hrow
   have h46:=den46 wt last hwl
   have hst:waysQ n bl wt many (r+1) bg tanks=match hasI wt last || ((bg.length:Int)==many) with
    | true=>(bg,hasI wt last && ((bg.length:Int)==many))
    | false=>match waysI n bl tanks last (fun i to=>waysQ n bl wt many r (bg++[(i:Int)]) (tanks++[to])) n.pipes.length 0 with
     | some l=>(l,true)
     | none=>([],false):=by rw [← hlast];rfl
   refine mkW Try.func66 Try.call66 rfl rfl ?_
   refine ⟨((tanks.map encI).length:Int) - 1,wrap64 (by omega) (by omega),?_⟩
   refine ⟨by omega,_,hrow,?_⟩
   refine ⟨_,rfl,_,h46,?_⟩
   cases hw:hasI wt last with
   | true =>
    rw [hw] at h46 hst
    rw [hst]
    refine ⟨fun _=>?_,fun h=>Bool.noConfusion (show true=false from h)⟩
    refine ⟨_,rfl,_,h46,?_⟩
    refine ⟨fun _=>?_,fun h=>Bool.noConfusion (show true=false from h)⟩
    show ∃ d0,some (D.tup [.list 1 (bg.map encI),.bool (((bg.map encI).length:Int)==many)])=some d0∧Wk d0 _
    rw [hbgl]
    exact ⟨_,rfl,.refl _⟩
   | false =>
    rw [hw] at h46 hst
    refine ⟨fun h=>Bool.noConfusion (show false=true from h),fun _=>?_⟩
    refine ⟨fun q=>?_,fun q=>?_⟩
    ·have q:(((bg.map encI).length:Int)==many)=true:=q
     rw [hbgl] at q
     rw [q] at hst
     rw [hst]
     refine ⟨_,rfl,_,h46,?_⟩
     refine ⟨fun h=>Bool.noConfusion (show false=true from h),fun _=>?_⟩
     exact ⟨_,rfl,.refl _⟩
    have q:(((bg.map encI).length:Int)==many)=false:=q
    rw [hbgl] at q
    rw [q] at hst
    have hlt:(bg.length:Int)<many:=by
     have:¬ (bg.length:Int)=many:=by simpa using q
     omega
    obtain ⟨rec,hrec⟩:∃ f,(fun (i:Nat) (to:Int)=>waysQ n bl wt many r (bg++[(i:Int)]) (tanks++[to]))=f:=⟨_,rfl⟩
    have hst:waysQ n bl wt many (r+1) bg tanks=match waysI n bl tanks last rec n.pipes.length 0 with
     | some l=>(l,true)
     | none=>([],false):=by rw [← hrec];exact hst
    refine ⟨[1,2,3,4,5,6,14,15],1,[],fun σ=>∃ i:Nat,i≤n.pipes.length∧waysI n bl tanks last rec n.pipes.length 0=waysI n bl tanks last rec (n.pipes.length - i) i ∧
     σ=⟨[(1,.list 1 (bl.map encI)),(2,.list 1 (wt.map encI)),(3,.int .i64 many),(4,.list 1 (bg.map encI)),(5,.list 1 (tanks.map encI)),(6,.loc 0 0),(14,.int .i64 last),(15,.int .i64 i)],[.flat false n.enc],.non⟩,
     fun σ=>(1000 - slotI 15 σ).toNat,rfl,⟨rfl,rfl⟩,⟨0,Nat.zero_le _,rfl,rfl⟩,?_⟩
    rintro σ ⟨i,hi,hwi,rfl⟩
    refine ⟨fun q1=>?_,fun q1=>?_⟩
    rotate_left
    ·have q1:=of_decide_eq_false q1
     rw [hpl] at q1
     rw [show n.pipes.length - i=0 by omega] at hwi
     rw [hst,hwi]
     exact ⟨_,rfl,.tcons (.nil 0 1) (.refl _)⟩
    have q1:=of_decide_eq_true q1
    rw [hpl] at q1
    have hi':i<n.pipes.length:=by omega
    have less:(1000 - ((i:Int)+1)).toNat<(1000 - (i:Int)).toNat:=by omega
    obtain ⟨p,hp⟩:∃ p,n.pipes[i]?=some p:=⟨_,List.getElem?_eq_getElem hi'⟩
    have hprow:(n.pipes.map Rp.enc)[((i:Int)).toNat]?=some p.enc:=by rw [Int.toNat_natCast,List.getElem?_map,hp];rfl
    have hpe:=hn.pe p (List.mem_of_getElem? hp)
    have hw1:waysI n bl tanks last rec (n.pipes.length - i) i=match skipP n bl tanks last p i with
     | true=>waysI n bl tanks last rec (n.pipes.length - (i+1)) (i+1)
     | false=>match rec i (otherI p last) with
      | (l,true)=>some l
      | (_,false)=>waysI n bl tanks last rec (n.pipes.length - (i+1)) (i+1):=by
     rw [show n.pipes.length - i=(n.pipes.length - (i+1))+1 by omega]
     conv=>lhs;unfold waysI
     rw [hp]
    rw [hw1] at hwi
    obtain ⟨to,hto⟩:∃ v,otherI p last=v:=⟨_,rfl⟩
    have h91:=den91 p last
    rw [hto] at h91 hwi
    have hsk:skipP n bl tanks last p i=(decide (to<0) || (hasI bl i || (hasI tanks to || n.keepB to))):=by unfold skipP;rw [hto]
    have skip:skipP n bl tanks last p i=true→waysI n bl tanks last rec n.pipes.length 0=waysI n bl tanks last rec (n.pipes.length - (i+1)) (i+1):=fun h=>by rw [hwi,h]
    refine ⟨by omega,_,hprow,?_⟩
    refine ⟨_,rfl,_,h91,?_⟩
    refine ⟨fun r1=>?_,fun r1=>?_⟩
    ·have r1:decide (to<0)=true:=r1
     have hsk:=skip (by rw [hsk,r1];rfl)
     refine ⟨(i:Int)+1,wrap64 (by omega) (by omega),?_⟩
     exact ⟨⟨rfl,rfl⟩,⟨i+1,hi',hsk,rfl⟩,less⟩
    have r1:decide (to<0)=false:=r1
    have hto0:¬ to<0:=of_decide_eq_false r1
    refine ⟨_,rfl,_,den46 bl i hbl,?_⟩
    refine ⟨fun r2=>?_,fun r2=>?_⟩
    ·have r2:hasI bl i=true:=r2
     have hsk:=skip (by rw [hsk,r1,r2];rfl)
     refine ⟨(i:Int)+1,wrap64 (by omega) (by omega),?_⟩
     exact ⟨⟨rfl,rfl⟩,⟨i+1,hi',hsk,rfl⟩,less⟩
    have r2:hasI bl i=false:=r2
    refine ⟨_,rfl,_,den46 tanks to (by omega),?_⟩
    refine ⟨fun r3=>?_,fun r3=>?_⟩
    ·have r3:hasI tanks to=true:=r3
     have hsk:=skip (by rw [hsk,r1,r2,r3];rfl)
     refine ⟨(i:Int)+1,wrap64 (by omega) (by omega),?_⟩
     exact ⟨⟨rfl,rfl⟩,⟨i+1,hi',hsk,rfl⟩,less⟩
    have r3:hasI tanks to=false:=r3
    have hto1:to<n.tanks.length:=by
     unfold otherI at hto
     split at hto
     ·omega
     ·split at hto <;> omega
    obtain ⟨t,ht⟩:∃ t,n.tanks[to.toNat]?=some t:=⟨_,List.getElem?_eq_getElem (by omega)⟩
    have htrow:(n.tanks.map Tk.enc)[to.toNat]?=some t.enc:=by rw [List.getElem?_map,ht];rfl
    have hkp:n.keepB to=t.kept:=tank_keep ht
    rw [hkp] at hsk
    refine ⟨by omega,_,htrow,?_⟩
    refine ⟨fun r4=>?_,fun r4=>?_⟩
    ·have r4:t.kept=true:=r4
     have hsk:=skip (by rw [hsk,r1,r2,r3,r4];rfl)
     refine ⟨(i:Int)+1,wrap64 (by omega) (by omega),?_⟩
     exact ⟨⟨rfl,rfl⟩,⟨i+1,hi',hsk,rfl⟩,less⟩
    have r4:t.kept=false:=r4
    rw [hsk,r1,r2,r3,r4] at hwi
    have h66:=ih (bg++[(i:Int)]) (tanks++[to]) (by simp) (by simp;omega) (by simp;omega) (by simp;omega)
    have hre:waysQ n bl wt many r (bg++[(i:Int)]) (tanks++[to])=rec i to:=by rw [← hrec]
    rw [hre] at h66
    obtain ⟨⟨l,is_⟩,hres⟩:∃ y,rec i to=y:=⟨_,rfl⟩
    rw [hres] at h66 hwi
    refine Or.inr (Or.inr (Or.inl ⟨[0,1,2,3,4,5,7,8,10,11,13,14,6,9,12,15,16,17,18,19,20,21],13,[0,1,2,3,8,9,10,11,18,19],by kernel_rfl,?_⟩))
    refine ⟨trivial,?_,?_⟩
    ·rw [List.length_map];show _*8≤mostBytes;unfold mostBytes;omega
    refine ⟨trivial,iff' (by rfl) ⟨Nat.le_of_eq (Nat.zero_add _),?_,_,old_all rfl,_,encI_snoc bg (i:Int),trivial,?_⟩⟩
    ·rw [List.length_map];show (_+1)*8≤mostBytes;unfold mostBytes;omega
    refine ⟨⟨rfl,rfl,rfl,rfl,⟨rfl,rfl⟩,rfl,rfl,⟨_,rfl,rfl⟩,trivial⟩,?_⟩
    refine ⟨trivial,?_,?_⟩
    ·rw [List.length_map];show _*8≤mostBytes;unfold mostBytes;omega
    refine ⟨⟨rfl,rfl,rfl,rfl,rfl,⟨_,rfl,rfl⟩,trivial⟩,?_⟩
    refine ⟨trivial,iff' (by rfl) ⟨Nat.le_of_eq (Nat.zero_add _),?_,_,old_all rfl,_,encI_snoc tanks to,trivial,?_⟩⟩
    ·rw [List.length_map];show (_+1)*8≤mostBytes;unfold mostBytes;omega
    refine ⟨⟨rfl,rfl,rfl,rfl,rfl,trivial⟩,?_⟩
    refine ⟨_,mapO_cons rfl (mapO_cons rfl (mapO_cons rfl (mapO_cons rfl (mapO_cons (reify_sl rfl rfl) (mapO_cons (reify_sl rfl rfl) rfl))))),_,h66,?_⟩
    refine ⟨⟨rfl,trivial⟩,?_⟩
    refine ⟨⟨rfl,trivial⟩,?_⟩
    refine ⟨⟨rfl,rfl,trivial⟩,?_⟩
    refine ⟨⟨rfl,rfl,rfl,trivial⟩,?_⟩
    refine ⟨⟨rfl,trivial⟩,?_⟩
    refine ⟨trivial,?_⟩
    cases is_ with
    | true =>
     have hwi:waysI n bl tanks last rec n.pipes.length 0=some l:=hwi
     refine ⟨fun _=>?_,fun h=>Bool.noConfusion (show true=false from h)⟩
     rw [hst,hwi]
     exact ⟨_,rfl,.refl _⟩
    | false =>
     refine ⟨fun h=>Bool.noConfusion (show false=true from h),fun _=>?_⟩
     refine ⟨(i:Int)+1,wrap64 (by omega) (by omega),?_⟩
     exact ⟨⟨rfl,rfl⟩,⟨i+1,hi',hwi,rfl⟩,less⟩

def bestK (n:Nt) (bl wt:List Int) (many:Int):Nat→Nat→List Int→List Int
 | 0,_,best=>best
 | c+1,k,best=>match n.keptB k with
  | false=>bestK n bl wt many c (k+1) best
  | true=>match waysQ n bl wt many 8 [] [(k:Int)] with
   | (_,false)=>bestK n bl wt many c (k+1) best
   | (l,true)=>match ((best.length:Int)==0) || beforeI l best with
    | true=>bestK n bl wt many c (k+1) l
    | false=>bestK n bl wt many c (k+1) best
def wayRF (n:Nt) (bl wt:List Int):Nat→Nat→List Int × Int
 | 0,_=>([],4)
 | r+1,many=>match decide (((bestK n bl wt many n.tanks.length 0 []).length:Int) > 0) with
  | true=>(bestK n bl wt many n.tanks.length 0 [],0)
  | false=>wayRF n bl wt r (many+1)
def Nt.wayR (n:Nt) (bl wt:List Int):List Int × Int :=
 if n.lookE bl wt true=0 then wayRF n bl wt (n.tanks.length - 1) 1 else ([],n.lookE bl wt true)
theorem waysQ_len (n:Nt) (bl wt:List Int) (many:Int):∀ (r:Nat) (bg tanks l:List Int),(bg.length:Int)≤many→waysQ n bl wt many r bg tanks=(l,true)→(l.length:Int)=many
 | 0,_,_,_,_,h=>by cases h
 | r+1,bg,tanks,l,hb,h=>by
  unfold waysQ at h
  cases hc:hasI wt (lastI tanks) || ((bg.length:Int)==many) with
  | true =>
   rw [hc] at h
   simp only [Prod.mk.injEq,Bool.and_eq_true,beq_iff_eq] at h
   rw [← h.1];exact h.2.2
  | false =>
   rw [hc] at h
   rw [Bool.or_eq_false_iff] at hc
   have hne:¬ (bg.length:Int)=many:=by simpa using hc.2
   have key:∀ (c i:Nat) (l:List Int),waysI n bl tanks (lastI tanks) (fun i to=>waysQ n bl wt many r (bg++[(i:Int)]) (tanks++[to])) c i=some l→(l.length:Int)=many:=by
    intro c
    induction c with
    | zero=>intro i l h;cases h
    | succ c ih =>
     intro i l h
     unfold waysI at h
     cases hp:n.pipes[i]? with
     | none=>rw [hp] at h;cases h
     | some p =>
      rw [hp] at h
      simp only at h
      cases hs:skipP n bl tanks (lastI tanks) p i with
      | true=>rw [hs] at h;exact ih _ _ h
      | false =>
       rw [hs] at h
       simp only at h
       obtain ⟨⟨l',is_⟩,hq⟩:∃ y,waysQ n bl wt many r (bg++[(i:Int)]) (tanks++[otherI p (lastI tanks)])=y:=⟨_,rfl⟩
       rw [hq] at h
       cases is_ with
       | true =>
        cases h
        exact waysQ_len n bl wt many r _ _ _ (by simp;omega) hq
       | false=>exact ih _ _ h
   simp only at h
   cases hw:waysI n bl tanks (lastI tanks) (fun i to=>waysQ n bl wt many r (bg++[(i:Int)]) (tanks++[to])) n.pipes.length 0 with
   | none=>rw [hw] at h;cases h
   | some l' =>
    rw [hw] at h
    cases h
    exact key _ _ _ hw

set_option maxRecDepth 10000 in
set_option maxHeartbeats 16000000 in
theorem den25 (n:Nt) (bl wt:List Int) (hbl:bl.length<9223372036854775808) (hwl:wt.length<9223372036854775808) :
    DN 25 [.agg n.enc,.list 1 (bl.map encI),.list 1 (wt.map encI)] (tupLI (n.wayR bl wt)):=by
  have h65:=den65 n bl wt hbl hwl
  refine mkW Try.func25 Try.call25 rfl rfl ?_
  refine ⟨_,rfl,_,h65,?_⟩
  by_cases he:n.lookE bl wt true=0
  rotate_left
  ·have hR:n.wayR bl wt=([],n.lookE bl wt true):=by unfold Nt.wayR;rw [if_neg he]
   rw [hR]
   refine ⟨fun _=>?_,fun h=>?_⟩
   ·exact ⟨_,rfl,.tcons (.nil 0 1) (.refl _)⟩
   ·have h:(n.lookE bl wt true != 0)=false:=h
    exact absurd (by simpa using h) he
  have hR:n.wayR bl wt=wayRF n bl wt (n.tanks.length - 1) 1:=by unfold Nt.wayR;rw [if_pos he]
  rw [hR]
  have hn:=(Nt.lookE_ok he).1
  have h7:=hn.t7
  have h1t:=hn.t1
  have htl:((n.tanks.map Tk.enc).length:Int)=n.tanks.length:=by simp
  rw [he] at h65 ⊢
  refine ⟨fun h=>Bool.noConfusion (show false=true from h),fun _=>?_⟩
  refine ⟨[1,2,3,9],1,[],fun σ=>∃ j:Nat,1≤j∧j≤n.tanks.length∧wayRF n bl wt (n.tanks.length - 1) 1=wayRF n bl wt (n.tanks.length - j) j ∧
   σ=⟨[(1,.list 1 (bl.map encI)),(2,.list 1 (wt.map encI)),(3,.loc 0 0),(9,.int .i64 (j:Int))],[.flat false n.enc],.non⟩,
   fun σ=>(1000 - slotI 9 σ).toNat,rfl,⟨rfl,rfl⟩,⟨1,Nat.le_refl _,h1t,rfl,rfl⟩,?_⟩
  rintro σ ⟨j,hj1,hj,hout,rfl⟩
  refine ⟨fun q1=>?_,fun q1=>?_⟩
  rotate_left
  ·have q1:=of_decide_eq_false q1
   rw [htl] at q1
   rw [show n.tanks.length - j=0 by omega] at hout
   rw [hout]
   exact ⟨_,rfl,.tcons (.nil 0 1) (.refl _)⟩
  have q1:=of_decide_eq_true q1
  rw [htl] at q1
  have hj':j<n.tanks.length:=by omega
  have hw1:wayRF n bl wt (n.tanks.length - j) j=match decide (((bestK n bl wt j n.tanks.length 0 []).length:Int) > 0) with
      | true=>(bestK n bl wt j n.tanks.length 0 [],0)
      | false=>wayRF n bl wt (n.tanks.length - (j+1)) (j+1):=by
    rw [show n.tanks.length - j=(n.tanks.length - (j+1))+1 by omega];rfl
  rw [hw1] at hout
  clear hw1
  have lessJ:(1000 - ((j:Int)+1)).toNat<(1000 - (j:Int)).toNat:=by omega
  refine ⟨[1,2,3,9,10,11],1,[],fun σ=>∃ (k:Nat) (best:List Int),k≤n.tanks.length∧(best≠[]→(best.length:Int)=j)∧bestK n bl wt j n.tanks.length 0 []=bestK n bl wt j (n.tanks.length - k) k best ∧
   ((best=[]∧σ=⟨[(1,.list 1 (bl.map encI)),(2,.list 1 (wt.map encI)),(3,.loc 0 0),(9,.int .i64 (j:Int)),(10,.nils),(11,.int .i64 k)],[.flat false n.enc],.non⟩) ∨
    σ=⟨[(1,.list 1 (bl.map encI)),(2,.list 1 (wt.map encI)),(3,.loc 0 0),(9,.int .i64 (j:Int)),(10,.list 1 (best.map encI)),(11,.int .i64 k)],[.flat false n.enc],.non⟩),
   fun σ=>(1000 - slotI 11 σ).toNat,rfl,⟨rfl,rfl⟩,⟨0,[],Nat.zero_le _,fun h=>(h rfl).elim,rfl,.inl ⟨rfl,rfl⟩⟩,?_⟩
  rintro σ ⟨k,best,hk,hbl2,hrec,hcase⟩
  rcases hcase with ⟨rfl,rfl⟩ | rfl
  ·refine ⟨fun q2=>?_,fun q2=>?_⟩
   ·have q2:=of_decide_eq_true q2
    rw [htl] at q2
    have hk':k<n.tanks.length:=by omega
    have less:(1000 - ((k:Int)+1)).toNat<(1000 - (k:Int)).toNat:=by omega
    obtain ⟨t,ht⟩:∃ t,n.tanks[k]?=some t:=⟨_,List.getElem?_eq_getElem hk'⟩
    have htrow:(n.tanks.map Tk.enc)[((k:Nat):Int).toNat]?=some t.enc:=by rw [Int.toNat_natCast,List.getElem?_map,ht];rfl
    have hkb:n.keptB k=t.kept:=by unfold Nt.keptB;rw [ht]
    have h66:=(den66 n hn bl wt hbl hwl j (by omega) 8 [] [(k:Int)] (by simp) rfl (by simp) (by simp;omega)).wkargs (args:=[.agg n.enc,.list 1 (bl.map encI),.list 1 (wt.map encI),.int .i64 j,.list 0 [],.list 1 [[.int .i64 k]]]) (.cons (.refl _) (.cons (.refl _) (.cons (.refl _) (.cons (.refl _) (.cons (.of (.nil 0 1)) (.cons (.refl _) .nil))))))
    obtain ⟨⟨l,is_⟩,hres⟩:∃ y,waysQ n bl wt j 8 [] [(k:Int)]=y:=⟨_,rfl⟩
    rw [hres] at h66
    have hst:bestK n bl wt j (n.tanks.length - k) k []=match n.keptB k with
     | false=>bestK n bl wt j (n.tanks.length - (k+1)) (k+1) []
     | true=>match waysQ n bl wt j 8 [] [(k:Int)] with
      | (_,false)=>bestK n bl wt j (n.tanks.length - (k+1)) (k+1) []
      | (l,true)=>match (((([]:List Int)).length:Int)==0) || beforeI l [] with
       | true=>bestK n bl wt j (n.tanks.length - (k+1)) (k+1) l
       | false=>bestK n bl wt j (n.tanks.length - (k+1)) (k+1) []:=by
     rw [show n.tanks.length - k=(n.tanks.length - (k+1))+1 by omega];rfl
    rw [hst] at hrec
    clear hst
    rw [hkb] at hrec
    refine ⟨by omega,_,htrow,?_⟩
    refine ⟨fun r1=>?_,fun r1=>?_⟩
    ·have r1:(!t.kept)=true:=r1
     have r1:t.kept=false:=by simpa using r1
     rw [r1] at hrec
     refine ⟨(k:Int)+1,wrap64 (by omega) (by omega),?_⟩
     exact ⟨⟨rfl,rfl⟩,⟨k+1,[],hk',(fun h=>(h rfl).elim),hrec,.inl ⟨rfl,rfl⟩⟩,less⟩
    have r1:(!t.kept)=false:=r1
    have r1:t.kept=true:=by simpa using r1
    rw [r1,hres] at hrec
    refine ⟨_,rfl,_,h66,?_⟩
    cases is_ with
    | false =>
     refine ⟨fun h=>Bool.noConfusion (show false=true from h),fun _=>?_⟩
     refine ⟨(k:Int)+1,wrap64 (by omega) (by omega),?_⟩
     exact ⟨⟨rfl,rfl⟩,⟨k+1,[],hk',(fun h=>(h rfl).elim),hrec,.inl ⟨rfl,rfl⟩⟩,less⟩
    | true =>
     have hll:=waysQ_len n bl wt j 8 [] [(k:Int)] l (by simp) hres
     refine ⟨fun _=>?_,fun h=>Bool.noConfusion (show true=false from h)⟩
     refine ⟨fun _=>?_,fun h=>Bool.noConfusion (show true=false from h)⟩
     refine ⟨(k:Int)+1,wrap64 (by omega) (by omega),?_⟩
     exact ⟨⟨rfl,rfl⟩,⟨k+1,l,hk',(fun _=>hll),hrec,.inr rfl⟩,less⟩
   ·have q2:=of_decide_eq_false q2
    rw [htl] at q2
    rw [show n.tanks.length - k=0 by omega] at hrec
    have hrec:bestK n bl wt j n.tanks.length 0 []=[]:=hrec
    rw [hrec] at hout
    refine ⟨fun h=>Bool.noConfusion (show false=true from h),fun _=>?_⟩
    refine ⟨(j:Int)+1,wrap64 (by omega) (by omega),?_⟩
    exact ⟨⟨rfl,rfl⟩,⟨j+1,by omega,hj',hout,rfl⟩,lessJ⟩
  ·refine ⟨fun q2=>?_,fun q2=>?_⟩
   ·have q2:=of_decide_eq_true q2
    rw [htl] at q2
    have hk':k<n.tanks.length:=by omega
    have less:(1000 - ((k:Int)+1)).toNat<(1000 - (k:Int)).toNat:=by omega
    obtain ⟨t,ht⟩:∃ t,n.tanks[k]?=some t:=⟨_,List.getElem?_eq_getElem hk'⟩
    have htrow:(n.tanks.map Tk.enc)[((k:Nat):Int).toNat]?=some t.enc:=by rw [Int.toNat_natCast,List.getElem?_map,ht];rfl
    have hkb:n.keptB k=t.kept:=by unfold Nt.keptB;rw [ht]
    have h66:=(den66 n hn bl wt hbl hwl j (by omega) 8 [] [(k:Int)] (by simp) rfl (by simp) (by simp;omega)).wkargs (args:=[.agg n.enc,.list 1 (bl.map encI),.list 1 (wt.map encI),.int .i64 j,.list 0 [],.list 1 [[.int .i64 k]]]) (.cons (.refl _) (.cons (.refl _) (.cons (.refl _) (.cons (.refl _) (.cons (.of (.nil 0 1)) (.cons (.refl _) .nil))))))
    obtain ⟨⟨l,is_⟩,hres⟩:∃ y,waysQ n bl wt j 8 [] [(k:Int)]=y:=⟨_,rfl⟩
    rw [hres] at h66
    have hst:bestK n bl wt j (n.tanks.length - k) k best=match n.keptB k with
     | false=>bestK n bl wt j (n.tanks.length - (k+1)) (k+1) best
     | true=>match waysQ n bl wt j 8 [] [(k:Int)] with
      | (_,false)=>bestK n bl wt j (n.tanks.length - (k+1)) (k+1) best
      | (l,true)=>match ((((best:List Int)).length:Int)==0) || beforeI l best with
       | true=>bestK n bl wt j (n.tanks.length - (k+1)) (k+1) l
       | false=>bestK n bl wt j (n.tanks.length - (k+1)) (k+1) best:=by
     rw [show n.tanks.length - k=(n.tanks.length - (k+1))+1 by omega];rfl
    rw [hst] at hrec
    clear hst
    rw [hkb] at hrec
    refine ⟨by omega,_,htrow,?_⟩
    refine ⟨fun r1=>?_,fun r1=>?_⟩
    ·have r1:(!t.kept)=true:=r1
     have r1:t.kept=false:=by simpa using r1
     rw [r1] at hrec
     refine ⟨(k:Int)+1,wrap64 (by omega) (by omega),?_⟩
     exact ⟨⟨rfl,rfl⟩,⟨k+1,best,hk',hbl2,hrec,.inr rfl⟩,less⟩
    have r1:(!t.kept)=false:=r1
    have r1:t.kept=true:=by simpa using r1
    rw [r1,hres] at hrec
    refine ⟨_,rfl,_,h66,?_⟩
    cases is_ with
    | false =>
     refine ⟨fun h=>Bool.noConfusion (show false=true from h),fun _=>?_⟩
     refine ⟨(k:Int)+1,wrap64 (by omega) (by omega),?_⟩
     exact ⟨⟨rfl,rfl⟩,⟨k+1,best,hk',hbl2,hrec,.inr rfl⟩,less⟩
    | true =>
     have hll:=waysQ_len n bl wt j 8 [] [(k:Int)] l (by simp) hres
     refine ⟨fun _=>?_,fun h=>Bool.noConfusion (show true=false from h)⟩
     refine ⟨fun r2=>?_,fun r2=>?_⟩
     ·have r2:(((best.map encI).length:Int)==0)=true:=r2
      rw [encI_lenI] at r2
      have hrec:bestK n bl wt j n.tanks.length 0 []=bestK n bl wt j (n.tanks.length - (k+1)) (k+1) l:=by rw [hrec];simp only [r2,Bool.true_or]
      refine ⟨(k:Int)+1,wrap64 (by omega) (by omega),?_⟩
      exact ⟨⟨rfl,rfl⟩,⟨k+1,l,hk',(fun _=>hll),hrec,.inr rfl⟩,less⟩
     ·have r2:(((best.map encI).length:Int)==0)=false:=r2
      rw [encI_lenI] at r2
      have hbe:(best.length:Int)=j:=hbl2 (fun e=>by rw [e] at r2;simp at r2)
      refine ⟨_,rfl,_,den67 l best (by omega) (by omega),?_⟩
      refine ⟨fun r3=>?_,fun r3=>?_⟩
      ·have r3:beforeI l best=true:=r3
       have hrec:bestK n bl wt j n.tanks.length 0 []=bestK n bl wt j (n.tanks.length - (k+1)) (k+1) l:=by rw [hrec];simp only [r3,Bool.or_true]
       refine ⟨(k:Int)+1,wrap64 (by omega) (by omega),?_⟩
       exact ⟨⟨rfl,rfl⟩,⟨k+1,l,hk',(fun _=>hll),hrec,.inr rfl⟩,less⟩
      ·have r3:beforeI l best=false:=r3
       have hrec:bestK n bl wt j n.tanks.length 0 []=bestK n bl wt j (n.tanks.length - (k+1)) (k+1) best:=by rw [hrec];simp only [r2,r3,Bool.or_false]
       refine ⟨(k:Int)+1,wrap64 (by omega) (by omega),?_⟩
       exact ⟨⟨rfl,rfl⟩,⟨k+1,best,hk',hbl2,hrec,.inr rfl⟩,less⟩
   ·have q2:=of_decide_eq_false q2
    rw [htl] at q2
    rw [show n.tanks.length - k=0 by omega] at hrec
    have hrec:bestK n bl wt j n.tanks.length 0 []=best:=hrec
    rw [hrec] at hout
    refine ⟨fun q3=>?_,fun q3=>?_⟩
    ·have q3:decide (((best.map encI).length:Int) > 0)=true:=q3
     rw [encI_lenI] at q3
     rw [q3] at hout
     rw [hout]
     exact ⟨_,rfl,.refl _⟩
    ·have q3:decide (((best.map encI).length:Int) > 0)=false:=q3
     rw [encI_lenI] at q3
     rw [q3] at hout
     refine ⟨(j:Int)+1,wrap64 (by omega) (by omega),?_⟩
     exact ⟨⟨rfl,rfl⟩,⟨j+1,by omega,hj',hout,rfl⟩,lessJ⟩

end Go.Proofs.Vent
