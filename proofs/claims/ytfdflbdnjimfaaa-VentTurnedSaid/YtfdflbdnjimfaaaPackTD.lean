/- trace: a way of gas is taken out of what flows; Ways; Ways: the ways of what flows; Steps and states that are compared; the nets and the steps of the examples. No condition. -/
import Derived.Test.YtfdflbdnjimfaaaPackTC
import Derived.Test.YtfdflbdnjimfaaaPackTB

namespace Go.Proofs.Vent
open Go.V Go.Proofs


def Pp.takes (p:Pp) (at_:Nat) (x:Int):Option (Int × Nat):=if p.fr=at_∧x > 0 then some (x - 1,p.to) else if p.to=at_∧x<0 then some (x+1,p.fr) else none
def NetL.pickT (n:NetL) (w:List Int) (at_:Nat):Nat→Nat→Option (Nat × Int × Nat)
 | 0,_=>none
 | c+1,i=>match n.pipes[i]? with
  | none=>none
  | some p=>match p.takes at_ (nowAt w i) with
   | some (x,to)=>some (i,x,to)
   | none=>n.pickT w at_ c (i+1)
def ixN:List Nat→Nat→Option Nat
 | [],_=>none
 | x::r,v=>if v=x then some 0 else (ixN r v).map (·+1)
def cutN (o:Option Nat) (l:List Nat):List Nat:=match o with
 | some k=>l.take k
 | none=>l
def NetL.traceF (n:NetL):Nat→Nat→List Nat→List Nat→List Int→Option (List Nat × List Int)
 | 0,_,_,_,_=>none
 | r+1,at_,way,tanks,w=>match n.kept.testBit at_ with
  | true=>none
  | false=>match n.wanted.testBit at_ with
   | true=>some (cutN (ixN tanks at_) way,w)
   | false=>match n.pickT w at_ n.pipes.length 0 with
    | none=>none
    | some (i,x,to)=>n.traceF r to (cutN (ixN tanks at_) way++[i]) (cutN (ixN tanks at_) tanks++[at_]) (w.set i x)
def NetL.trace (n:NetL) (r:Nat) (from_:Nat) (w:List Int):Option (List Nat × List Int) :=
 match n.kept.testBit from_ with
 | false=>none
 | true=>match n.wanted.testBit from_ with
  | true=>none
  | false=>match n.pickT w from_ n.pipes.length 0 with
   | none=>none
   | some (i,x,to)=>n.traceF r to [i] [from_] (w.set i x)

def absL:List Int→Nat
 | []=>0
 | x::r=>x.natAbs+absL r
theorem absL_set:∀ {w:List Int} {i:Nat} {x:Int},i<w.length→absL (w.set i x)+(nowAt w i).natAbs=absL w+x.natAbs
 | [],i,x,h=>by simp at h
 | y::r,0,x,h=>by
  simp only [List.set_cons_zero,absL,nowAt,List.getD_cons_zero]
  omega
 | y::r,i+1,x,h=>by
  have ih:=absL_set (w:=r) (i:=i) (x:=x) (by simpa using h)
  simp only [List.set_cons_succ,absL]
  have e:nowAt (y::r) (i+1)=nowAt r i:=by unfold nowAt;simp
  rw [e]
  omega
theorem takes_abs {p:Pp} {at_ to:Nat} {x y:Int} (h:p.takes at_ x=some (y,to)):y.natAbs<x.natAbs∧(at_=p.fr∧to=p.to∧0<x∧y=x - 1∨at_=p.to∧to=p.fr∧x<0∧y=x+1):=by
 unfold Pp.takes at h
 split at h
 ·rename_i hc;cases h;refine ⟨by omega,.inl ⟨hc.1.symm,rfl,hc.2,rfl⟩⟩
 ·split at h
  ·rename_i hc;cases h;refine ⟨by omega,.inr ⟨hc.1.symm,rfl,hc.2,rfl⟩⟩
  ·cases h
def absD:List D→Nat
 | []=>0
 | .int _ x::r=>x.natAbs+absD r
 | _::r=>absD r
theorem absD_web (n:NetL) (w:List Int):absD (.ro n.enc::w.map fun v=>D.int .i64 v)=absL w:=by
 show absD (w.map fun v=>D.int .i64 v)=absL w
 induction w with
 | nil=>rfl
 | cons x r ih=>show x.natAbs+absD (r.map _)=_;rw [ih];rfl
def absSt (σ:St):Nat:=match σ.boxes[(0:Nat)]? with
 | some (.flat _ cs)=>absD cs
 | _=>0

theorem ixN_find:∀ (l:List Nat) (v:Nat) (i:Int),findI (fun x=>(v:Int)==x) (l.map fun i=>((i:Nat):Int)) i=match ixN l v with | some k=>i+(k:Nat) | none=>-1
 | [],v,i=>rfl
 | x::r,v,i=>by
  have ih:=ixN_find r v (i+1)
  simp only [List.map_cons,findI,ixN]
  by_cases h:v=x
  ·subst h
   rw [if_pos rfl]
   have:((v:Int)==(v:Int))=true:=by simp
   rw [this]
   simp
  ·rw [if_neg h]
   have:((v:Int)==(x:Int))=false:=by simp;omega
   rw [this]
   simp only
   rw [ih]
   cases ixN r v with
   | none=>rfl
   | some k=>show i+1+(k:Int)=i+((k+1:Nat):Int);omega
theorem ixN_lt:∀ {l:List Nat} {v k:Nat},ixN l v=some k→k<l.length
 | [],_,_,h=>by cases h
 | x::r,v,k,h=>by
  unfold ixN at h
  split at h
  ·cases h;simp
  ·cases hr:ixN r v with
   | none=>rw [hr] at h;cases h
   | some j=>rw [hr] at h;cases h;have:=ixN_lt hr;simp;omega

theorem okB_tr {n:NetL} {w:List Int} {j1 j4 t y:List (List D)} {g1 g2:Nat} {p:Pp}:okBoxes 6 [webB n w,.rows false 0 1 j1,.rows false g1 1 t,.flat false p.enc,.rows false 0 1 j4,.rows false g2 1 y]=true:=okB_cons (okA_web 6 n w) rfl
theorem okB_tr3 {n:NetL} {w:List Int} {j1 t:List (List D)} {g1:Nat}:okBoxes 3 [webB n w,.rows false 0 1 j1,.rows false g1 1 t]=true:=okB_cons (okA_web 3 n w) rfl

def traceQ (n:NetL) (l:List Nat) (w':List Int) (d:D) (bs:List Box) (y:Yst):Prop:=∃ (j1 j4 t rs:List (List D)) (j6:List (List D)) (g1 g2:Nat) (p:Pp),rs.take l.length=intsN l∧l.length≤rs.length∧y=.non∧d=.sl 5 g2 0 l.length ∧
 bs=[webB n w',.rows false 0 1 j1,.rows false g1 1 t,.flat false p.enc,.rows false 0 1 j4,.rows false g2 1 rs,.rows false 0 1 j6]

theorem intsN_take (l:List Nat) (k:Nat):(intsN l).take k=intsN (l.take k):=by simp [intsN,List.map_take]
theorem intsN_length (l:List Nat):(intsN l).length=l.length:=by simp [intsN]

theorem absL_le:∀ {w:List Int},(∀ v∈w,v.natAbs≤500)→absL w≤500*w.length
 | [],_=>Nat.le_refl _
 | x::r,h=>by
  have h1:=h x (by simp)
  have h2:=absL_le (w:=r) fun v hv=>h v (by simp [hv])
  show x.natAbs+absL r≤500*(r.length+1)
  omega
theorem absL_bound {w:List Int} {B:Int} (hl:w.length=12) (h:∀ i,-B≤nowAt w i∧nowAt w i≤B) (hB:B≤500):absL w≤6000:=by
 have h1:=absL_le (w:=w) fun v hv=>by
  obtain ⟨i,hi,rfl⟩:=List.getElem_of_mem hv
  have h2:=h i
  unfold nowAt at h2
  rw [List.getD_eq_getElem?_getD,List.getElem?_eq_getElem hi] at h2
  simp only [Option.getD_some] at h2
  omega
 omega

set_option maxHeartbeats 40000000 in
theorem denY73 (n:NetL) (h:n.Ok) (r0 from_:Nat) (w0:List Int) (B:Int) (hB:B≤500) (hlen0:w0.length=12) (hbd0:∀ i,-B≤nowAt w0 i∧nowAt w0 i≤B) (hf7:from_<7) (l:List Nat) (w':List Int) (htr:n.trace r0 from_ w0=some (l,w')) :
    DenY Try.prog 73 [.loc 0 0,.int .i64 from_] [webB n w0] .non (traceQ n l w'):=by
  have hk7:=h.k
  have hw7:=h.w
  have h7:=h.t7
  have h12:=h.p
  have hpl:((n.pipes.map Pp.enc).length:Int)=n.pipes.length:=by simp
  refine mkY Try.func73 Try.call73 rfl rfl ?_
  refine ⟨[0,4,5,6],6,[],fun σ=>(σ=⟨[(0,.loc 0 0),(4,.nils),(5,.nils),(6,.int .i64 from_)],[webB n w0],.non⟩) ∨
   (∃ (r at_ g1 g2:Nat) (way tanks:List Nat) (w:List Int) (j1 j4:List (List D)) (p:Pp),w.length=12∧(∀ i,-B≤nowAt w i∧nowAt w i≤B)∧at_<7∧way.length+absL w≤absL w0∧way.length=tanks.length∧n.traceF r at_ way tanks w=some (l,w') ∧
    σ=⟨[(0,.loc 0 0),(4,.sl 5 g2 0 (intsN way).length),(5,.sl 2 g1 0 (intsN tanks).length),(6,.int .i64 at_)],[webB n w,.rows false 0 1 j1,.rows false g1 1 (intsN tanks),.flat false p.enc,.rows false 0 1 j4,.rows false g2 1 (intsN way)],.non⟩),
   absSt,rfl,⟨rfl,okB_cons (okA_web 6 n w0) rfl⟩,.inl rfl,?_⟩
  rintro σ (rfl | ⟨r,at_,g1,g2,way,tanks,w,j1,j4,p0,hlen,hbd,hat,hwl,htl,hrec,rfl⟩)
  ·
   unfold NetL.trace at htr
   cases hkf:n.kept.testBit from_ with
   | false=>rw [hkf] at htr;cases htr
   | true =>
   rw [hkf] at htr
   simp only at htr
   cases hwf:n.wanted.testBit from_ with
   | true=>rw [hwf] at htr;cases htr
   | false =>
   rw [hwf] at htr
   simp only at htr
   have h93:DN 93 [.list 0 [],.int .i64 from_] (.int .i64 (-1)):=(den93 [] from_ (by decide)).args (.tcons (.nil 0 1) (.tcons (.refl _) .tnil))
   refine ⟨_,rfl,_,h93,?_⟩
   refine ⟨fun h=>absurd h (by decide),fun _=>?_⟩
   have h64k:=den64 n.kept from_ (by omega) (by omega)
   rw [hkf] at h64k
   refine ⟨_,rfl,_,h64k,?_⟩
   refine ⟨fun _=>?_,fun h=>absurd h (by decide)⟩
   refine ⟨trivial,(show 1*8≤mostBytes by decide),?_⟩
   have h64w:=den64 n.wanted from_ (by omega) (by omega)
   rw [hwf] at h64w
   refine ⟨_,rfl,_,h64w,?_⟩
   refine ⟨fun h=>absurd h (by decide),fun _=>?_⟩
   refine ⟨[0,4,5,6,52,53,54],3,[],fun σ=>∃ i:Nat,i≤n.pipes.length∧n.pickT w0 from_ n.pipes.length 0=n.pickT w0 from_ (n.pipes.length - i) i ∧
    σ=⟨[(0,.loc 0 0),(4,.nils),(5,.sl 2 0 0 1),(6,.int .i64 from_),(52,.list 3 (n.pipes.map Pp.enc)),(53,.int .i64 (n.pipes.map Pp.enc).length),(54,.int .i64 i)],[webB n w0,.rows false 0 1 [[.int .i64 from_]],.rows false 0 1 [[.int .i64 from_]]],.non⟩,
    fun σ=>(1000 - slotI 54 σ).toNat,rfl,⟨rfl,okB_tr3⟩,⟨0,Nat.zero_le _,rfl,rfl⟩,?_⟩
   rintro σ ⟨i,hi,hpick,rfl⟩
   have hvb:∀ i,-B≤nowAt w0 i∧nowAt w0 i≤B:=hbd0
   refine ⟨fun q1=>?_,fun q1=>?_⟩
   rotate_left
   ·have q1:=of_decide_eq_false q1
    rw [hpl] at q1
    have e:n.pipes.length - i=0:=by omega
    rw [e] at hpick
    have hpn:n.pickT w0 from_ n.pipes.length 0=none:=hpick
    rw [hpn] at htr
    cases htr
   have q1:=of_decide_eq_true q1
   rw [hpl] at q1
   have hi':i<n.pipes.length:=by omega
   have less:(1000 - ((i:Int)+1)).toNat<(1000 - (i:Int)).toNat:=by omega
   obtain ⟨p,hp⟩:∃ p,n.pipes[i]'hi'=p:=⟨_,rfl⟩
   have hgp:n.pipes[i]?=some p:=by rw [List.getElem?_eq_getElem hi',hp]
   have hrow:(n.pipes.map Pp.enc)[((i:Int)).toNat]?=some (p.enc):=by simp [hi',hp]
   have hpe:=h.pe p (List.mem_of_getElem? hgp)
   have hst:n.pickT w0 from_ (n.pipes.length - i) i=match p.takes from_ (nowAt w0 i) with
       | some (x,to)=>some (i,x,to)
       | none=>n.pickT w0 from_ (n.pipes.length - (i+1)) (i+1):=by
     rw [show n.pipes.length - i=(n.pipes.length - (i+1))+1 by omega]
     conv=>lhs;unfold NetL.pickT
     rw [hgp]
   have hvi:=hvb i
   obtain ⟨x,hx⟩:∃ x,nowAt w0 i=x:=⟨_,rfl⟩
   have hget:=web_get (c:=.ro n.enc) (w:=w0) (i:=i) (by rw [hlen0];omega)
   rw [hx] at hst hvi hget
   refine ⟨by omega,_,hrow,?_⟩
   refine ⟨fun q2=>?_,fun q2=>?_⟩
   ·have q2:((p.fr:Int)==from_)=true:=q2
    have q2:p.fr=from_:=by simp at q2;omega
    refine ⟨⟨by omega,by omega⟩,i,Nat.mul_one i,?_⟩
    refine ⟨_,hget,?_⟩
    refine ⟨fun q3=>?_,fun q3=>?_⟩
    ·have q3:x > 0:=of_decide_eq_true q3
     have htk:p.takes from_ x=some (x - 1,p.to):=by unfold Pp.takes;rw [if_pos ⟨q2,q3⟩]
     rw [htk] at hst
     have hpk:n.pickT w0 from_ n.pipes.length 0=some (i,x - 1,p.to):=hpick.trans hst
     rw [hpk] at htr
     have habs:=absL_set (w:=w0) (i:=i) (x:=x - 1) (by rw [hlen0];omega)
     rw [hx] at habs
     have hb2:∀ j,-B≤nowAt ((w0).set i (x - 1)) j∧nowAt ((w0).set i (x - 1)) j≤B:=fun j=>by
      rw [nowAt_set (by rw [hlen0];omega)]
      split
      ·omega
      ·exact hvb j
     refine Or.inl ⟨by kernel_rfl,?_⟩
     refine ⟨⟨by omega,by omega⟩,i,Nat.mul_one i,?_⟩
     refine ⟨_,hget,?_⟩
     refine ⟨x - 1,wrap64 (by omega) (by omega),?_⟩
     refine ⟨⟨by omega,by omega⟩,i,Nat.mul_one i,?_⟩
     refine ⟨by simp only [List.length_cons,List.length_map,List.length_nil];omega,_,web_set (by rw [hlen0];omega),?_⟩
     refine Or.inr (Or.inl ⟨6,[4,5],by kernel_rfl,?_⟩)
     refine ⟨trivial,(show 1*8≤mostBytes by decide),?_⟩
     refine ⟨⟨rfl,rfl,trivial⟩,?_⟩
     refine ⟨trivial,?_⟩
     refine ⟨⟨rfl,okB_tr⟩,.inr ⟨r0,p.to,0,0,[i],[from_],(w0).set i (x - 1),_,_,p,by rw [List.length_set];exact hlen0,hb2,by omega,by simp;omega,rfl,htr,rfl⟩,?_⟩
     show absD (.ro n.enc::((w0).set i (x - 1)).map fun v=>D.int .i64 v)<absD (.ro n.enc::(w0).map fun v=>D.int .i64 v)
     rw [absD_web,absD_web]
     omega
    ·have q3:¬ x > 0:=of_decide_eq_false q3
     have htk:p.takes from_ x=none:=by unfold Pp.takes;rw [if_neg (fun c=>q3 c.2),if_neg (fun c=>by omega)]
     rw [htk] at hst
     refine ⟨fun q4=>?_,fun q4=>?_⟩
     ·have q4:((p.to:Int)==from_)=true:=q4
      exact absurd (by simp at q4;omega:p.fr=p.to) hpe.2.2
     refine ⟨(i:Int)+1,wrap64 (by omega) (by omega),?_⟩
     exact ⟨⟨rfl,okB_tr3⟩,⟨i+1,hi',hpick.trans hst,rfl⟩,less⟩
   have q2:((p.fr:Int)==from_)=false:=q2
   have q2:¬ p.fr=from_:=by simp at q2;omega
   refine ⟨fun q4=>?_,fun q4=>?_⟩
   ·have q4:((p.to:Int)==from_)=true:=q4
    have q4:p.to=from_:=by simp at q4;omega
    refine ⟨⟨by omega,by omega⟩,i,Nat.mul_one i,?_⟩
    refine ⟨_,hget,?_⟩
    refine ⟨fun q3=>?_,fun q3=>?_⟩
    ·have q3:x<0:=of_decide_eq_true q3
     have htk:p.takes from_ x=some (x+1,p.fr):=by unfold Pp.takes;rw [if_neg (fun c=>q2 c.1),if_pos ⟨q4,q3⟩]
     rw [htk] at hst
     have hpk:n.pickT w0 from_ n.pipes.length 0=some (i,x+1,p.fr):=hpick.trans hst
     rw [hpk] at htr
     have habs:=absL_set (w:=w0) (i:=i) (x:=x+1) (by rw [hlen0];omega)
     rw [hx] at habs
     have hb2:∀ j,-B≤nowAt ((w0).set i (x+1)) j∧nowAt ((w0).set i (x+1)) j≤B:=fun j=>by
      rw [nowAt_set (by rw [hlen0];omega)]
      split
      ·omega
      ·exact hvb j
     refine Or.inl ⟨by kernel_rfl,?_⟩
     refine ⟨⟨by omega,by omega⟩,i,Nat.mul_one i,?_⟩
     refine ⟨_,hget,?_⟩
     refine ⟨x+1,wrap64 (by omega) (by omega),?_⟩
     refine ⟨⟨by omega,by omega⟩,i,Nat.mul_one i,?_⟩
     refine ⟨by simp only [List.length_cons,List.length_map,List.length_nil];omega,_,web_set (by rw [hlen0];omega),?_⟩
     refine Or.inr (Or.inl ⟨6,[4,5],by kernel_rfl,?_⟩)
     refine ⟨trivial,(show 1*8≤mostBytes by decide),?_⟩
     refine ⟨⟨rfl,rfl,trivial⟩,?_⟩
     refine ⟨trivial,?_⟩
     refine ⟨⟨rfl,okB_tr⟩,.inr ⟨r0,p.fr,0,0,[i],[from_],(w0).set i (x+1),_,_,p,by rw [List.length_set];exact hlen0,hb2,by omega,by simp;omega,rfl,htr,rfl⟩,?_⟩
     show absD (.ro n.enc::((w0).set i (x+1)).map fun v=>D.int .i64 v)<absD (.ro n.enc::(w0).map fun v=>D.int .i64 v)
     rw [absD_web,absD_web]
     omega
    ·have q3:¬ x<0:=of_decide_eq_false q3
     have htk:p.takes from_ x=none:=by unfold Pp.takes;rw [if_neg (fun c=>q2 c.1),if_neg (fun c=>q3 c.2)]
     rw [htk] at hst
     refine ⟨(i:Int)+1,wrap64 (by omega) (by omega),?_⟩
     exact ⟨⟨rfl,okB_tr3⟩,⟨i+1,hi',hpick.trans hst,rfl⟩,less⟩
   ·have q4:((p.to:Int)==from_)=false:=q4
    have q4:¬ p.to=from_:=by simp at q4;omega
    have htk:p.takes from_ x=none:=by unfold Pp.takes;rw [if_neg (fun c=>q2 c.1),if_neg (fun c=>q4 c.1)]
    rw [htk] at hst
    refine ⟨(i:Int)+1,wrap64 (by omega) (by omega),?_⟩
    exact ⟨⟨rfl,okB_tr3⟩,⟨i+1,hi',hpick.trans hst,rfl⟩,less⟩
  ·
   obtain ⟨r,rfl⟩:∃ q,r=q+1:=⟨r - 1,by cases r with | zero=>cases hrec | succ r=>rfl⟩
   unfold NetL.traceF at hrec
   cases hkf:n.kept.testBit at_ with
   | true=>rw [hkf] at hrec;cases hrec
   | false =>
   rw [hkf] at hrec
   simp only at hrec
   have hmost:=absL_bound hlen0 hbd0 hB
   have h93:=den93 (tanks.map fun i=>((i:Nat):Int)) at_ (by simp;omega)
   rw [ixN_find tanks at_ 0] at h93
   have h64k:=den64 n.kept at_ (by omega) (by omega)
   rw [hkf] at h64k
   have h64w:=den64 n.wanted at_ (by omega) (by omega)
   cases hix:ixN tanks at_ with
   | some k =>
    rw [hix] at hrec h93
    have h93:DN 93 [.list 1 (intsN tanks),.int .i64 at_] (.int .i64 (k:Nat)):=by
     have e:(0:Int)+(k:Nat)=(k:Nat):=Int.zero_add _
     rw [← e]
     exact h93
    have hkt:=ixN_lt hix
    have hrec:(match n.wanted.testBit at_ with
     | true=>some (way.take k,w)
     | false=>match n.pickT w at_ n.pipes.length 0 with
      | none=>none
      | some (i,x,to)=>n.traceF r to (way.take k++[i]) (tanks.take k++[at_]) (w.set i x))=some (l,w'):=hrec
    refine ⟨_,mapO_cons (reify_sl rfl rfl) (mapO_cons rfl rfl),_,h93,?_⟩
    refine ⟨fun _=>?_,fun h=>absurd (of_decide_eq_false h) (by omega)⟩
    refine Or.inr (Or.inl ⟨6,[3,4,5],by kernel_rfl,?_⟩)
    refine iff' (by rw [beq_self];rfl) ⟨⟨by omega,by rw [intsN_length];omega⟩,?_⟩
    refine iff' (by rw [beq_self];rfl) ⟨⟨by omega,by rw [intsN_length];omega⟩,?_⟩
    refine ⟨⟨rfl,rfl,iff' (by rw [beq_self];rfl) ⟨⟨by omega,by rw [intsN_length];omega⟩,rfl⟩,trivial⟩,?_⟩
    refine ⟨trivial,?_⟩
    refine ⟨_,rfl,_,h64k,?_⟩
    refine ⟨fun h=>absurd h (by decide),fun _=>?_⟩
    refine ⟨trivial,iff' (by rw [beq_self];rfl) ⟨by rw [intsN_length];omega,?_,_,(show ((intsN tanks).drop 0).take k=intsN (tanks.take k) from intsN_take tanks k),_,intsN_app (tanks.take k) at_,trivial,?_⟩⟩
    ·show (k+1)*8≤mostBytes;unfold mostBytes;omega
    refine ⟨_,rfl,_,h64w,?_⟩
    refine ⟨fun q0=>?_,fun q0=>?_⟩
    ·have q0:n.wanted.testBit at_=true:=q0
     rw [q0] at hrec
     have hrec:some (way.take k,w)=some (l,w'):=hrec
     have e1:way.take k=l:=congrArg Prod.fst (Option.some.inj hrec)
     have e2:w=w':=congrArg Prod.snd (Option.some.inj hrec)
     have e3:l.length=k:=by rw [← e1,List.length_take];omega
     subst e2
     exact ⟨_,rfl,j1,j4,_,intsN way,_,_,_,p0,by rw [e3,← e1];exact intsN_take way k,by rw [e3,intsN_length];omega,rfl,by rw [e3];rfl,rfl⟩
    have q0:n.wanted.testBit at_=false:=q0
    rw [q0] at hrec
    have hrec:(match n.pickT w at_ n.pipes.length 0 with
        | none=>none
        | some (i,x,to)=>n.traceF r to (way.take k++[i]) (tanks.take k++[at_]) (w.set i x))=some (l,w'):=hrec
    refine ⟨[0,4,5,6,52,53,54],6,[],fun σ=>∃ i:Nat,i≤n.pipes.length∧n.pickT w at_ n.pipes.length 0=n.pickT w at_ (n.pipes.length - i) i ∧
     σ=⟨[(0,.loc 0 0),(4,.sl 5 g2 0 k),(5,.sl 2 (g1+1) 0 (intsN (tanks.take k++[at_])).length),(6,.int .i64 at_),(52,.list 3 (n.pipes.map Pp.enc)),(53,.int .i64 (n.pipes.map Pp.enc).length),(54,.int .i64 i)],[webB n w,.rows false 0 1 j1,.rows false (g1+1) 1 (intsN (tanks.take k++[at_])),.flat false p0.enc,.rows false 0 1 j4,.rows false g2 1 (intsN way)],.non⟩,
     fun σ=>(1000 - slotI 54 σ).toNat,rfl,⟨rfl,okB_tr⟩,⟨0,Nat.zero_le _,rfl,rfl⟩,?_⟩
    rintro σ ⟨i,hi,hpick,rfl⟩
    have hvb:∀ i,-B≤nowAt w i∧nowAt w i≤B:=hbd
    refine ⟨fun q1=>?_,fun q1=>?_⟩
    rotate_left
    ·have q1:=of_decide_eq_false q1
     rw [hpl] at q1
     have e:n.pipes.length - i=0:=by omega
     rw [e] at hpick
     have hpn:n.pickT w at_ n.pipes.length 0=none:=hpick
     rw [hpn] at hrec
     cases hrec
    have q1:=of_decide_eq_true q1
    rw [hpl] at q1
    have hi':i<n.pipes.length:=by omega
    have less:(1000 - ((i:Int)+1)).toNat<(1000 - (i:Int)).toNat:=by omega
    obtain ⟨p,hp⟩:∃ p,n.pipes[i]'hi'=p:=⟨_,rfl⟩
    have hgp:n.pipes[i]?=some p:=by rw [List.getElem?_eq_getElem hi',hp]
    have hrow:(n.pipes.map Pp.enc)[((i:Int)).toNat]?=some (p.enc):=by simp [hi',hp]
    have hpe:=h.pe p (List.mem_of_getElem? hgp)
    have hst:n.pickT w at_ (n.pipes.length - i) i=match p.takes at_ (nowAt w i) with
        | some (x,to)=>some (i,x,to)
        | none=>n.pickT w at_ (n.pipes.length - (i+1)) (i+1):=by
      rw [show n.pipes.length - i=(n.pipes.length - (i+1))+1 by omega]
      conv=>lhs;unfold NetL.pickT
      rw [hgp]
    have hvi:=hvb i
    obtain ⟨x,hx⟩:∃ x,nowAt w i=x:=⟨_,rfl⟩
    have hget:=web_get (c:=.ro n.enc) (w:=w) (i:=i) (by rw [hlen];omega)
    rw [hx] at hst hvi hget
    refine ⟨by omega,_,hrow,?_⟩
    refine ⟨fun q2=>?_,fun q2=>?_⟩
    ·have q2:((p.fr:Int)==at_)=true:=q2
     have q2:p.fr=at_:=by simp at q2;omega
     refine ⟨⟨by omega,by omega⟩,i,Nat.mul_one i,?_⟩
     refine ⟨_,hget,?_⟩
     refine ⟨fun q3=>?_,fun q3=>?_⟩
     ·have q3:x > 0:=of_decide_eq_true q3
      have htk:p.takes at_ x=some (x - 1,p.to):=by unfold Pp.takes;rw [if_pos ⟨q2,q3⟩]
      rw [htk] at hst
      have hpk:n.pickT w at_ n.pipes.length 0=some (i,x - 1,p.to):=hpick.trans hst
      rw [hpk] at hrec
      have habs:=absL_set (w:=w) (i:=i) (x:=x - 1) (by rw [hlen];omega)
      rw [hx] at habs
      have hb2:∀ j,-B≤nowAt ((w).set i (x - 1)) j∧nowAt ((w).set i (x - 1)) j≤B:=fun j=>by
       rw [nowAt_set (by rw [hlen];omega)]
       split
       ·omega
       ·exact hvb j
      refine Or.inl ⟨by kernel_rfl,?_⟩
      refine ⟨⟨by omega,by omega⟩,i,Nat.mul_one i,?_⟩
      refine ⟨_,hget,?_⟩
      refine ⟨x - 1,wrap64 (by omega) (by omega),?_⟩
      refine ⟨⟨by omega,by omega⟩,i,Nat.mul_one i,?_⟩
      refine ⟨by simp only [List.length_cons,List.length_map,List.length_nil];omega,_,web_set (by rw [hlen];omega),?_⟩
      refine Or.inr (Or.inr (Or.inl ⟨[0,1,2,4,5,3,6,7],5,[3,4],by kernel_rfl,?_⟩))
      refine ⟨trivial,iff' (by rw [beq_self];rfl) ⟨by rw [intsN_length];omega,?_,_,(show ((intsN way).drop 0).take k=intsN (way.take k) from intsN_take way k),_,intsN_app (way.take k) i,trivial,?_⟩⟩
      ·show (k+1)*8≤mostBytes;unfold mostBytes;omega
      refine ⟨⟨rfl,rfl,trivial⟩,?_⟩
      refine ⟨⟨rfl,rfl,trivial⟩,?_⟩
      refine ⟨trivial,?_⟩
      refine ⟨⟨rfl,okB_tr⟩,.inr ⟨r,p.to,g1+1,g2+1,way.take k++[i],tanks.take k++[at_],w.set i (x - 1),j1,j4,p0,by rw [List.length_set];exact hlen,hb2,by omega,by simp;omega,by simp;omega,hrec,rfl⟩,?_⟩
      show absD (.ro n.enc::(w.set i (x - 1)).map fun v=>D.int .i64 v)<absD (.ro n.enc::w.map fun v=>D.int .i64 v)
      rw [absD_web,absD_web]
      omega
     ·have q3:¬ x > 0:=of_decide_eq_false q3
      have htk:p.takes at_ x=none:=by unfold Pp.takes;rw [if_neg (fun c=>q3 c.2),if_neg (fun c=>by omega)]
      rw [htk] at hst
      refine ⟨fun q4=>?_,fun q4=>?_⟩
      ·have q4:((p.to:Int)==at_)=true:=q4
       exact absurd (by simp at q4;omega:p.fr=p.to) hpe.2.2
      refine ⟨(i:Int)+1,wrap64 (by omega) (by omega),?_⟩
      exact ⟨⟨rfl,okB_tr⟩,⟨i+1,hi',hpick.trans hst,rfl⟩,less⟩
    have q2:((p.fr:Int)==at_)=false:=q2
    have q2:¬ p.fr=at_:=by simp at q2;omega
    refine ⟨fun q4=>?_,fun q4=>?_⟩
    ·have q4:((p.to:Int)==at_)=true:=q4
     have q4:p.to=at_:=by simp at q4;omega
     refine ⟨⟨by omega,by omega⟩,i,Nat.mul_one i,?_⟩
     refine ⟨_,hget,?_⟩
     refine ⟨fun q3=>?_,fun q3=>?_⟩
     ·have q3:x<0:=of_decide_eq_true q3
      have htk:p.takes at_ x=some (x+1,p.fr):=by unfold Pp.takes;rw [if_neg (fun c=>q2 c.1),if_pos ⟨q4,q3⟩]
      rw [htk] at hst
      have hpk:n.pickT w at_ n.pipes.length 0=some (i,x+1,p.fr):=hpick.trans hst
      rw [hpk] at hrec
      have habs:=absL_set (w:=w) (i:=i) (x:=x+1) (by rw [hlen];omega)
      rw [hx] at habs
      have hb2:∀ j,-B≤nowAt ((w).set i (x+1)) j∧nowAt ((w).set i (x+1)) j≤B:=fun j=>by
       rw [nowAt_set (by rw [hlen];omega)]
       split
       ·omega
       ·exact hvb j
      refine Or.inl ⟨by kernel_rfl,?_⟩
      refine ⟨⟨by omega,by omega⟩,i,Nat.mul_one i,?_⟩
      refine ⟨_,hget,?_⟩
      refine ⟨x+1,wrap64 (by omega) (by omega),?_⟩
      refine ⟨⟨by omega,by omega⟩,i,Nat.mul_one i,?_⟩
      refine ⟨by simp only [List.length_cons,List.length_map,List.length_nil];omega,_,web_set (by rw [hlen];omega),?_⟩
      refine Or.inr (Or.inr (Or.inl ⟨[0,1,2,4,5,3,6,7],5,[3,4],by kernel_rfl,?_⟩))
      refine ⟨trivial,iff' (by rw [beq_self];rfl) ⟨by rw [intsN_length];omega,?_,_,(show ((intsN way).drop 0).take k=intsN (way.take k) from intsN_take way k),_,intsN_app (way.take k) i,trivial,?_⟩⟩
      ·show (k+1)*8≤mostBytes;unfold mostBytes;omega
      refine ⟨⟨rfl,rfl,trivial⟩,?_⟩
      refine ⟨⟨rfl,rfl,trivial⟩,?_⟩
      refine ⟨trivial,?_⟩
      refine ⟨⟨rfl,okB_tr⟩,.inr ⟨r,p.fr,g1+1,g2+1,way.take k++[i],tanks.take k++[at_],w.set i (x+1),j1,j4,p0,by rw [List.length_set];exact hlen,hb2,by omega,by simp;omega,by simp;omega,hrec,rfl⟩,?_⟩
      show absD (.ro n.enc::(w.set i (x+1)).map fun v=>D.int .i64 v)<absD (.ro n.enc::w.map fun v=>D.int .i64 v)
      rw [absD_web,absD_web]
      omega
     ·have q3:¬ x<0:=of_decide_eq_false q3
      have htk:p.takes at_ x=none:=by unfold Pp.takes;rw [if_neg (fun c=>q2 c.1),if_neg (fun c=>q3 c.2)]
      rw [htk] at hst
      refine ⟨(i:Int)+1,wrap64 (by omega) (by omega),?_⟩
      exact ⟨⟨rfl,okB_tr⟩,⟨i+1,hi',hpick.trans hst,rfl⟩,less⟩
    ·have q4:((p.to:Int)==at_)=false:=q4
     have q4:¬ p.to=at_:=by simp at q4;omega
     have htk:p.takes at_ x=none:=by unfold Pp.takes;rw [if_neg (fun c=>q2 c.1),if_neg (fun c=>q4 c.1)]
     rw [htk] at hst
     refine ⟨(i:Int)+1,wrap64 (by omega) (by omega),?_⟩
     exact ⟨⟨rfl,okB_tr⟩,⟨i+1,hi',hpick.trans hst,rfl⟩,less⟩
   | none =>
    rw [hix] at hrec h93
    have h93:DN 93 [.list 1 (intsN tanks),.int .i64 at_] (.int .i64 (-1)):=h93
    have hrec:(match n.wanted.testBit at_ with
     | true=>some (way,w)
     | false=>match n.pickT w at_ n.pipes.length 0 with
      | none=>none
      | some (i,x,to)=>n.traceF r to (way++[i]) (tanks++[at_]) (w.set i x))=some (l,w'):=hrec
    refine ⟨_,mapO_cons (reify_sl rfl rfl) (mapO_cons rfl rfl),_,h93,?_⟩
    refine ⟨fun h=>absurd h (by decide),fun _=>?_⟩
    refine ⟨_,rfl,_,h64k,?_⟩
    refine ⟨fun h=>absurd h (by decide),fun _=>?_⟩
    refine ⟨trivial,iff' (by rw [beq_self];rfl) ⟨Nat.le_of_eq (Nat.zero_add _),?_,_,old_all rfl,_,intsN_app (tanks) at_,trivial,?_⟩⟩
    ·rw [intsN_length];show (_+1)*8≤mostBytes;unfold mostBytes;omega
    refine ⟨_,rfl,_,h64w,?_⟩
    refine ⟨fun q0=>?_,fun q0=>?_⟩
    ·have q0:n.wanted.testBit at_=true:=q0
     rw [q0] at hrec
     have hrec:some (way,w)=some (l,w'):=hrec
     have e1:way=l:=congrArg Prod.fst (Option.some.inj hrec)
     have e2:w=w':=congrArg Prod.snd (Option.some.inj hrec)
     subst e2
     exact ⟨_,rfl,j1,j4,_,intsN way,_,_,_,p0,by rw [← e1,← intsN_length way,List.take_length],by rw [← e1,intsN_length];exact Nat.le_refl _,rfl,by rw [← e1,intsN_length],rfl⟩
    have q0:n.wanted.testBit at_=false:=q0
    rw [q0] at hrec
    have hrec:(match n.pickT w at_ n.pipes.length 0 with
        | none=>none
        | some (i,x,to)=>n.traceF r to (way++[i]) (tanks++[at_]) (w.set i x))=some (l,w'):=hrec
    refine ⟨[0,4,5,6,52,53,54],6,[],fun σ=>∃ i:Nat,i≤n.pipes.length∧n.pickT w at_ n.pipes.length 0=n.pickT w at_ (n.pipes.length - i) i ∧
     σ=⟨[(0,.loc 0 0),(4,.sl 5 g2 0 (intsN way).length),(5,.sl 2 (g1+1) 0 (intsN (tanks++[at_])).length),(6,.int .i64 at_),(52,.list 3 (n.pipes.map Pp.enc)),(53,.int .i64 (n.pipes.map Pp.enc).length),(54,.int .i64 i)],[webB n w,.rows false 0 1 j1,.rows false (g1+1) 1 (intsN (tanks++[at_])),.flat false p0.enc,.rows false 0 1 j4,.rows false g2 1 (intsN way)],.non⟩,
     fun σ=>(1000 - slotI 54 σ).toNat,rfl,⟨rfl,okB_tr⟩,⟨0,Nat.zero_le _,rfl,rfl⟩,?_⟩
    rintro σ ⟨i,hi,hpick,rfl⟩
    have hvb:∀ i,-B≤nowAt w i∧nowAt w i≤B:=hbd
    refine ⟨fun q1=>?_,fun q1=>?_⟩
    rotate_left
    ·have q1:=of_decide_eq_false q1
     rw [hpl] at q1
     have e:n.pipes.length - i=0:=by omega
     rw [e] at hpick
     have hpn:n.pickT w at_ n.pipes.length 0=none:=hpick
     rw [hpn] at hrec
     cases hrec
    have q1:=of_decide_eq_true q1
    rw [hpl] at q1
    have hi':i<n.pipes.length:=by omega
    have less:(1000 - ((i:Int)+1)).toNat<(1000 - (i:Int)).toNat:=by omega
    obtain ⟨p,hp⟩:∃ p,n.pipes[i]'hi'=p:=⟨_,rfl⟩
    have hgp:n.pipes[i]?=some p:=by rw [List.getElem?_eq_getElem hi',hp]
    have hrow:(n.pipes.map Pp.enc)[((i:Int)).toNat]?=some (p.enc):=by simp [hi',hp]
    have hpe:=h.pe p (List.mem_of_getElem? hgp)
    have hst:n.pickT w at_ (n.pipes.length - i) i=match p.takes at_ (nowAt w i) with
        | some (x,to)=>some (i,x,to)
        | none=>n.pickT w at_ (n.pipes.length - (i+1)) (i+1):=by
      rw [show n.pipes.length - i=(n.pipes.length - (i+1))+1 by omega]
      conv=>lhs;unfold NetL.pickT
      rw [hgp]
    have hvi:=hvb i
    obtain ⟨x,hx⟩:∃ x,nowAt w i=x:=⟨_,rfl⟩
    have hget:=web_get (c:=.ro n.enc) (w:=w) (i:=i) (by rw [hlen];omega)
    rw [hx] at hst hvi hget
    refine ⟨by omega,_,hrow,?_⟩
    refine ⟨fun q2=>?_,fun q2=>?_⟩
    ·have q2:((p.fr:Int)==at_)=true:=q2
     have q2:p.fr=at_:=by simp at q2;omega
     refine ⟨⟨by omega,by omega⟩,i,Nat.mul_one i,?_⟩
     refine ⟨_,hget,?_⟩
     refine ⟨fun q3=>?_,fun q3=>?_⟩
     ·have q3:x > 0:=of_decide_eq_true q3
      have htk:p.takes at_ x=some (x - 1,p.to):=by unfold Pp.takes;rw [if_pos ⟨q2,q3⟩]
      rw [htk] at hst
      have hpk:n.pickT w at_ n.pipes.length 0=some (i,x - 1,p.to):=hpick.trans hst
      rw [hpk] at hrec
      have habs:=absL_set (w:=w) (i:=i) (x:=x - 1) (by rw [hlen];omega)
      rw [hx] at habs
      have hb2:∀ j,-B≤nowAt ((w).set i (x - 1)) j∧nowAt ((w).set i (x - 1)) j≤B:=fun j=>by
       rw [nowAt_set (by rw [hlen];omega)]
       split
       ·omega
       ·exact hvb j
      refine Or.inl ⟨by kernel_rfl,?_⟩
      refine ⟨⟨by omega,by omega⟩,i,Nat.mul_one i,?_⟩
      refine ⟨_,hget,?_⟩
      refine ⟨x - 1,wrap64 (by omega) (by omega),?_⟩
      refine ⟨⟨by omega,by omega⟩,i,Nat.mul_one i,?_⟩
      refine ⟨by simp only [List.length_cons,List.length_map,List.length_nil];omega,_,web_set (by rw [hlen];omega),?_⟩
      refine Or.inr (Or.inr (Or.inl ⟨[0,1,2,4,5,3,6,7],5,[3,4],by kernel_rfl,?_⟩))
      refine ⟨trivial,iff' (by rw [beq_self];rfl) ⟨Nat.le_of_eq (Nat.zero_add _),?_,_,old_all rfl,_,intsN_app (way) i,trivial,?_⟩⟩
      ·rw [intsN_length];show (_+1)*8≤mostBytes;unfold mostBytes;omega
      refine ⟨⟨rfl,rfl,trivial⟩,?_⟩
      refine ⟨⟨rfl,rfl,trivial⟩,?_⟩
      refine ⟨trivial,?_⟩
      refine ⟨⟨rfl,okB_tr⟩,.inr ⟨r,p.to,g1+1,g2+1,way++[i],tanks++[at_],w.set i (x - 1),j1,j4,p0,by rw [List.length_set];exact hlen,hb2,by omega,by simp;omega,by simp;omega,hrec,rfl⟩,?_⟩
      show absD (.ro n.enc::(w.set i (x - 1)).map fun v=>D.int .i64 v)<absD (.ro n.enc::w.map fun v=>D.int .i64 v)
      rw [absD_web,absD_web]
      omega
     ·have q3:¬ x > 0:=of_decide_eq_false q3
      have htk:p.takes at_ x=none:=by unfold Pp.takes;rw [if_neg (fun c=>q3 c.2),if_neg (fun c=>by omega)]
      rw [htk] at hst
      refine ⟨fun q4=>?_,fun q4=>?_⟩
      ·have q4:((p.to:Int)==at_)=true:=q4
       exact absurd (by simp at q4;omega:p.fr=p.to) hpe.2.2
      refine ⟨(i:Int)+1,wrap64 (by omega) (by omega),?_⟩
      exact ⟨⟨rfl,okB_tr⟩,⟨i+1,hi',hpick.trans hst,rfl⟩,less⟩
    have q2:((p.fr:Int)==at_)=false:=q2
    have q2:¬ p.fr=at_:=by simp at q2;omega
    refine ⟨fun q4=>?_,fun q4=>?_⟩
    ·have q4:((p.to:Int)==at_)=true:=q4
     have q4:p.to=at_:=by simp at q4;omega
     refine ⟨⟨by omega,by omega⟩,i,Nat.mul_one i,?_⟩
     refine ⟨_,hget,?_⟩
     refine ⟨fun q3=>?_,fun q3=>?_⟩
     ·have q3:x<0:=of_decide_eq_true q3
      have htk:p.takes at_ x=some (x+1,p.fr):=by unfold Pp.takes;rw [if_neg (fun c=>q2 c.1),if_pos ⟨q4,q3⟩]
      rw [htk] at hst
      have hpk:n.pickT w at_ n.pipes.length 0=some (i,x+1,p.fr):=hpick.trans hst
      rw [hpk] at hrec
      have habs:=absL_set (w:=w) (i:=i) (x:=x+1) (by rw [hlen];omega)
      rw [hx] at habs
      have hb2:∀ j,-B≤nowAt ((w).set i (x+1)) j∧nowAt ((w).set i (x+1)) j≤B:=fun j=>by
       rw [nowAt_set (by rw [hlen];omega)]
       split
       ·omega
       ·exact hvb j
      refine Or.inl ⟨by kernel_rfl,?_⟩
      refine ⟨⟨by omega,by omega⟩,i,Nat.mul_one i,?_⟩
      refine ⟨_,hget,?_⟩
      refine ⟨x+1,wrap64 (by omega) (by omega),?_⟩
      refine ⟨⟨by omega,by omega⟩,i,Nat.mul_one i,?_⟩
      refine ⟨by simp only [List.length_cons,List.length_map,List.length_nil];omega,_,web_set (by rw [hlen];omega),?_⟩
      refine Or.inr (Or.inr (Or.inl ⟨[0,1,2,4,5,3,6,7],5,[3,4],by kernel_rfl,?_⟩))
      refine ⟨trivial,iff' (by rw [beq_self];rfl) ⟨Nat.le_of_eq (Nat.zero_add _),?_,_,old_all rfl,_,intsN_app (way) i,trivial,?_⟩⟩
      ·rw [intsN_length];show (_+1)*8≤mostBytes;unfold mostBytes;omega
      refine ⟨⟨rfl,rfl,trivial⟩,?_⟩
      refine ⟨⟨rfl,rfl,trivial⟩,?_⟩
      refine ⟨trivial,?_⟩
      refine ⟨⟨rfl,okB_tr⟩,.inr ⟨r,p.fr,g1+1,g2+1,way++[i],tanks++[at_],w.set i (x+1),j1,j4,p0,by rw [List.length_set];exact hlen,hb2,by omega,by simp;omega,by simp;omega,hrec,rfl⟩,?_⟩
      show absD (.ro n.enc::(w.set i (x+1)).map fun v=>D.int .i64 v)<absD (.ro n.enc::w.map fun v=>D.int .i64 v)
      rw [absD_web,absD_web]
      omega
     ·have q3:¬ x<0:=of_decide_eq_false q3
      have htk:p.takes at_ x=none:=by unfold Pp.takes;rw [if_neg (fun c=>q2 c.1),if_neg (fun c=>q3 c.2)]
      rw [htk] at hst
      refine ⟨(i:Int)+1,wrap64 (by omega) (by omega),?_⟩
      exact ⟨⟨rfl,okB_tr⟩,⟨i+1,hi',hpick.trans hst,rfl⟩,less⟩
    ·have q4:((p.to:Int)==at_)=false:=q4
     have q4:¬ p.to=at_:=by simp at q4;omega
     have htk:p.takes at_ x=none:=by unfold Pp.takes;rw [if_neg (fun c=>q2 c.1),if_neg (fun c=>q4 c.1)]
     rw [htk] at hst
     refine ⟨(i:Int)+1,wrap64 (by omega) (by omega),?_⟩
     exact ⟨⟨rfl,okB_tr⟩,⟨i+1,hi',hpick.trans hst,rfl⟩,less⟩

end Go.Proofs.Vent

namespace Go.Proofs.Vent
open Go.V Go.Proofs

theorem netN_bound {n:NetL} {w:List Int} {B:Int} (hb:∀ i,-B≤nowAt w i∧nowAt w i≤B) (hB:0≤B) (v:Nat):∀ k:Nat,-(2*B*k)≤n.netN w v k∧n.netN w v k≤2*B*k
 | 0=>by simp [NetL.netN]
 | k+1=>by
  have ih:=netN_bound (n:=n) hb hB v k
  have h1:=hb k
  have e:2*B*((k+1:Nat):Int)=2*B*(k:Int)+2*B:=by
   rw [Int.natCast_add,Int.mul_add];simp
  simp only [NetL.netN]
  rw [e]
  cases n.pipes[k]? with
  | none=>simp only;omega
  | some p =>
   simp only [Pp.out]
   split <;> split <;> omega

set_option maxHeartbeats 4000000 in
theorem den72 (n:NetL) (h:n.Ok) (fr:Nat) (w:List Int) (B:Int) (hB0:0≤B) (hB:B≤500) (hlen:w.length=12) (hbd:∀ i,-B≤nowAt w i∧nowAt w i≤B) :
    DN 72 [.ro [.ro n.enc],.ro [.int .i64 fr],.ro [.ro (.ro n.enc::w.map fun v=>D.int .i64 v)]] (.int .i64 (n.net w fr)):=by
  refine mk Try.func72 Try.call72 rfl rfl ?_
  have h12:=h.p
  have hpl:((n.pipes.map Pp.enc).length:Int)=n.pipes.length:=by simp
  refine ⟨[0,1,2,4,11,12,13],0,[],fun σ=>∃ k:Nat,k≤n.pipes.length ∧
   σ=⟨[(0,.ro [.ro n.enc]),(1,.ro [.int .i64 fr]),(2,.ro [.ro (.ro n.enc::w.map fun v=>D.int .i64 v)]),(4,.int .i64 (n.netN w fr k)),(11,.list 3 (n.pipes.map Pp.enc)),(12,.int .i64 (n.pipes.map Pp.enc).length),(13,.int .i64 k)],[],.non⟩,
   fun σ=>(1000 - slotI 13 σ).toNat,rfl,⟨rfl,rfl⟩,⟨0,Nat.zero_le _,rfl⟩,?_⟩
  rintro σ ⟨k,hk,rfl⟩
  refine ⟨fun h1=>?_,fun h1=>?_⟩
  rotate_left
  ·have h1:=of_decide_eq_false h1
   rw [hpl] at h1
   obtain rfl:k=n.pipes.length:=by omega
   rfl
  have h1:=of_decide_eq_true h1
  rw [hpl] at h1
  have hk':k<n.pipes.length:=by omega
  have less:(1000 - ((k:Int)+1)).toNat<(1000 - (k:Int)).toNat:=by omega
  obtain ⟨p,hp⟩:∃ p,n.pipes[k]'hk'=p:=⟨_,rfl⟩
  have hgp:n.pipes[k]?=some p:=by rw [List.getElem?_eq_getElem hk',hp]
  have hrow:(n.pipes.map Pp.enc)[((k:Int)).toNat]?=some (p.enc):=by simp [hk',hp]
  have hpe:=h.pe p (List.mem_of_getElem? hgp)
  have hbn:=netN_bound (n:=n) hbd hB0 fr k
  have hmul:2*B*(k:Int)≤12000:=by
   have:2*B*(k:Int)≤1000*12:=Int.mul_le_mul (by omega) (by omega) (by omega) (by omega)
   omega
  have hbk:=hbd k
  have hdn:=now_drop (now:=w) (i:=k) (by omega)
  have hstep:n.netN w fr (k+1)=n.netN w fr k+p.out (nowAt w k) fr:=by
   show n.netN w fr k+_=_
   rw [hgp]
  refine ⟨by omega,_,hrow,?_⟩
  refine ⟨fun h2=>?_,fun h2=>?_⟩
  ·have h2:((fr:Int)==p.fr)=true:=h2
   have h2:p.fr=fr:=by simp at h2;omega
   have ho:p.out (nowAt w k) fr=nowAt w k:=by unfold Pp.out;rw [if_pos h2,if_neg (by omega)];omega
   refine ⟨⟨by omega,by omega⟩,_,(show (w.map fun v=>D.int .i64 v).drop (k*1)=D.int .i64 (nowAt w k)::(w.map fun v=>D.int .i64 v).drop (k+1) by rw [Nat.mul_one];exact hdn),?_⟩
   refine ⟨n.netN w fr k+nowAt w k,wrap64 (by omega) (by omega),?_⟩
   refine ⟨(k:Int)+1,wrap64 (by omega) (by omega),?_⟩
   exact ⟨⟨rfl,rfl⟩,⟨k+1,hk',by rw [hstep,ho];rfl⟩,less⟩
  have h2:((fr:Int)==p.fr)=false:=h2
  have h2:¬ p.fr=fr:=by simp at h2;omega
  refine ⟨fun h3=>?_,fun h3=>?_⟩
  ·have h3:((fr:Int)==p.to)=true:=h3
   have h3:p.to=fr:=by simp at h3;omega
   have ho:p.out (nowAt w k) fr=-(nowAt w k):=by unfold Pp.out;rw [if_neg h2,if_pos h3];omega
   refine ⟨⟨by omega,by omega⟩,_,(show (w.map fun v=>D.int .i64 v).drop (k*1)=D.int .i64 (nowAt w k)::(w.map fun v=>D.int .i64 v).drop (k+1) by rw [Nat.mul_one];exact hdn),?_⟩
   refine ⟨n.netN w fr k - nowAt w k,wrap64 (by omega) (by omega),?_⟩
   refine ⟨(k:Int)+1,wrap64 (by omega) (by omega),?_⟩
   exact ⟨⟨rfl,rfl⟩,⟨k+1,hk',by rw [hstep,ho];rfl⟩,less⟩
  ·have h3:((fr:Int)==p.to)=false:=h3
   have h3:¬ p.to=fr:=by simp at h3;omega
   have ho:p.out (nowAt w k) fr=0:=by unfold Pp.out;rw [if_neg h2,if_neg h3];omega
   refine ⟨(k:Int)+1,wrap64 (by omega) (by omega),?_⟩
   exact ⟨⟨rfl,rfl⟩,⟨k+1,hk',by rw [hstep,ho,Int.add_zero];rfl⟩,less⟩

def NetL.fromF (n:NetL) (fr:Nat):Nat→List (List Nat)→List Int→Option (List (List Nat) × List Int)
 | 0,ws,w=>if n.net w fr > 0 then none else some (ws,w)
 | r+1,ws,w=>if n.net w fr > 0 then (match n.trace 7000 fr w with
  | none=>none
  | some (l,w')=>n.fromF fr r (ws++[l]) w') else some (ws,w)
theorem NetL.fromF_zero (n:NetL) (fr:Nat) (ws:List (List Nat)) (w:List Int):n.fromF fr 0 ws w=if n.net w fr > 0 then none else some (ws,w):=rfl
theorem NetL.fromF_succ (n:NetL) (fr r:Nat) (ws:List (List Nat)) (w:List Int):n.fromF fr (r+1) ws w=if n.net w fr > 0 then (match n.trace 7000 fr w with
    | none=>none
    | some (l,w')=>n.fromF fr r (ws++[l]) w') else some (ws,w):=rfl
def NetL.fromL (n:NetL):List Nat→List (List Nat)→List Int→Option (List (List Nat) × List Int)
 | [],ws,w=>some (ws,w)
 | k::r,ws,w=>match n.fromF k 100 ws w with
  | none=>none
  | some (ws',w')=>n.fromL r ws' w'
def NetL.waysF (n:NetL):Option (Option (List (List Nat))):=match n.flow with
 | none=>some none
 | some (w,m)=>if m=0 then some (some []) else match n.fromL (tanksU n.kept) [] w with
  | none=>none
  | some (ws,_)=>if ws.length=m then some (some ws) else none

end Go.Proofs.Vent

namespace Go.Proofs.Vent
open Go.V Go.Proofs

theorem NetL.flowF_inv {n:NetL} (hn:n.Ok):∀ (r m:Nat) (w w':List Int) (m':Nat),n.Inv w (m:Int)→m≤n.pipes.length→n.flowF r m w=some (w',m')→n.Inv w' (m':Int)∧m'≤n.pipes.length
 | 0,m,w,w',m',_,_,he=>by cases he
 | r+1,m,w,w',m',h,hm,he=>by
  rw [NetL.flowF_m] at he
  have hp:=NetL.push_ok hn h
  obtain ⟨⟨b,s,w1⟩,hres⟩:∃ x,n.push w=x:=⟨_,rfl⟩
  rw [hres] at he hp
  cases b with
  | true =>
   simp only at he hp
   split at he
   ·cases he
   ·exact NetL.flowF_inv hn r (m+1) w1 w' m' (by rw [Int.natCast_add];exact hp.1) (by omega) he
  | false =>
   simp only at he hp
   cases he
   rw [hp.1]
   exact ⟨h,hm⟩
theorem NetL.flow_inv {n:NetL} (hn:n.Ok) {w:List Int} {m:Nat} (h:n.flow=some (w,m)):n.Inv w (m:Int)∧m≤n.pipes.length :=
 NetL.flowF_inv hn 20 0 now0 w m n.flow0.inv (Nat.zero_le _) h

structure Bd (w:List Int) (B:Int):Prop where
 len:w.length=12
 bd:∀ i,-B≤nowAt w i∧nowAt w i≤B
theorem Bd.set {w:List Int} {B:Int} (h:Bd w B) {i:Nat} (hi:i<12) {x:Int} (h1:-B≤x) (h2:x≤B):Bd (w.set i x) B:=by
 refine ⟨by rw [List.length_set];exact h.len,fun j=>?_⟩
 rw [nowAt_set (by rw [h.len];exact hi)]
 split
 ·exact ⟨h1,h2⟩
 ·exact h.bd j

theorem NetL.pickT_some {n:NetL} {w:List Int} {at_:Nat}:∀ {c i:Nat} {k:Nat} {x:Int} {to:Nat},n.pickT w at_ c i=some (k,x,to)→∃ p,n.pipes[k]?=some p∧p.takes at_ (nowAt w k)=some (x,to)
 | 0,i,k,x,to,h=>by cases h
 | c+1,i,k,x,to,h=>by
  simp only [NetL.pickT] at h
  cases hp:n.pipes[i]? with
  | none=>rw [hp] at h;cases h
  | some p =>
   rw [hp] at h
   simp only at h
   cases ht:p.takes at_ (nowAt w i) with
   | none=>rw [ht] at h;exact NetL.pickT_some h
   | some y =>
    obtain ⟨y,t⟩:=y
    rw [ht] at h
    cases h
    exact ⟨p,hp,ht⟩
theorem NetL.pickT_bd {n:NetL} (hn:n.Ok) {w:List Int} {B:Int} (h:Bd w B) {at_ c i k to:Nat} {x:Int} (he:n.pickT w at_ c i=some (k,x,to)):Bd (w.set k x) B∧to<7:=by
 obtain ⟨p,hp,ht⟩:=NetL.pickT_some he
 have hk:k<n.pipes.length:=by
  rcases Nat.lt_or_ge k n.pipes.length with h | h
  ·exact h
  ·rw [List.getElem?_eq_none h] at hp;cases hp
 have h12:=hn.p
 have h7:=hn.t7
 have hb:=h.bd k
 have hpe:=hn.pe p (List.mem_of_getElem? hp)
 obtain ⟨h1,h2⟩:=takes_abs ht
 refine ⟨h.set (by omega) (by omega) (by omega),?_⟩
 rcases h2 with ⟨_,h3,_⟩ | ⟨_,h3,_⟩ <;> omega
theorem NetL.traceF_bd {n:NetL} (hn:n.Ok) {B:Int}:∀ (r at_:Nat) (way tanks:List Nat) (w w':List Int) (l:List Nat),Bd w B→n.traceF r at_ way tanks w=some (l,w')→Bd w' B
 | 0,_,_,_,_,_,_,_,h=>by cases h
 | r+1,at_,way,tanks,w,w',l,hb,h=>by
  unfold NetL.traceF at h
  split at h
  ·cases h
  ·split at h
   ·cases h;exact hb
   ·split at h
    ·cases h
    ·rename_i i x to hp
     exact NetL.traceF_bd hn r to _ _ _ w' l (NetL.pickT_bd hn hb hp).1 h
theorem NetL.trace_bd {n:NetL} (hn:n.Ok) {B:Int} {r from_:Nat} {w w':List Int} {l:List Nat} (hb:Bd w B) (h:n.trace r from_ w=some (l,w')):Bd w' B:=by
 unfold NetL.trace at h
 split at h
 ·cases h
 ·split at h
  ·cases h
  ·split at h
   ·cases h
   ·rename_i i x to hp
    exact NetL.traceF_bd hn r to _ _ _ w' l (NetL.pickT_bd hn hb hp).1 h

def Nt.waysN (n:Nt) (wanted:List Int):List (List Nat) × Int :=
 if n.lookE [] wanted true=0 then (match (n.look [] wanted).waysF with
  | some (some ws)=>(ws,0)
  | _=>([],9)) else ([],n.lookE [] wanted true)
def rowsW (ws:List (List Nat)):List (List D):=ws.map fun l=>[.list 1 (intsN l)]
def waysD (x:List (List Nat) × Int):D:=.tup [.list 1 (rowsW x.1),.int .i64 x.2]
theorem rowsW_app (ws:List (List Nat)) (l:List Nat):rowsW ws++[[.list 1 (intsN l)]]=rowsW (ws++[l]):=by simp [rowsW]
theorem rowsW_len (ws:List (List Nat)):(rowsW ws).length=ws.length:=by simp [rowsW]

def slL (t:Nat) (σ:St):Nat:=match Go.V.look σ.tmps t with | some (.sl _ _ _ len)=>len | _=>0

abbrev cloF2:D:=.clo (.func 101) [] [.loc 3 0,.loc 4 0,.loc 5 0]
theorem put_fl {b0 b1:Box} {n:NetL} {w:List Int} {s:Nat}:putSel [b0,b1] [] ((pushBs n w s).map (Box.ren (selF [] 2)))=[b0,b1,webB n w,.flat false [.loc 2 0],.flat false [.int .u64 ((s:Nat):Int)],.flat false [cloF2]]:=by
 show b0::b1::((webB n w).ren (selF [] 2))::_=_
 rw [ren_web]
 rfl

abbrev wayBs (e:List D) (n:NetL) (w:List Int) (s:Nat) (g:Nat) (ws:List (List Nat)):List Box :=
 [.flat false e,.flat false [.ro n.enc],webB n w,.flat false [.loc 2 0],.flat false [.int .u64 ((s:Nat):Int)],.flat false [cloF2],.flat false [.loc 2 0],.rows false g 1 (rowsW ws)]
theorem okB_ways {e:List D} {n:NetL} {w:List Int} {s g:Nat} {ws:List (List Nat)} (he:okAll 8 e=true):okBoxes 8 (wayBs e n w s g ws)=true:=okB_cons he (okB_cons rfl (okB_cons (okA_web 8 n w) rfl))
theorem okB_ways9 {e:List D} {n:NetL} {w:List Int} {s g:Nat} {ws:List (List Nat)} {k:Int} (he:okAll 9 e=true):okBoxes 9 (wayBs e n w s g ws++[.flat false [.int .i64 k]])=true:=okB_cons he (okB_cons rfl (okB_cons (okA_web 9 n w) rfl))
theorem okB_ways7 {e:List D} {n:NetL} {w:List Int} {s:Nat} (he:okAll 7 e=true):okBoxes 7 [.flat false e,.flat false [.ro n.enc],webB n w,.flat false [.loc 2 0],.flat false [.int .u64 ((s:Nat):Int)],.flat false [cloF2],.flat false [.loc 2 0]]=true:=okB_cons he (okB_cons rfl (okB_cons (okA_web 7 n w) rfl))
theorem get_w2 {e:List D} {n:NetL} {w:List Int} {s g:Nat} {ws:List (List Nat)} {k:Int}:[webB n w].map (fun b=>some (b.ren (selF [2] 9)))=getSel (wayBs e n w s g ws++[.flat false [.int .i64 k]]) [2]:=by
 show some ((webB n w).ren (selF [2] 9))::_=_
 rw [ren_web]
 rfl
theorem put_w2 {e:List D} {n:NetL} {w w':List Int} {s g g1 g2:Nat} {ws:List (List Nat)} {k:Int} {j1 j4 t rs j6:List (List D)} {p:Pp} :
    putSel (wayBs e n w s g ws++[.flat false [.int .i64 k]]) [2] ([webB n w',.rows false 0 1 j1,.rows false g1 1 t,.flat false p.enc,.rows false 0 1 j4,.rows false g2 1 rs,.rows false 0 1 j6].map (Box.ren (selF [2] 9))) =
    wayBs e n w' s g ws++[.flat false [.int .i64 k],.rows false 0 1 j1,.rows false g1 1 t,.flat false p.enc,.rows false 0 1 j4,.rows false g2 1 rs,.rows false 0 1 j6]:=by
  show putSel _ _ ((webB n w').ren (selF [2] 9)::_)=_
  rw [ren_web]
  rfl


theorem reifyP_sl {bs:List Box} {i g len sz:Nat} {fz:Bool} {rs l:List (List D)} (h:bs[i]?=some (.rows fz g sz rs)) (hl:rs.take len=l):reifyP bs [(0,.sl i g 0 len)]=some [(0,.list sz l)]:=by
 subst hl
 simp only [reifyP,fuel,reify,h,beq_self,List.drop_zero]

set_option maxHeartbeats 40000000 in
theorem den28 (n:Nt) (wanted:List Int) (hwl:wanted.length<9223372036854775808) (hk:n.lookE [] wanted true=0→(n.look [] wanted).waysF≠none):DN 28 [.agg n.enc,.list 1 (wanted.map encI)] (waysD (n.waysN wanted)):=by
 have h55:=den55w0 n wanted hwl
 by_cases he:n.lookE [] wanted true=0
 rotate_left
 ·rw [Nt.lookD_bad he] at h55
  have hR:n.waysN wanted=([],n.lookE [] wanted true):=by unfold Nt.waysN;rw [if_neg he]
  rw [hR]
  obtain ⟨e,hee⟩:∃ e,n.lookE [] wanted true=e:=⟨_,rfl⟩
  rw [hee] at h55 he ⊢
  refine mkW Try.func28 Try.call28 rfl rfl ?_
  refine ⟨_,rfl,_,h55,?_⟩
  refine ⟨fun _=>?_,fun h=>?_⟩
  ·exact ⟨_,rfl,.tcons (.nil 0 1) (.refl _)⟩
  ·have h:(e != 0)=false:=h
   exact absurd (by simpa using h) he
 rw [Nt.lookD_ok he] at h55
 have hok:=Nt.look_okw he
 replace hk:=hk he
 obtain ⟨m,hm⟩:∃ m,n.look [] wanted=m:=⟨_,rfl⟩
 have hR:n.waysN wanted=(match m.waysF with | some (some ws)=>(ws,0) | _=>([],9)):=by unfold Nt.waysN;rw [if_pos he,hm]
 rw [hm] at h55 hok hk
 have h7:=hok.t7
 have h12:=hok.p
 have hk7:=hok.k
 refine mkW Try.func28 Try.call28 rfl rfl ?_
 refine ⟨_,rfl,_,h55,?_⟩
 refine ⟨fun h=>absurd h (by decide),fun _=>?_⟩
 have h71:=denY71 m hok
 cases hfl:m.flow with
 | none =>
  have hw:m.waysF=some none:=by unfold NetL.waysF;rw [hfl]
  rw [hw] at hR
  rw [hR]
  refine Or.inr ⟨[],[.ro m.enc],[],_,rfl,rfl,rfl,rfl,h71,⟨_,_,_,now0,0,rfl,rfl,by rw [hfl]⟩,?_⟩
  rintro _ _ _ ⟨w,s,rfl,rfl,hq⟩
  rw [hfl] at hq
  subst hq
  refine ⟨_,put_fl,?_⟩
  refine ⟨fun _=>?_,fun h=>absurd h (by decide)⟩
  exact ⟨_,rfl,.tcons (.nil 0 1) (.refl _)⟩
 | some x =>
 obtain ⟨w0,mm⟩:=x
 obtain ⟨hinv,hmm⟩:=NetL.flow_inv hok hfl
 have hbd0:Bd w0 500:=⟨hinv.len,fun i=>by have:=hinv.bnd i;omega⟩
 refine Or.inr ⟨[],[.ro m.enc],[],_,rfl,rfl,rfl,rfl,h71,⟨_,_,_,w0,0,rfl,rfl,by rw [hfl];exact ⟨rfl,rfl⟩⟩,?_⟩
 rintro _ _ _ ⟨w,s,rfl,rfl,hq⟩
 rw [hfl] at hq
 obtain ⟨rfl,rfl⟩:=hq
 refine ⟨_,put_fl,?_⟩
 refine ⟨fun h=>absurd (of_decide_eq_true h) (by omega),fun _=>?_⟩
 -- what is asked for
 obtain ⟨wsF,hws⟩:∃ wsF,m.waysF=some (some wsF):=by
  cases hw:m.waysF with
  | none=>exact absurd hw hk
  | some o =>
   cases o with
   | some l=>exact ⟨l,rfl⟩
   | none =>
    unfold NetL.waysF at hw
    rw [hfl] at hw
    simp only at hw
    split at hw
    ·cases hw
    ·split at hw
     ·cases hw
     ·split at hw <;> cases hw
 rw [hws] at hR
 rw [hR]
 have hlist:(mm=0∧wsF=[])∨(0<mm∧∃ wF,m.fromL (tanksU m.kept) [] w=some (wsF,wF)∧wsF.length=mm):=by
  unfold NetL.waysF at hws
  rw [hfl] at hws
  simp only at hws
  split at hws
  ·rename_i h0;cases hws;exact .inl ⟨h0,rfl⟩
  ·rename_i h0
   split at hws
   ·cases hws
   ·rename_i ws wF hfrom
    split at hws
    ·rename_i hl;cases hws;exact .inr ⟨by omega,wF,hfrom,hl⟩
    ·cases hws
 refine ⟨[4,6,7,8],7,[(.slot 4,1)],fun σ=>∃ (g:Nat) (ws:List (List Nat)) (w1:List Int),(ws=[]∧w1=w∨ws=wsF) ∧
  σ=⟨[(4,.sl 7 g 0 (rowsW ws).length),(6,.loc 1 0),(7,.loc 6 0),(8,.int .i64 (mm:Nat))],wayBs n.enc m w1 s g ws,.non⟩,
  fun σ=>mm - slL 4 σ,rfl,⟨rfl,okB_ways7 rfl⟩,⟨0,[],w,.inl ⟨rfl,rfl⟩,rfl⟩,?_⟩
 rintro σ ⟨g,ws,w1,hcase,rfl⟩
 refine ⟨fun q1=>?_,fun q1=>?_⟩
 rotate_left
 ·have q1:¬ ((rowsW ws).length:Int)<(mm:Int):=of_decide_eq_false q1
  rw [rowsW_len] at q1
  have e:ws=wsF:=by
   rcases hcase with ⟨rfl,_⟩ | e
   ·rcases hlist with ⟨_,h2⟩ | ⟨h1,_⟩
    ·exact h2.symm
    ·simp at q1;omega
   ·exact e
  subst e
  exact ⟨_,reify_tup (mapO_cons (reify_sl rfl rfl) (mapO_cons rfl rfl)),.refl _⟩
 have q1:((rowsW ws).length:Int)<(mm:Int):=of_decide_eq_true q1
 rw [rowsW_len] at q1
 obtain ⟨h0,wF,hfrom,hlF⟩:0<mm∧∃ wF,m.fromL (tanksU m.kept) [] w=some (wsF,wF)∧wsF.length=mm:=by
  rcases hlist with ⟨h1,_⟩ | h
  ·omega
  ·exact h
 obtain ⟨rfl,rfl⟩:ws=[]∧w1=w:=by
  rcases hcase with h | rfl
  ·exact h
  ·omega
 have h58:=den58 m.kept (by omega)
 rw [tanks_eq] at h58
 obtain ⟨ks,hks⟩:∃ ks,tanksU m.kept=ks:=⟨_,rfl⟩
 have hks7:∀ v∈ks,v<7:=fun v hv=>(mem_tanksU.1 (hks ▸ hv)).1
 have hksl:ks.length≤7:=by
  rw [← hks]
  unfold tanksU
  exact Nat.le_trans (List.length_filter_le _ _) (by simp)
 rw [hks] at h58 hfrom
 have hkl:(((ks.map fun i=>((i:Nat):Int)).map encI).length:Int)=ks.length:=by simp
 refine ⟨_,rfl,_,h58,?_⟩
 refine ⟨[4,6,7,8,36,37,38],8,[],fun σ=>∃ (i g:Nat) (ws:List (List Nat)) (w2:List Int),i≤ks.length∧ws.length≤100*i∧Bd w2 500∧m.fromL ks [] w1=m.fromL (ks.drop i) ws w2 ∧
  σ=⟨[(4,.sl 7 g 0 (rowsW ws).length),(6,.loc 1 0),(7,.loc 6 0),(8,.int .i64 (mm:Nat)),(36,.list 1 ((ks.map fun i=>((i:Nat):Int)).map encI)),(37,.int .i64 ((ks.map fun i=>((i:Nat):Int)).map encI).length),(38,.int .i64 i)],wayBs n.enc m w2 s g ws,.non⟩,
  fun σ=>(1000 - slotI 38 σ).toNat,rfl,⟨rfl,okB_ways rfl⟩,⟨0,g,[],w1,Nat.zero_le _,Nat.zero_le _,hbd0,rfl,rfl⟩,?_⟩
 rintro σ ⟨i,g,ws,w2,hi,hwl2,hbd2,hrec,rfl⟩
 refine ⟨fun q2=>?_,fun q2=>?_⟩
 rotate_left
 ·have q2:=of_decide_eq_false q2
  rw [hkl] at q2
  rw [List.drop_of_length_le (by omega)] at hrec
  rw [hfrom] at hrec
  cases hrec
  refine ⟨⟨rfl,okB_ways rfl⟩,⟨g,wsF,wF,.inr rfl,rfl⟩,?_⟩
  show mm - (rowsW wsF).length<mm - (rowsW []).length
  rw [rowsW_len,rowsW_len,hlF]
  simp
  omega
 have q2:=of_decide_eq_true q2
 rw [hkl] at q2
 have hi':i<ks.length:=by omega
 obtain ⟨k,hkk⟩:∃ k,ks[i]'hi'=k:=⟨_,rfl⟩
 have hk7':k<7:=hkk ▸ hks7 _ (List.getElem_mem hi')
 have hrow:((ks.map fun i=>((i:Nat):Int)).map encI)[((i:Int)).toNat]?=some [.int .i64 (k:Int)]:=by simp [hi',hkk,encI]
 have hdrop:ks.drop i=k::ks.drop (i+1):=by rw [List.drop_eq_getElem_cons hi',hkk]
 rw [hdrop] at hrec
 simp only [NetL.fromL] at hrec
 refine ⟨by omega,_,hrow,?_⟩
 refine ⟨[4,6,7,8,10,11,36,37,38],9,[],fun σ=>∃ (r g:Nat) (ws':List (List Nat)) (w3:List Int),r≤100∧ws'.length+r≤100*(i+1)∧Bd w3 500∧m.fromF k 100 ws w2=m.fromF k r ws' w3 ∧
  σ=⟨[(4,.sl 7 g 0 (rowsW ws').length),(6,.loc 1 0),(7,.loc 6 0),(8,.int .i64 (mm:Nat)),(10,.loc 8 0),(11,.clo (.func 72) [] [.loc 1 0,.loc 8 0,.loc 6 0]),(36,.list 1 ((ks.map fun i=>((i:Nat):Int)).map encI)),(37,.int .i64 ((ks.map fun i=>((i:Nat):Int)).map encI).length),(38,.int .i64 i)],wayBs n.enc m w3 s g ws'++[.flat false [.int .i64 (k:Int)]],.non⟩,
  fun σ=>1000 - slL 4 σ,rfl,⟨rfl,okB_ways9 rfl⟩,⟨100,g,ws,w2,Nat.le_refl _,by omega,hbd2,rfl,rfl⟩,?_⟩
 rintro σ ⟨r,g,ws',w3,hr,hwl3,hbd3,hrec2,rfl⟩
 have h72:=den72 m hok k w3 500 (by decide) (by decide) hbd3.len hbd3.bd
 refine ⟨_,mapO_cons (reify_loc rfl (mapO_cons rfl rfl)) (mapO_cons (reify_loc rfl (mapO_cons rfl rfl)) (mapO_cons (reify_loc rfl (mapO_cons (reify_loc rfl (mapO_cons rfl (mapO_ints w3))) rfl)) rfl)),_,h72,?_⟩
 refine ⟨fun q3=>?_,fun q3=>?_⟩
 rotate_left
 ·have q3:¬ m.net w3 k > 0:=of_decide_eq_false q3
  have hst:m.fromF k r ws' w3=some (ws',w3):=by
   cases r with
   | zero=>simp only [NetL.fromF];rw [if_neg q3]
   | succ r=>simp only [NetL.fromF];rw [if_neg q3]
  rw [hrec2,hst] at hrec
  refine ⟨(i:Int)+1,wrap64 (by omega) (by omega),?_⟩
  refine ⟨⟨rfl,okB_ways rfl⟩,⟨i+1,g,ws',w3,hi',by omega,hbd3,hrec,rfl⟩,?_⟩
  show (1000 - ((i:Int)+1)).toNat<(1000 - (i:Int)).toNat
  omega
 have q3:m.net w3 k > 0:=of_decide_eq_true q3
 cases r with
 | zero =>
  rw [NetL.fromF_zero m k ws' w3,if_pos q3] at hrec2
  rw [hrec2] at hrec
  rw [hfrom] at hrec
  cases hrec
 | succ r =>
 rw [NetL.fromF_succ m k r ws' w3,if_pos q3] at hrec2
 cases htr:m.trace 7000 k w3 with
 | none =>
  rw [htr] at hrec2
  rw [hrec2] at hrec
  rw [hfrom] at hrec
  cases hrec
 | some x =>
 obtain ⟨l,w4⟩:=x
 rw [htr] at hrec2
 simp only at hrec2
 have hbd4:=NetL.trace_bd hok hbd3 htr
 have h73:=denY73 m hok 7000 k w3 500 (by decide) hbd3.len hbd3.bd hk7' l w4 htr
 refine Or.inr ⟨[2],[.loc 0 0,.int .i64 k],[webB m w3],_,rfl,rfl,rfl,get_w2,h73,⟨_,_,_,[],[],[],intsN l,[],0,0,⟨0,0,false⟩,by rw [← intsN_length,List.take_length],by rw [intsN_length];exact Nat.le_refl _,rfl,rfl,rfl⟩,?_⟩
 rintro _ _ _ ⟨j1,j4,t,rs,j6,g1,g2,p,hrs,hrl,rfl,rfl,rfl⟩
 refine ⟨_,put_w2,?_⟩
 refine ⟨_,reifyP_sl rfl hrs,_,rfl,?_⟩
 refine ⟨trivial,iff' (by rw [beq_self];rfl) ⟨Nat.le_of_eq (Nat.zero_add _),?_,_,old_all rfl,_,rowsW_app ws' l,trivial,?_⟩⟩
 ·rw [rowsW_len];show (_+1)*24≤mostBytes;unfold mostBytes;omega
 refine ⟨⟨rfl,okB_ways9 rfl⟩,⟨r,g+1,ws'++[l],w4,by omega,by simp;omega,hbd4,hrec2,rfl⟩,?_⟩
 show 1000 - (rowsW (ws'++[l])).length<1000 - (rowsW ws').length
 rw [rowsW_len,rowsW_len,List.length_append,List.length_singleton]
 omega

end Go.Proofs.Vent

namespace Go.Proofs.Vent
open Go.V Go.Proofs

theorem vs_get {a:List Vs} {i:Nat} (h:i<a.length):(a.map Vs.enc)[((i:Int)).toNat]?=some [.int .i64 a[i].tank,.bool a[i].off]:=by simp [h,Vs.enc]

set_option maxHeartbeats 2000000 in
theorem den33 (a b:List Vs) (ha:a.length<9223372036854775808):DN 33 [.list 2 (a.map Vs.enc),.list 2 (b.map Vs.enc)] (.bool (eqVs a b)):=by
 refine mk Try.func33 Try.call33 rfl rfl ?_
 have hal:((a.map Vs.enc).length:Int)=a.length:=by simp
 have hbl:((b.map Vs.enc).length:Int)=b.length:=by simp
 refine ⟨[0,1,5,6],0,[],fun σ=>∃ (i:Nat) (e:Bool),i≤a.length∧(e=true→a.length=b.length∧eqVs a b=eqVs (a.drop i) (b.drop i))∧(e=false→eqVs a b=false) ∧
  σ=⟨[(0,.list 2 (a.map Vs.enc)),(1,.list 2 (b.map Vs.enc)),(5,.bool e),(6,.int .i64 i)],[],.non⟩,
  fun σ=>((a.length:Int) - slotI 6 σ).toNat,rfl,⟨rfl,rfl⟩,⟨0,decide (a.length=b.length),Nat.zero_le _,fun h=>⟨of_decide_eq_true h,rfl⟩,fun h=>eqVs_len (of_decide_eq_false h),?_⟩,?_⟩
 · have:((((a.map Vs.enc).length:Nat):Int)==((b.map Vs.enc).length:Nat))=decide (a.length=b.length):=by
     rw [hal,hbl]
     apply Bool.eq_iff_iff.2
     simp
     omega
   show (⟨[(0,_),(1,_),(5,D.bool ((((a.map Vs.enc).length:Nat):Int)==((b.map Vs.enc).length:Nat))),(6,_)],_,_⟩:St)=_
   rw [this]
   rfl
 rintro σ ⟨i,e,hi,he1,he2,rfl⟩
 have fin:∀ x:Bool,eqVs a b=x→some (D.bool x)=some (D.bool (eqVs a b)):=fun x h=>by rw [h]
 refine ⟨fun h1=>?_,fun h1=>?_⟩
 ·have h1:=of_decide_eq_true h1
  rw [hal] at h1
  have hi':i<a.length:=by omega
  have less:((a.length:Int) - ((i:Int)+1)).toNat<((a.length:Int) - (i:Int)).toNat:=by omega
  refine ⟨fun h2=>?_,fun h2=>?_⟩
  ·have h2:e=true:=h2
   obtain ⟨hl,hr⟩:=he1 h2
   have hstep:=eqVs_step hl hi'
   refine Or.inl ⟨by kernel_rfl,?_⟩
   refine ⟨by omega,_,vs_get hi',?_⟩
   refine ⟨by omega,_,vs_get (hl ▸ hi'),?_⟩
   refine ⟨(i:Int)+1,wrap64 (by omega) (by omega),?_⟩
   refine ⟨⟨rfl,rfl⟩,⟨i+1,a[i].tank==(b[i]'(hl ▸ hi')).tank && (a[i].off==(b[i]'(hl ▸ hi')).off && true),hi',fun h3=>⟨hl,?_⟩,fun h3=>?_,rfl⟩,less⟩
   ·rw [Bool.and_true] at h3
    rw [hr,hstep,h3,Bool.true_and]
   ·rw [Bool.and_true] at h3
    rw [hr,hstep,h3,Bool.false_and]
  ·have h2:e=false:=h2
   subst h2
   exact fin false (he2 rfl)
 ·have h1:=of_decide_eq_false h1
  rw [hal] at h1
  cases e with
  | false=>exact fin false (he2 rfl)
  | true =>
   obtain ⟨hl,hr⟩:=he1 rfl
   rw [List.drop_of_length_le (by omega),List.drop_of_length_le (by omega)] at hr
   exact fin true hr

theorem den22 (a b c d:List Int) (ha:a.length<9223372036854775808) (hb:b.length<9223372036854775808) :
    DN 22 [.agg [.list 1 (a.map encI),.list 1 (b.map encI)],.agg [.list 1 (c.map encI),.list 1 (d.map encI)]] (.bool (eqInts a c && eqInts b d)):=by
  refine mk Try.func22 Try.call22 rfl rfl ?_
  refine ⟨_,rfl,_,den19 a c ha,?_⟩
  obtain ⟨e,he⟩:∃ e,eqInts a c=e:=⟨_,rfl⟩
  rw [he]
  cases e with
  | true =>
   refine ⟨fun _=>?_,fun h=>absurd h (by decide)⟩
   refine ⟨_,rfl,_,den19 b d hb,?_⟩
   rfl
  | false =>
   refine ⟨fun h=>absurd h (by decide),fun _=>?_⟩
   rfl

theorem den37 (v:Int):DN 37 [.int .i64 v] (.agg [.int .i64 v,.bool false]):=by
 refine mk Try.func37 Try.call37 rfl rfl ?_
 show some _=some _
 rfl
theorem den38 (v:Int):DN 38 [.int .i64 v] (.agg [.int .i64 v,.bool true]):=by
 refine mk Try.func38 Try.call38 rfl rfl ?_
 show some _=some _
 rfl

def vsL (l:List (Int × Bool)):List Vs:=l.map fun x=>⟨x.1,x.2⟩
def long:List Vs:=vsL [(1,false),(2,false),(1,true),(3,false),(4,false),(2,true),(3,true),(4,true)]

theorem den62:DN 62 [] (.list 2 (long.map Vs.enc)):=by
 refine mkW Try.func62 Try.call62 rfl rfl ?_
 refine ⟨_,rfl,_,den37 1,?_⟩
 refine ⟨_,rfl,_,den37 2,?_⟩
 refine ⟨_,rfl,_,den38 1,?_⟩
 refine ⟨_,rfl,_,den37 3,?_⟩
 refine ⟨_,rfl,_,den37 4,?_⟩
 refine ⟨_,rfl,_,den38 2,?_⟩
 refine ⟨_,rfl,_,den38 3,?_⟩
 refine ⟨_,rfl,_,den38 4,?_⟩
 exact ⟨_,rfl,.rows 2 _⟩

def nameX (c:UInt8):ByteArray:=⟨#[c]⟩
def exNt (b:Bool):Nt:=⟨[⟨nameX 97,true⟩,⟨nameX 98,false⟩,⟨nameX 99,false⟩,⟨nameX 100,false⟩,⟨nameX 101,false⟩],[⟨0,1,b⟩,⟨1,2,false⟩,⟨0,2,false⟩,⟨2,3,false⟩,⟨3,4,false⟩,⟨2,4,false⟩]⟩
def netD (b:Bool):D:=.agg [.list 2 [[.str (nameX 97),.tt],[.str (nameX 98),.ff],[.str (nameX 99),.ff],[.str (nameX 100),.ff],[.str (nameX 101),.ff]],
 .list 3 [[.int .i64 0,.int .i64 1,.bool b],[.int .i64 1,.int .i64 2,.ff],[.int .i64 0,.int .i64 2,.ff],[.int .i64 2,.int .i64 3,.ff],[.int .i64 3,.int .i64 4,.ff],[.int .i64 2,.int .i64 4,.ff]]]
theorem wk_rows {sz:Nat} {rows rows':List (List D)} (h:rows.map (·.map normB)=rows'):WkA (.list sz rows) (.list sz rows'):=by subst h;exact WkA.of (.rows sz rows)
theorem netD_wk (b:Bool):WkA (netD b) (.agg (exNt b).enc):=WkA.agg (WkL.cons (wk_rows rfl) (WkL.cons (wk_rows rfl) .nil))
theorem den36 (b:Bool):DN 36 [.bool b] (netD b):=by
 refine mk Try.func36 Try.call36 rfl rfl ?_
 show some _=some _
 rfl

end Go.Proofs.Vent
