/- The document's spread: the greatest closed set; The document's Stepped and After. No condition. -/
import Derived.Test.YtfdflbdnjimfaaaPackTI
import Derived.Test.YtfdflbdnjimfaaaPackTH
import Derived.Test.YtfdflbdnjimfaaaPackTC

namespace Go.Proofs.Vent
open Go.V Go.Proofs

theorem reify_agg {bs:List Box} {n:Nat} {ds es:List D} (h:mapO (reify bs n) ds=some es):reify bs (n+1) (.agg ds)=some (.agg es):=by simp only [reify,h]

def cellF (c f i:Nat):D:=match c.testBit i with | true=>.ff | false=>.bool (f.testBit i)
def bitsC (c f:Nat):List D:=(List.range 7).map (cellF c f)
def stC (c f b:Nat):List D:=bitsC c f++bitsD b
def stA (f b:Nat):List D:=bitsD f++bitsD b
theorem bitsC_len (c f:Nat):(bitsC c f).length=7:=rfl
theorem bitsD_len (f:Nat):(bitsD f).length=7:=rfl
theorem stC_len (c f b:Nat):(stC c f b).length=14:=rfl
theorem stC_get {c f b i:Nat} (h:i<7):(stC c f b)[0+i]?=some (cellF c f i):=by
 rw [Nat.zero_add]
 unfold stC
 rw [List.getElem?_append_left (by rw [bitsC_len];exact h)]
 simp [bitsC,h]
theorem stC_getB {c f b i:Nat} (h:i<7):(stC c f b)[7+i]?=some (.bool (b.testBit i)):=by
 unfold stC
 rw [List.getElem?_append_right (by rw [bitsC_len];omega),bitsC_len,show 7+i - 7=i by omega]
 simp [bitsD,h]
theorem stC_ff {c f b i:Nat} (h:i<7) (hc:c.testBit i=true):(stC c f b)[0+i]?=some .ff:=by rw [stC_get h];unfold cellF;rw [hc]
theorem stC_bl {c f b i:Nat} {v:Bool} (h:i<7) (hc:c.testBit i=false) (hf:f.testBit i=v):(stC c f b)[0+i]?=some (.bool v):=by rw [stC_get h];unfold cellF;rw [hc,hf]
theorem stC_getV {c f b i:Nat} {v:Bool} (h:i<7) (hb:b.testBit i=v):(stC c f b)[7+i]?=some (.bool v):=by rw [stC_getB h,hb]
theorem stC_set {c f b i:Nat} (h:i<7):splice (stC c f b) (0+i) [.ff]=stC (c ||| 2^i) f b:=by
 rw [Nat.zero_add,splice_set (by rw [stC_len];omega)]
 unfold stC
 rw [List.set_append_left (h:=by rw [bitsC_len];exact h)]
 congr 1
 apply List.ext_getElem?
 intro j
 rw [List.getElem?_set]
 simp only [bitsC,List.getElem?_map,List.length_map,List.length_range]
 by_cases e:i=j
 ·subst e
  rw [if_pos rfl,if_pos h]
  simp [h,cellF,Nat.testBit_or]
 ·rw [if_neg e]
  by_cases hj:j<7
  ·simp only [List.getElem?_range hj,Option.map_some,cellF,Nat.testBit_or,pow_bit]
   rw [show decide (j=i)=false from decide_eq_false (fun h=>e h.symm),Bool.or_false]
  ·simp [hj]
theorem stC_zero (f b:Nat):stC 0 f b=stA f b:=by
 unfold stC stA bitsC bitsD
 congr 1
theorem okAll_st (nb c f b:Nat):okAll nb (stC c f b)=true:=by
 have h:∀ l:List Nat,okAll nb (l.map (cellF c f)++bitsD b)=true:=by
  intro l
  induction l with
  | nil=>rfl
  | cons i l ih =>
   show (match okAt nb (cellF c f i) with | true=>okAll nb (l.map (cellF c f)++bitsD b) | false=>false)=true
   rw [ih]
   unfold cellF
   cases c.testBit i <;> rfl
 exact h _
theorem reify_cell {bs:List Box} {m c f F i:Nat} (h:F.testBit i=(f.testBit i && !(c.testBit i))):reify bs (m+1) (cellF c f i)=some (.bool (F.testBit i)):=by
 unfold cellF
 rw [h]
 cases c.testBit i with
 | true=>rw [Bool.not_true,Bool.and_false];rfl
 | false=>rw [Bool.not_false,Bool.and_true];rfl
theorem mapO_stC {bs:List Box} {m c f b F:Nat} (h:∀ i,F.testBit i=(f.testBit i && !(c.testBit i))):mapO (reify bs (m+1)) (stC c f b)=some (stA F b):=by
 have h1:∀ (l:List Nat),mapO (reify bs (m+1)) (l.map (cellF c f)++bitsD b)=some (l.map (fun i=>D.bool (F.testBit i))++bitsD b):=by
  intro l
  induction l with
  | nil=>rfl
  | cons i l ih=>exact mapO_cons (reify_cell (h i)) ih
 exact h1 _
def notFF:List D→Nat
 | []=>0
 | .ff::r=>notFF r
 | _::r=>notFF r+1
theorem notFF_cons (d:D) (r:List D):notFF (d::r)=notFF [d]+notFF r:=by
 cases d <;> simp [notFF] <;> omega
theorem notFF_app:∀ (a b:List D),notFF (a++b)=notFF a+notFF b
 | [],b=>by simp [notFF]
 | d::a,b=>by rw [List.cons_append,notFF_cons,notFF_cons d a,notFF_app a b];omega
theorem notFF_bits:∀ (m c f:Nat),notFF ((List.range m).map (cellF c f))=unsN m c
 | 0,c,f=>rfl
 | m+1,c,f=>by
  rw [List.range_succ,List.map_append,notFF_app,notFF_bits m c f]
  simp only [unsN,List.map_singleton]
  unfold cellF
  cases c.testBit m <;> simp [notFF]
theorem notFF_st (c f b:Nat):notFF (stC c f b)=unsN 7 c+7:=by
 unfold stC
 rw [notFF_app]
 have h1:=notFF_bits 7 c f
 have h2:notFF (bitsD b)=7:=rfl
 unfold bitsC
 omega
def muS (σ:St):Nat:=(match σ.boxes[(1:Nat)]? with | some (Box.flat _ cs)=>2*notFF cs | _=>0)+(match Go.V.look σ.tmps 7 with | some .tt=>1 | _=>0)

def ShutN (n:Nt) (bl:List Int) (b X:Nat):Prop:=∀ i p,n.pipes[i]?=some p→hasI bl (i:Nat)=false →
 (X.testBit p.to.toNat=true→b.testBit p.to.toNat=false→X.testBit p.fr.toNat=true)∧(X.testBit p.fr.toNat=true→b.testBit p.fr.toNat=false→X.testBit p.to.toNat=true)
structure Sp (n:Nt) (bl:List Int) (f b g:Nat):Prop where
 sub:Sub g f
 shut:ShutN n bl b g
 most:∀ X,Sub X f→ShutN n bl b X→Sub X g
theorem shutN_iff {n:Nt} (hn:n.Ok) (bl wt:List Int) {b X:Nat}:(n.look bl wt).Shut b X↔ShutN n bl b X:=by
 constructor
 ·intro h i p hp ho
  exact ⟨fun h1 h2=>h _ _ h1 h2 ((look_adj hn bl wt).2 ⟨i,p,hp,ho,.inr ⟨rfl,rfl⟩⟩),fun h1 h2=>h _ _ h1 h2 ((look_adj hn bl wt).2 ⟨i,p,hp,ho,.inl ⟨rfl,rfl⟩⟩)⟩
 ·intro h u v hu hb ha
  obtain ⟨i,p,hp,ho,he⟩:=(look_adj hn bl wt).1 ha
  obtain ⟨h1,h2⟩:=h i p hp ho
  rcases he with ⟨rfl,rfl⟩ | ⟨rfl,rfl⟩
  ·exact h2 hu hb
  ·exact h1 hu hb
theorem spread_sp {n:Nt} (hn:n.Ok) (bl wt:List Int) {f b:Nat} (hf:f<2^7):Sp n bl f b ((n.look bl wt).spread f b) :=
 ⟨NetL.spread_sub _ f b,(shutN_iff hn bl wt).1 (NetL.spread_closed hf b),fun _X h1 h2=>NetL.spread_most ((shutN_iff hn bl wt).2 h2) h1⟩

theorem okB_sp {nb:Nat} {e:List D} {c f b:Nat} {z:List D} (he:okAll nb e=true) (hz:okAll nb z=true):okBoxes nb [.flat false e,.flat false (stC c f b),.flat false z]=true:=by
 simp [okBoxes,he,hz,okAll_st]

set_option maxHeartbeats 40000000 in
theorem den90 (n:Nt) (hn:n.Ok) (bl:List Int) (hbl:bl.length<9223372036854775808) (f b g:Nat) (hg:Sp n bl f b g) :
    DN 90 [.agg n.enc,.list 1 (bl.map encI),.agg (stA f b)] (.agg (stA g b)):=by
  have h7:=hn.t7
  have h12:=hn.p
  have hpl:((n.pipes.map Rp.enc).length:Int)=n.pipes.length:=by simp
  rw [← stC_zero f b]
  have hF:∀ c i,(diff f c).testBit i=(f.testBit i && !(c.testBit i)):=fun c i=>diff_bit f c i
  refine mk Try.func90 Try.call90 rfl rfl ?_
  refine ⟨[1,3,5,6,7],3,[],fun σ=>∃ c:Nat,Sub g (diff f c) ∧
   (σ=⟨[(1,.list 1 (bl.map encI)),(3,.loc 0 0),(5,.loc 1 0),(6,.loc 2 0),(7,.tt)],[.flat false n.enc,.flat false (stC c f b),.flat false [.ff,.ff,.ff,.ff,.ff,.ff,.ff,.ff,.ff,.ff,.ff,.ff,.ff,.ff]],.non⟩ ∨
    ShutN n bl b (diff f c)∧σ=⟨[(1,.list 1 (bl.map encI)),(3,.loc 0 0),(5,.loc 1 0),(6,.loc 2 0),(7,.ff)],[.flat false n.enc,.flat false (stC c f b),.flat false [.ff,.ff,.ff,.ff,.ff,.ff,.ff,.ff,.ff,.ff,.ff,.ff,.ff,.ff]],.non⟩),
   muS,rfl,⟨rfl,okB_sp rfl rfl⟩,⟨0,fun i hi=>by rw [hF,Nat.zero_testBit,hg.sub i hi];rfl,.inl rfl⟩,?_⟩
  rintro σ ⟨c,hgc,rfl | ⟨hcl,rfl⟩⟩
  rotate_left
  ·have e:g=diff f c:=hgc.antisymm (hg.most _ (fun i hi=>by rw [hF] at hi;simp at hi;exact hi.1) hcl)
   have hm:mapO (reify ([.flat false n.enc,.flat false (stC c f b),.flat false (stC c f b)]:List Box) 7) (stC c f b)=some (stA g b):=mapO_stC (fun i=>by rw [e];exact hF c i)
   exact reify_agg hm
  refine ⟨[1,3,5,6,7,8],3,[],fun σ=>∃ (i c1:Nat),i≤n.pipes.length∧Sub g (diff f c1) ∧
   ((unsN 7 c1<unsN 7 c∧σ=⟨[(1,.list 1 (bl.map encI)),(3,.loc 0 0),(5,.loc 1 0),(6,.loc 2 0),(7,.tt),(8,.int .i64 i)],[.flat false n.enc,.flat false (stC c1 f b),.flat false [.ff,.ff,.ff,.ff,.ff,.ff,.ff,.ff,.ff,.ff,.ff,.ff,.ff,.ff]],.non⟩) ∨
    (c1=c∧(∀ i' q,i'<i→n.pipes[i']?=some q→hasI bl (i':Nat)=false→((diff f c).testBit q.to.toNat=true→b.testBit q.to.toNat=false→(diff f c).testBit q.fr.toNat=true)∧((diff f c).testBit q.fr.toNat=true→b.testBit q.fr.toNat=false→(diff f c).testBit q.to.toNat=true))∧σ=⟨[(1,.list 1 (bl.map encI)),(3,.loc 0 0),(5,.loc 1 0),(6,.loc 2 0),(7,.ff),(8,.int .i64 i)],[.flat false n.enc,.flat false (stC c1 f b),.flat false [.ff,.ff,.ff,.ff,.ff,.ff,.ff,.ff,.ff,.ff,.ff,.ff,.ff,.ff]],.non⟩)),
   fun σ=>(1000 - slotI 8 σ).toNat,rfl,⟨rfl,okB_sp rfl rfl⟩,⟨0,c,Nat.zero_le _,hgc,.inr ⟨rfl,fun i' q h=>absurd h (Nat.not_lt_zero _),rfl⟩⟩,?_⟩
  rintro σ ⟨i,c1,hi,hg1,⟨hlt,rfl⟩ | ⟨rfl,hcl,rfl⟩⟩
  ·skip
   refine ⟨fun q1=>?_,fun q1=>?_⟩
   rotate_left
   ·have q1:=of_decide_eq_false q1
    rw [hpl] at q1
    refine ⟨⟨rfl,okB_sp rfl rfl⟩,⟨c1,hg1,.inl rfl⟩,?_⟩
    show 2*notFF (stC c1 f b)+1<2*notFF (stC c f b)+1
    rw [notFF_st,notFF_st]
    omega
   have q1:=of_decide_eq_true q1
   rw [hpl] at q1
   have hi':i<n.pipes.length:=by omega
   have less:(1000 - ((i:Int)+1)).toNat<(1000 - (i:Int)).toNat:=by omega
   obtain ⟨p,hp⟩:∃ p,n.pipes[i]?=some p:=⟨_,List.getElem?_eq_getElem hi'⟩
   have hprow:(n.pipes.map Rp.enc)[((i:Int)).toNat]?=some p.enc:=by rw [Int.toNat_natCast,List.getElem?_map,hp];rfl
   have hpe:=hn.pe p (List.mem_of_getElem? hp)
   have hfm:p.fr.toNat<7:=by omega
   have htm:p.to.toNat<7:=by omega
   refine ⟨[1,3,5,6,7,8,9],3,[],fun σ=>∃ (d c2:Nat),d≤2∧Sub g (diff f c2) ∧
    ((unsN 7 c2<unsN 7 c∧σ=⟨[(1,.list 1 (bl.map encI)),(3,.loc 0 0),(5,.loc 1 0),(6,.loc 2 0),(7,.tt),(8,.int .i64 i),(9,.int .i64 d)],[.flat false n.enc,.flat false (stC c2 f b),.flat false [.ff,.ff,.ff,.ff,.ff,.ff,.ff,.ff,.ff,.ff,.ff,.ff,.ff,.ff]],.non⟩) ∨
     (False)),
    fun σ=>(1000 - slotI 9 σ).toNat,rfl,⟨rfl,okB_sp rfl rfl⟩,⟨0,c1,Nat.zero_le _,hg1,.inl ⟨hlt,rfl⟩⟩,?_⟩
   rintro σ ⟨d,c2,hd,hg2,⟨hlt2,rfl⟩ | hF0⟩
   rotate_left
   ·exact hF0.elim
   refine ⟨fun r1=>?_,fun r1=>?_⟩
   rotate_left
   ·have r1:¬ (d:Int)<2:=of_decide_eq_false r1
    refine ⟨(i:Int)+1,wrap64 (by omega) (by omega),?_⟩
    exact ⟨⟨rfl,okB_sp rfl rfl⟩,⟨i+1,c2,hi',hg2,.inl ⟨hlt2,rfl⟩⟩,less⟩
   have r1:(d:Int)<2:=of_decide_eq_true r1
   refine Or.inl ⟨by kernel_rfl,?_⟩
   refine ⟨by omega,_,hprow,?_⟩
   refine ⟨by omega,_,hprow,?_⟩
   refine ⟨fun s1=>?_,fun s1=>?_⟩
   ·have s1:((d:Int)==1)=true:=s1
    have hd0:d=1:=by simp at s1;omega
    refine ⟨_,rfl,_,den46 bl i hbl,?_⟩
    refine ⟨fun r2=>?_,fun r2=>?_⟩
    rotate_left
    ·have r2:(!(hasI bl i))=false:=r2
     have r2:hasI bl i=true:=by simpa using r2
     refine ⟨(d:Int)+1,wrap64 (by omega) (by omega),?_⟩
     exact ⟨⟨rfl,okB_sp rfl rfl⟩,⟨d+1,c2,by omega,hg2,.inl ⟨hlt2,rfl⟩⟩,by show (1000 - ((d:Int)+1)).toNat<(1000 - (d:Int)).toNat;omega⟩
    have r2:(!(hasI bl i))=true:=r2
    have r2:hasI bl i=false:=by simpa using r2
    have hor:=Bool.eq_false_or_eq_true (c2.testBit p.to.toNat)
    rcases hor with hcx | hcx
    ·skip
     have hxF:(diff f c2).testBit p.to.toNat=false:=by rw [hF,hcx,Bool.not_true,Bool.and_false]
     refine ⟨⟨by omega,by omega⟩,_,Nat.mul_one _,?_⟩
     refine ⟨_,stC_ff htm hcx,?_⟩
     have hor:=Bool.eq_false_or_eq_true (c2.testBit p.fr.toNat)
     rcases hor with hcy | hcy
     ·skip
      have hyF:(diff f c2).testBit p.fr.toNat=false:=by rw [hF,hcy,Bool.not_true,Bool.and_false]
      refine ⟨⟨by omega,by omega⟩,_,Nat.mul_one _,?_⟩
      refine ⟨_,stC_ff hfm hcy,?_⟩
      refine ⟨(d:Int)+1,wrap64 (by omega) (by omega),?_⟩
      exact ⟨⟨rfl,okB_sp rfl rfl⟩,⟨d+1,c2,by omega,hg2,.inl ⟨hlt2,rfl⟩⟩,by show (1000 - ((d:Int)+1)).toNat<(1000 - (d:Int)).toNat;omega⟩
     ·skip
      have hor:=(Bool.eq_false_or_eq_true (f.testBit p.fr.toNat)).symm
      rcases hor with hfy | hfy
      ·skip
       have hyF:(diff f c2).testBit p.fr.toNat=false:=by rw [hF,hfy,Bool.false_and]
       refine ⟨⟨by omega,by omega⟩,_,Nat.mul_one _,?_⟩
       refine ⟨_,stC_bl hfm hcy hfy,?_⟩
       refine ⟨fun h=>absurd h (by decide),fun _=>?_⟩
       refine ⟨(d:Int)+1,wrap64 (by omega) (by omega),?_⟩
       exact ⟨⟨rfl,okB_sp rfl rfl⟩,⟨d+1,c2,by omega,hg2,.inl ⟨hlt2,rfl⟩⟩,by show (1000 - ((d:Int)+1)).toNat<(1000 - (d:Int)).toNat;omega⟩
      ·skip
       refine ⟨⟨by omega,by omega⟩,_,Nat.mul_one _,?_⟩
       refine ⟨_,stC_bl hfm hcy hfy,?_⟩
       refine ⟨fun _=>?_,fun h=>absurd h (by decide)⟩
       have hor:=Bool.eq_false_or_eq_true (b.testBit p.fr.toNat)
       rcases hor with hby | hby
       ·skip
        refine ⟨⟨by omega,by omega⟩,_,Nat.mul_one _,?_⟩
        refine ⟨_,stC_getV hfm hby,?_⟩
        refine ⟨fun h=>absurd h (by decide),fun _=>?_⟩
        refine ⟨(d:Int)+1,wrap64 (by omega) (by omega),?_⟩
        exact ⟨⟨rfl,okB_sp rfl rfl⟩,⟨d+1,c2,by omega,hg2,.inl ⟨hlt2,rfl⟩⟩,by show (1000 - ((d:Int)+1)).toNat<(1000 - (d:Int)).toNat;omega⟩
       ·skip
        refine ⟨⟨by omega,by omega⟩,_,Nat.mul_one _,?_⟩
        refine ⟨_,stC_getV hfm hby,?_⟩
        refine ⟨fun _=>?_,fun h=>absurd h (by decide)⟩
        refine ⟨⟨by omega,by omega⟩,_,Nat.mul_one _,?_⟩
        refine ⟨by rw [stC_len];show 0+_+1≤14;omega,_,stC_set hfm,?_⟩
        have hgy:g.testBit p.fr.toNat=false:=by
         cases hgy:g.testBit p.fr.toNat with
         | false=>rfl
         | true =>
          have h1:=(hg.shut i p hp r2).2 hgy hby
          have h2:=hg2 _ h1
          rw [hxF] at h2;cases h2
        have hsub:Sub c2 (c2 ||| 2^p.fr.toNat):=fun x hx=>by rw [or_bit,hx];rfl
        have hls:=unsN_lt hsub hcy (by rw [or_bit,pow_bit];simp) 7 hfm
        refine ⟨(d:Int)+1,wrap64 (by omega) (by omega),?_⟩
        refine ⟨⟨rfl,okB_sp rfl rfl⟩,⟨d+1,c2 ||| 2^p.fr.toNat,by omega,fun x hx=>?_,.inl ⟨by omega,rfl⟩⟩,by show (1000 - ((d:Int)+1)).toNat<(1000 - (d:Int)).toNat;omega⟩
        have h3:=hg2 x hx
        rw [hF] at h3 ⊢
        rw [or_bit,pow_bit,show decide (x=p.fr.toNat)=false from decide_eq_false (fun e=>by rw [e,hgy] at hx;cases hx),Bool.or_false]
        exact h3
    ·skip
     have hor:=Bool.eq_false_or_eq_true (f.testBit p.to.toNat)
     rcases hor with hfx | hfx
     ·skip
      have hxF:(diff f c2).testBit p.to.toNat=true:=by rw [hF,hcx,hfx];rfl
      refine ⟨⟨by omega,by omega⟩,_,Nat.mul_one _,?_⟩
      refine ⟨_,stC_bl htm hcx hfx,?_⟩
      refine ⟨fun h=>absurd h (by decide),fun _=>?_⟩
      refine ⟨(d:Int)+1,wrap64 (by omega) (by omega),?_⟩
      exact ⟨⟨rfl,okB_sp rfl rfl⟩,⟨d+1,c2,by omega,hg2,.inl ⟨hlt2,rfl⟩⟩,by show (1000 - ((d:Int)+1)).toNat<(1000 - (d:Int)).toNat;omega⟩
     ·skip
      have hxF:(diff f c2).testBit p.to.toNat=false:=by rw [hF,hfx,Bool.false_and]
      refine ⟨⟨by omega,by omega⟩,_,Nat.mul_one _,?_⟩
      refine ⟨_,stC_bl htm hcx hfx,?_⟩
      refine ⟨fun _=>?_,fun h=>absurd h (by decide)⟩
      have hor:=Bool.eq_false_or_eq_true (c2.testBit p.fr.toNat)
      rcases hor with hcy | hcy
      ·skip
       have hyF:(diff f c2).testBit p.fr.toNat=false:=by rw [hF,hcy,Bool.not_true,Bool.and_false]
       refine ⟨⟨by omega,by omega⟩,_,Nat.mul_one _,?_⟩
       refine ⟨_,stC_ff hfm hcy,?_⟩
       refine ⟨(d:Int)+1,wrap64 (by omega) (by omega),?_⟩
       exact ⟨⟨rfl,okB_sp rfl rfl⟩,⟨d+1,c2,by omega,hg2,.inl ⟨hlt2,rfl⟩⟩,by show (1000 - ((d:Int)+1)).toNat<(1000 - (d:Int)).toNat;omega⟩
      ·skip
       have hor:=(Bool.eq_false_or_eq_true (f.testBit p.fr.toNat)).symm
       rcases hor with hfy | hfy
       ·skip
        have hyF:(diff f c2).testBit p.fr.toNat=false:=by rw [hF,hfy,Bool.false_and]
        refine ⟨⟨by omega,by omega⟩,_,Nat.mul_one _,?_⟩
        refine ⟨_,stC_bl hfm hcy hfy,?_⟩
        refine ⟨fun h=>absurd h (by decide),fun _=>?_⟩
        refine ⟨(d:Int)+1,wrap64 (by omega) (by omega),?_⟩
        exact ⟨⟨rfl,okB_sp rfl rfl⟩,⟨d+1,c2,by omega,hg2,.inl ⟨hlt2,rfl⟩⟩,by show (1000 - ((d:Int)+1)).toNat<(1000 - (d:Int)).toNat;omega⟩
       ·skip
        refine ⟨⟨by omega,by omega⟩,_,Nat.mul_one _,?_⟩
        refine ⟨_,stC_bl hfm hcy hfy,?_⟩
        refine ⟨fun _=>?_,fun h=>absurd h (by decide)⟩
        have hor:=Bool.eq_false_or_eq_true (b.testBit p.fr.toNat)
        rcases hor with hby | hby
        ·skip
         refine ⟨⟨by omega,by omega⟩,_,Nat.mul_one _,?_⟩
         refine ⟨_,stC_getV hfm hby,?_⟩
         refine ⟨fun h=>absurd h (by decide),fun _=>?_⟩
         refine ⟨(d:Int)+1,wrap64 (by omega) (by omega),?_⟩
         exact ⟨⟨rfl,okB_sp rfl rfl⟩,⟨d+1,c2,by omega,hg2,.inl ⟨hlt2,rfl⟩⟩,by show (1000 - ((d:Int)+1)).toNat<(1000 - (d:Int)).toNat;omega⟩
        ·skip
         refine ⟨⟨by omega,by omega⟩,_,Nat.mul_one _,?_⟩
         refine ⟨_,stC_getV hfm hby,?_⟩
         refine ⟨fun _=>?_,fun h=>absurd h (by decide)⟩
         refine ⟨⟨by omega,by omega⟩,_,Nat.mul_one _,?_⟩
         refine ⟨by rw [stC_len];show 0+_+1≤14;omega,_,stC_set hfm,?_⟩
         have hgy:g.testBit p.fr.toNat=false:=by
          cases hgy:g.testBit p.fr.toNat with
          | false=>rfl
          | true =>
           have h1:=(hg.shut i p hp r2).2 hgy hby
           have h2:=hg2 _ h1
           rw [hxF] at h2;cases h2
         have hsub:Sub c2 (c2 ||| 2^p.fr.toNat):=fun x hx=>by rw [or_bit,hx];rfl
         have hls:=unsN_lt hsub hcy (by rw [or_bit,pow_bit];simp) 7 hfm
         refine ⟨(d:Int)+1,wrap64 (by omega) (by omega),?_⟩
         refine ⟨⟨rfl,okB_sp rfl rfl⟩,⟨d+1,c2 ||| 2^p.fr.toNat,by omega,fun x hx=>?_,.inl ⟨by omega,rfl⟩⟩,by show (1000 - ((d:Int)+1)).toNat<(1000 - (d:Int)).toNat;omega⟩
         have h3:=hg2 x hx
         rw [hF] at h3 ⊢
         rw [or_bit,pow_bit,show decide (x=p.fr.toNat)=false from decide_eq_false (fun e=>by rw [e,hgy] at hx;cases hx),Bool.or_false]
         exact h3
   ·have s1:((d:Int)==1)=false:=s1
    have hd0:d=0:=by simp at s1;omega
    refine ⟨_,rfl,_,den46 bl i hbl,?_⟩
    refine ⟨fun r2=>?_,fun r2=>?_⟩
    rotate_left
    ·have r2:(!(hasI bl i))=false:=r2
     have r2:hasI bl i=true:=by simpa using r2
     refine ⟨(d:Int)+1,wrap64 (by omega) (by omega),?_⟩
     exact ⟨⟨rfl,okB_sp rfl rfl⟩,⟨d+1,c2,by omega,hg2,.inl ⟨hlt2,rfl⟩⟩,by show (1000 - ((d:Int)+1)).toNat<(1000 - (d:Int)).toNat;omega⟩
    have r2:(!(hasI bl i))=true:=r2
    have r2:hasI bl i=false:=by simpa using r2
    have hor:=Bool.eq_false_or_eq_true (c2.testBit p.fr.toNat)
    rcases hor with hcx | hcx
    ·skip
     have hxF:(diff f c2).testBit p.fr.toNat=false:=by rw [hF,hcx,Bool.not_true,Bool.and_false]
     refine ⟨⟨by omega,by omega⟩,_,Nat.mul_one _,?_⟩
     refine ⟨_,stC_ff hfm hcx,?_⟩
     have hor:=Bool.eq_false_or_eq_true (c2.testBit p.to.toNat)
     rcases hor with hcy | hcy
     ·skip
      have hyF:(diff f c2).testBit p.to.toNat=false:=by rw [hF,hcy,Bool.not_true,Bool.and_false]
      refine ⟨⟨by omega,by omega⟩,_,Nat.mul_one _,?_⟩
      refine ⟨_,stC_ff htm hcy,?_⟩
      refine ⟨(d:Int)+1,wrap64 (by omega) (by omega),?_⟩
      exact ⟨⟨rfl,okB_sp rfl rfl⟩,⟨d+1,c2,by omega,hg2,.inl ⟨hlt2,rfl⟩⟩,by show (1000 - ((d:Int)+1)).toNat<(1000 - (d:Int)).toNat;omega⟩
     ·skip
      have hor:=(Bool.eq_false_or_eq_true (f.testBit p.to.toNat)).symm
      rcases hor with hfy | hfy
      ·skip
       have hyF:(diff f c2).testBit p.to.toNat=false:=by rw [hF,hfy,Bool.false_and]
       refine ⟨⟨by omega,by omega⟩,_,Nat.mul_one _,?_⟩
       refine ⟨_,stC_bl htm hcy hfy,?_⟩
       refine ⟨fun h=>absurd h (by decide),fun _=>?_⟩
       refine ⟨(d:Int)+1,wrap64 (by omega) (by omega),?_⟩
       exact ⟨⟨rfl,okB_sp rfl rfl⟩,⟨d+1,c2,by omega,hg2,.inl ⟨hlt2,rfl⟩⟩,by show (1000 - ((d:Int)+1)).toNat<(1000 - (d:Int)).toNat;omega⟩
      ·skip
       refine ⟨⟨by omega,by omega⟩,_,Nat.mul_one _,?_⟩
       refine ⟨_,stC_bl htm hcy hfy,?_⟩
       refine ⟨fun _=>?_,fun h=>absurd h (by decide)⟩
       have hor:=Bool.eq_false_or_eq_true (b.testBit p.to.toNat)
       rcases hor with hby | hby
       ·skip
        refine ⟨⟨by omega,by omega⟩,_,Nat.mul_one _,?_⟩
        refine ⟨_,stC_getV htm hby,?_⟩
        refine ⟨fun h=>absurd h (by decide),fun _=>?_⟩
        refine ⟨(d:Int)+1,wrap64 (by omega) (by omega),?_⟩
        exact ⟨⟨rfl,okB_sp rfl rfl⟩,⟨d+1,c2,by omega,hg2,.inl ⟨hlt2,rfl⟩⟩,by show (1000 - ((d:Int)+1)).toNat<(1000 - (d:Int)).toNat;omega⟩
       ·skip
        refine ⟨⟨by omega,by omega⟩,_,Nat.mul_one _,?_⟩
        refine ⟨_,stC_getV htm hby,?_⟩
        refine ⟨fun _=>?_,fun h=>absurd h (by decide)⟩
        refine ⟨⟨by omega,by omega⟩,_,Nat.mul_one _,?_⟩
        refine ⟨by rw [stC_len];show 0+_+1≤14;omega,_,stC_set htm,?_⟩
        have hgy:g.testBit p.to.toNat=false:=by
         cases hgy:g.testBit p.to.toNat with
         | false=>rfl
         | true =>
          have h1:=(hg.shut i p hp r2).1 hgy hby
          have h2:=hg2 _ h1
          rw [hxF] at h2;cases h2
        have hsub:Sub c2 (c2 ||| 2^p.to.toNat):=fun x hx=>by rw [or_bit,hx];rfl
        have hls:=unsN_lt hsub hcy (by rw [or_bit,pow_bit];simp) 7 htm
        refine ⟨(d:Int)+1,wrap64 (by omega) (by omega),?_⟩
        refine ⟨⟨rfl,okB_sp rfl rfl⟩,⟨d+1,c2 ||| 2^p.to.toNat,by omega,fun x hx=>?_,.inl ⟨by omega,rfl⟩⟩,by show (1000 - ((d:Int)+1)).toNat<(1000 - (d:Int)).toNat;omega⟩
        have h3:=hg2 x hx
        rw [hF] at h3 ⊢
        rw [or_bit,pow_bit,show decide (x=p.to.toNat)=false from decide_eq_false (fun e=>by rw [e,hgy] at hx;cases hx),Bool.or_false]
        exact h3
    ·skip
     have hor:=Bool.eq_false_or_eq_true (f.testBit p.fr.toNat)
     rcases hor with hfx | hfx
     ·skip
      have hxF:(diff f c2).testBit p.fr.toNat=true:=by rw [hF,hcx,hfx];rfl
      refine ⟨⟨by omega,by omega⟩,_,Nat.mul_one _,?_⟩
      refine ⟨_,stC_bl hfm hcx hfx,?_⟩
      refine ⟨fun h=>absurd h (by decide),fun _=>?_⟩
      refine ⟨(d:Int)+1,wrap64 (by omega) (by omega),?_⟩
      exact ⟨⟨rfl,okB_sp rfl rfl⟩,⟨d+1,c2,by omega,hg2,.inl ⟨hlt2,rfl⟩⟩,by show (1000 - ((d:Int)+1)).toNat<(1000 - (d:Int)).toNat;omega⟩
     ·skip
      have hxF:(diff f c2).testBit p.fr.toNat=false:=by rw [hF,hfx,Bool.false_and]
      refine ⟨⟨by omega,by omega⟩,_,Nat.mul_one _,?_⟩
      refine ⟨_,stC_bl hfm hcx hfx,?_⟩
      refine ⟨fun _=>?_,fun h=>absurd h (by decide)⟩
      have hor:=Bool.eq_false_or_eq_true (c2.testBit p.to.toNat)
      rcases hor with hcy | hcy
      ·skip
       have hyF:(diff f c2).testBit p.to.toNat=false:=by rw [hF,hcy,Bool.not_true,Bool.and_false]
       refine ⟨⟨by omega,by omega⟩,_,Nat.mul_one _,?_⟩
       refine ⟨_,stC_ff htm hcy,?_⟩
       refine ⟨(d:Int)+1,wrap64 (by omega) (by omega),?_⟩
       exact ⟨⟨rfl,okB_sp rfl rfl⟩,⟨d+1,c2,by omega,hg2,.inl ⟨hlt2,rfl⟩⟩,by show (1000 - ((d:Int)+1)).toNat<(1000 - (d:Int)).toNat;omega⟩
      ·skip
       have hor:=(Bool.eq_false_or_eq_true (f.testBit p.to.toNat)).symm
       rcases hor with hfy | hfy
       ·skip
        have hyF:(diff f c2).testBit p.to.toNat=false:=by rw [hF,hfy,Bool.false_and]
        refine ⟨⟨by omega,by omega⟩,_,Nat.mul_one _,?_⟩
        refine ⟨_,stC_bl htm hcy hfy,?_⟩
        refine ⟨fun h=>absurd h (by decide),fun _=>?_⟩
        refine ⟨(d:Int)+1,wrap64 (by omega) (by omega),?_⟩
        exact ⟨⟨rfl,okB_sp rfl rfl⟩,⟨d+1,c2,by omega,hg2,.inl ⟨hlt2,rfl⟩⟩,by show (1000 - ((d:Int)+1)).toNat<(1000 - (d:Int)).toNat;omega⟩
       ·skip
        refine ⟨⟨by omega,by omega⟩,_,Nat.mul_one _,?_⟩
        refine ⟨_,stC_bl htm hcy hfy,?_⟩
        refine ⟨fun _=>?_,fun h=>absurd h (by decide)⟩
        have hor:=Bool.eq_false_or_eq_true (b.testBit p.to.toNat)
        rcases hor with hby | hby
        ·skip
         refine ⟨⟨by omega,by omega⟩,_,Nat.mul_one _,?_⟩
         refine ⟨_,stC_getV htm hby,?_⟩
         refine ⟨fun h=>absurd h (by decide),fun _=>?_⟩
         refine ⟨(d:Int)+1,wrap64 (by omega) (by omega),?_⟩
         exact ⟨⟨rfl,okB_sp rfl rfl⟩,⟨d+1,c2,by omega,hg2,.inl ⟨hlt2,rfl⟩⟩,by show (1000 - ((d:Int)+1)).toNat<(1000 - (d:Int)).toNat;omega⟩
        ·skip
         refine ⟨⟨by omega,by omega⟩,_,Nat.mul_one _,?_⟩
         refine ⟨_,stC_getV htm hby,?_⟩
         refine ⟨fun _=>?_,fun h=>absurd h (by decide)⟩
         refine ⟨⟨by omega,by omega⟩,_,Nat.mul_one _,?_⟩
         refine ⟨by rw [stC_len];show 0+_+1≤14;omega,_,stC_set htm,?_⟩
         have hgy:g.testBit p.to.toNat=false:=by
          cases hgy:g.testBit p.to.toNat with
          | false=>rfl
          | true =>
           have h1:=(hg.shut i p hp r2).1 hgy hby
           have h2:=hg2 _ h1
           rw [hxF] at h2;cases h2
         have hsub:Sub c2 (c2 ||| 2^p.to.toNat):=fun x hx=>by rw [or_bit,hx];rfl
         have hls:=unsN_lt hsub hcy (by rw [or_bit,pow_bit];simp) 7 htm
         refine ⟨(d:Int)+1,wrap64 (by omega) (by omega),?_⟩
         refine ⟨⟨rfl,okB_sp rfl rfl⟩,⟨d+1,c2 ||| 2^p.to.toNat,by omega,fun x hx=>?_,.inl ⟨by omega,rfl⟩⟩,by show (1000 - ((d:Int)+1)).toNat<(1000 - (d:Int)).toNat;omega⟩
         have h3:=hg2 x hx
         rw [hF] at h3 ⊢
         rw [or_bit,pow_bit,show decide (x=p.to.toNat)=false from decide_eq_false (fun e=>by rw [e,hgy] at hx;cases hx),Bool.or_false]
         exact h3
  ·skip
   refine ⟨fun q1=>?_,fun q1=>?_⟩
   rotate_left
   ·have q1:=of_decide_eq_false q1
    rw [hpl] at q1
    refine ⟨⟨rfl,okB_sp rfl rfl⟩,⟨c1,hg1,.inr ⟨fun i' q hq ho=>hcl i' q (by have:=(List.getElem?_eq_some_iff.1 hq).1;omega) hq ho,rfl⟩⟩,?_⟩
    show 2*notFF (stC c1 f b)+0<2*notFF (stC c1 f b)+1
    omega
   have q1:=of_decide_eq_true q1
   rw [hpl] at q1
   have hi':i<n.pipes.length:=by omega
   have less:(1000 - ((i:Int)+1)).toNat<(1000 - (i:Int)).toNat:=by omega
   obtain ⟨p,hp⟩:∃ p,n.pipes[i]?=some p:=⟨_,List.getElem?_eq_getElem hi'⟩
   have hprow:(n.pipes.map Rp.enc)[((i:Int)).toNat]?=some p.enc:=by rw [Int.toNat_natCast,List.getElem?_map,hp];rfl
   have hpe:=hn.pe p (List.mem_of_getElem? hp)
   have hfm:p.fr.toNat<7:=by omega
   have htm:p.to.toNat<7:=by omega
   refine ⟨[1,3,5,6,7,8,9],3,[],fun σ=>∃ (d c2:Nat),d≤2∧Sub g (diff f c2) ∧
    ((unsN 7 c2<unsN 7 c1∧σ=⟨[(1,.list 1 (bl.map encI)),(3,.loc 0 0),(5,.loc 1 0),(6,.loc 2 0),(7,.tt),(8,.int .i64 i),(9,.int .i64 d)],[.flat false n.enc,.flat false (stC c2 f b),.flat false [.ff,.ff,.ff,.ff,.ff,.ff,.ff,.ff,.ff,.ff,.ff,.ff,.ff,.ff]],.non⟩) ∨
     (c2=c1∧(∀ i' q,i'<i→n.pipes[i']?=some q→hasI bl (i':Nat)=false→((diff f c1).testBit q.to.toNat=true→b.testBit q.to.toNat=false→(diff f c1).testBit q.fr.toNat=true)∧((diff f c1).testBit q.fr.toNat=true→b.testBit q.fr.toNat=false→(diff f c1).testBit q.to.toNat=true))∧(1≤d→hasI bl (i:Nat)=false→((diff f c1).testBit p.to.toNat=true→b.testBit p.to.toNat=false→(diff f c1).testBit p.fr.toNat=true))∧(2≤d→hasI bl (i:Nat)=false→((diff f c1).testBit p.fr.toNat=true→b.testBit p.fr.toNat=false→(diff f c1).testBit p.to.toNat=true))∧σ=⟨[(1,.list 1 (bl.map encI)),(3,.loc 0 0),(5,.loc 1 0),(6,.loc 2 0),(7,.ff),(8,.int .i64 i),(9,.int .i64 d)],[.flat false n.enc,.flat false (stC c2 f b),.flat false [.ff,.ff,.ff,.ff,.ff,.ff,.ff,.ff,.ff,.ff,.ff,.ff,.ff,.ff]],.non⟩)),
    fun σ=>(1000 - slotI 9 σ).toNat,rfl,⟨rfl,okB_sp rfl rfl⟩,⟨0,c1,Nat.zero_le _,hg1,.inr ⟨rfl,hcl,fun h=>absurd h (by decide),fun h=>absurd h (by decide),rfl⟩⟩,?_⟩
   rintro σ ⟨d,c2,hd,hg2,⟨hlt2,rfl⟩ | ⟨rfl,hcl,hd1,hd2,rfl⟩⟩
   ·skip
    refine ⟨fun r1=>?_,fun r1=>?_⟩
    rotate_left
    ·have r1:¬ (d:Int)<2:=of_decide_eq_false r1
     refine ⟨(i:Int)+1,wrap64 (by omega) (by omega),?_⟩
     exact ⟨⟨rfl,okB_sp rfl rfl⟩,⟨i+1,c2,hi',hg2,.inl ⟨hlt2,rfl⟩⟩,less⟩
    have r1:(d:Int)<2:=of_decide_eq_true r1
    refine Or.inl ⟨by kernel_rfl,?_⟩
    refine ⟨by omega,_,hprow,?_⟩
    refine ⟨by omega,_,hprow,?_⟩
    refine ⟨fun s1=>?_,fun s1=>?_⟩
    ·have s1:((d:Int)==1)=true:=s1
     have hd0:d=1:=by simp at s1;omega
     refine ⟨_,rfl,_,den46 bl i hbl,?_⟩
     refine ⟨fun r2=>?_,fun r2=>?_⟩
     rotate_left
     ·have r2:(!(hasI bl i))=false:=r2
      have r2:hasI bl i=true:=by simpa using r2
      refine ⟨(d:Int)+1,wrap64 (by omega) (by omega),?_⟩
      exact ⟨⟨rfl,okB_sp rfl rfl⟩,⟨d+1,c2,by omega,hg2,.inl ⟨hlt2,rfl⟩⟩,by show (1000 - ((d:Int)+1)).toNat<(1000 - (d:Int)).toNat;omega⟩
     have r2:(!(hasI bl i))=true:=r2
     have r2:hasI bl i=false:=by simpa using r2
     have hor:=Bool.eq_false_or_eq_true (c2.testBit p.to.toNat)
     rcases hor with hcx | hcx
     ·skip
      have hxF:(diff f c2).testBit p.to.toNat=false:=by rw [hF,hcx,Bool.not_true,Bool.and_false]
      refine ⟨⟨by omega,by omega⟩,_,Nat.mul_one _,?_⟩
      refine ⟨_,stC_ff htm hcx,?_⟩
      have hor:=Bool.eq_false_or_eq_true (c2.testBit p.fr.toNat)
      rcases hor with hcy | hcy
      ·skip
       have hyF:(diff f c2).testBit p.fr.toNat=false:=by rw [hF,hcy,Bool.not_true,Bool.and_false]
       refine ⟨⟨by omega,by omega⟩,_,Nat.mul_one _,?_⟩
       refine ⟨_,stC_ff hfm hcy,?_⟩
       refine ⟨(d:Int)+1,wrap64 (by omega) (by omega),?_⟩
       exact ⟨⟨rfl,okB_sp rfl rfl⟩,⟨d+1,c2,by omega,hg2,.inl ⟨hlt2,rfl⟩⟩,by show (1000 - ((d:Int)+1)).toNat<(1000 - (d:Int)).toNat;omega⟩
      ·skip
       have hor:=(Bool.eq_false_or_eq_true (f.testBit p.fr.toNat)).symm
       rcases hor with hfy | hfy
       ·skip
        have hyF:(diff f c2).testBit p.fr.toNat=false:=by rw [hF,hfy,Bool.false_and]
        refine ⟨⟨by omega,by omega⟩,_,Nat.mul_one _,?_⟩
        refine ⟨_,stC_bl hfm hcy hfy,?_⟩
        refine ⟨fun h=>absurd h (by decide),fun _=>?_⟩
        refine ⟨(d:Int)+1,wrap64 (by omega) (by omega),?_⟩
        exact ⟨⟨rfl,okB_sp rfl rfl⟩,⟨d+1,c2,by omega,hg2,.inl ⟨hlt2,rfl⟩⟩,by show (1000 - ((d:Int)+1)).toNat<(1000 - (d:Int)).toNat;omega⟩
       ·skip
        refine ⟨⟨by omega,by omega⟩,_,Nat.mul_one _,?_⟩
        refine ⟨_,stC_bl hfm hcy hfy,?_⟩
        refine ⟨fun _=>?_,fun h=>absurd h (by decide)⟩
        have hor:=Bool.eq_false_or_eq_true (b.testBit p.fr.toNat)
        rcases hor with hby | hby
        ·skip
         refine ⟨⟨by omega,by omega⟩,_,Nat.mul_one _,?_⟩
         refine ⟨_,stC_getV hfm hby,?_⟩
         refine ⟨fun h=>absurd h (by decide),fun _=>?_⟩
         refine ⟨(d:Int)+1,wrap64 (by omega) (by omega),?_⟩
         exact ⟨⟨rfl,okB_sp rfl rfl⟩,⟨d+1,c2,by omega,hg2,.inl ⟨hlt2,rfl⟩⟩,by show (1000 - ((d:Int)+1)).toNat<(1000 - (d:Int)).toNat;omega⟩
        ·skip
         refine ⟨⟨by omega,by omega⟩,_,Nat.mul_one _,?_⟩
         refine ⟨_,stC_getV hfm hby,?_⟩
         refine ⟨fun _=>?_,fun h=>absurd h (by decide)⟩
         refine ⟨⟨by omega,by omega⟩,_,Nat.mul_one _,?_⟩
         refine ⟨by rw [stC_len];show 0+_+1≤14;omega,_,stC_set hfm,?_⟩
         have hgy:g.testBit p.fr.toNat=false:=by
          cases hgy:g.testBit p.fr.toNat with
          | false=>rfl
          | true =>
           have h1:=(hg.shut i p hp r2).2 hgy hby
           have h2:=hg2 _ h1
           rw [hxF] at h2;cases h2
         have hsub:Sub c2 (c2 ||| 2^p.fr.toNat):=fun x hx=>by rw [or_bit,hx];rfl
         have hls:=unsN_lt hsub hcy (by rw [or_bit,pow_bit];simp) 7 hfm
         refine ⟨(d:Int)+1,wrap64 (by omega) (by omega),?_⟩
         refine ⟨⟨rfl,okB_sp rfl rfl⟩,⟨d+1,c2 ||| 2^p.fr.toNat,by omega,fun x hx=>?_,.inl ⟨by omega,rfl⟩⟩,by show (1000 - ((d:Int)+1)).toNat<(1000 - (d:Int)).toNat;omega⟩
         have h3:=hg2 x hx
         rw [hF] at h3 ⊢
         rw [or_bit,pow_bit,show decide (x=p.fr.toNat)=false from decide_eq_false (fun e=>by rw [e,hgy] at hx;cases hx),Bool.or_false]
         exact h3
     ·skip
      have hor:=Bool.eq_false_or_eq_true (f.testBit p.to.toNat)
      rcases hor with hfx | hfx
      ·skip
       have hxF:(diff f c2).testBit p.to.toNat=true:=by rw [hF,hcx,hfx];rfl
       refine ⟨⟨by omega,by omega⟩,_,Nat.mul_one _,?_⟩
       refine ⟨_,stC_bl htm hcx hfx,?_⟩
       refine ⟨fun h=>absurd h (by decide),fun _=>?_⟩
       refine ⟨(d:Int)+1,wrap64 (by omega) (by omega),?_⟩
       exact ⟨⟨rfl,okB_sp rfl rfl⟩,⟨d+1,c2,by omega,hg2,.inl ⟨hlt2,rfl⟩⟩,by show (1000 - ((d:Int)+1)).toNat<(1000 - (d:Int)).toNat;omega⟩
      ·skip
       have hxF:(diff f c2).testBit p.to.toNat=false:=by rw [hF,hfx,Bool.false_and]
       refine ⟨⟨by omega,by omega⟩,_,Nat.mul_one _,?_⟩
       refine ⟨_,stC_bl htm hcx hfx,?_⟩
       refine ⟨fun _=>?_,fun h=>absurd h (by decide)⟩
       have hor:=Bool.eq_false_or_eq_true (c2.testBit p.fr.toNat)
       rcases hor with hcy | hcy
       ·skip
        have hyF:(diff f c2).testBit p.fr.toNat=false:=by rw [hF,hcy,Bool.not_true,Bool.and_false]
        refine ⟨⟨by omega,by omega⟩,_,Nat.mul_one _,?_⟩
        refine ⟨_,stC_ff hfm hcy,?_⟩
        refine ⟨(d:Int)+1,wrap64 (by omega) (by omega),?_⟩
        exact ⟨⟨rfl,okB_sp rfl rfl⟩,⟨d+1,c2,by omega,hg2,.inl ⟨hlt2,rfl⟩⟩,by show (1000 - ((d:Int)+1)).toNat<(1000 - (d:Int)).toNat;omega⟩
       ·skip
        have hor:=(Bool.eq_false_or_eq_true (f.testBit p.fr.toNat)).symm
        rcases hor with hfy | hfy
        ·skip
         have hyF:(diff f c2).testBit p.fr.toNat=false:=by rw [hF,hfy,Bool.false_and]
         refine ⟨⟨by omega,by omega⟩,_,Nat.mul_one _,?_⟩
         refine ⟨_,stC_bl hfm hcy hfy,?_⟩
         refine ⟨fun h=>absurd h (by decide),fun _=>?_⟩
         refine ⟨(d:Int)+1,wrap64 (by omega) (by omega),?_⟩
         exact ⟨⟨rfl,okB_sp rfl rfl⟩,⟨d+1,c2,by omega,hg2,.inl ⟨hlt2,rfl⟩⟩,by show (1000 - ((d:Int)+1)).toNat<(1000 - (d:Int)).toNat;omega⟩
        ·skip
         refine ⟨⟨by omega,by omega⟩,_,Nat.mul_one _,?_⟩
         refine ⟨_,stC_bl hfm hcy hfy,?_⟩
         refine ⟨fun _=>?_,fun h=>absurd h (by decide)⟩
         have hor:=Bool.eq_false_or_eq_true (b.testBit p.fr.toNat)
         rcases hor with hby | hby
         ·skip
          refine ⟨⟨by omega,by omega⟩,_,Nat.mul_one _,?_⟩
          refine ⟨_,stC_getV hfm hby,?_⟩
          refine ⟨fun h=>absurd h (by decide),fun _=>?_⟩
          refine ⟨(d:Int)+1,wrap64 (by omega) (by omega),?_⟩
          exact ⟨⟨rfl,okB_sp rfl rfl⟩,⟨d+1,c2,by omega,hg2,.inl ⟨hlt2,rfl⟩⟩,by show (1000 - ((d:Int)+1)).toNat<(1000 - (d:Int)).toNat;omega⟩
         ·skip
          refine ⟨⟨by omega,by omega⟩,_,Nat.mul_one _,?_⟩
          refine ⟨_,stC_getV hfm hby,?_⟩
          refine ⟨fun _=>?_,fun h=>absurd h (by decide)⟩
          refine ⟨⟨by omega,by omega⟩,_,Nat.mul_one _,?_⟩
          refine ⟨by rw [stC_len];show 0+_+1≤14;omega,_,stC_set hfm,?_⟩
          have hgy:g.testBit p.fr.toNat=false:=by
           cases hgy:g.testBit p.fr.toNat with
           | false=>rfl
           | true =>
            have h1:=(hg.shut i p hp r2).2 hgy hby
            have h2:=hg2 _ h1
            rw [hxF] at h2;cases h2
          have hsub:Sub c2 (c2 ||| 2^p.fr.toNat):=fun x hx=>by rw [or_bit,hx];rfl
          have hls:=unsN_lt hsub hcy (by rw [or_bit,pow_bit];simp) 7 hfm
          refine ⟨(d:Int)+1,wrap64 (by omega) (by omega),?_⟩
          refine ⟨⟨rfl,okB_sp rfl rfl⟩,⟨d+1,c2 ||| 2^p.fr.toNat,by omega,fun x hx=>?_,.inl ⟨by omega,rfl⟩⟩,by show (1000 - ((d:Int)+1)).toNat<(1000 - (d:Int)).toNat;omega⟩
          have h3:=hg2 x hx
          rw [hF] at h3 ⊢
          rw [or_bit,pow_bit,show decide (x=p.fr.toNat)=false from decide_eq_false (fun e=>by rw [e,hgy] at hx;cases hx),Bool.or_false]
          exact h3
    ·have s1:((d:Int)==1)=false:=s1
     have hd0:d=0:=by simp at s1;omega
     refine ⟨_,rfl,_,den46 bl i hbl,?_⟩
     refine ⟨fun r2=>?_,fun r2=>?_⟩
     rotate_left
     ·have r2:(!(hasI bl i))=false:=r2
      have r2:hasI bl i=true:=by simpa using r2
      refine ⟨(d:Int)+1,wrap64 (by omega) (by omega),?_⟩
      exact ⟨⟨rfl,okB_sp rfl rfl⟩,⟨d+1,c2,by omega,hg2,.inl ⟨hlt2,rfl⟩⟩,by show (1000 - ((d:Int)+1)).toNat<(1000 - (d:Int)).toNat;omega⟩
     have r2:(!(hasI bl i))=true:=r2
     have r2:hasI bl i=false:=by simpa using r2
     have hor:=Bool.eq_false_or_eq_true (c2.testBit p.fr.toNat)
     rcases hor with hcx | hcx
     ·skip
      have hxF:(diff f c2).testBit p.fr.toNat=false:=by rw [hF,hcx,Bool.not_true,Bool.and_false]
      refine ⟨⟨by omega,by omega⟩,_,Nat.mul_one _,?_⟩
      refine ⟨_,stC_ff hfm hcx,?_⟩
      have hor:=Bool.eq_false_or_eq_true (c2.testBit p.to.toNat)
      rcases hor with hcy | hcy
      ·skip
       have hyF:(diff f c2).testBit p.to.toNat=false:=by rw [hF,hcy,Bool.not_true,Bool.and_false]
       refine ⟨⟨by omega,by omega⟩,_,Nat.mul_one _,?_⟩
       refine ⟨_,stC_ff htm hcy,?_⟩
       refine ⟨(d:Int)+1,wrap64 (by omega) (by omega),?_⟩
       exact ⟨⟨rfl,okB_sp rfl rfl⟩,⟨d+1,c2,by omega,hg2,.inl ⟨hlt2,rfl⟩⟩,by show (1000 - ((d:Int)+1)).toNat<(1000 - (d:Int)).toNat;omega⟩
      ·skip
       have hor:=(Bool.eq_false_or_eq_true (f.testBit p.to.toNat)).symm
       rcases hor with hfy | hfy
       ·skip
        have hyF:(diff f c2).testBit p.to.toNat=false:=by rw [hF,hfy,Bool.false_and]
        refine ⟨⟨by omega,by omega⟩,_,Nat.mul_one _,?_⟩
        refine ⟨_,stC_bl htm hcy hfy,?_⟩
        refine ⟨fun h=>absurd h (by decide),fun _=>?_⟩
        refine ⟨(d:Int)+1,wrap64 (by omega) (by omega),?_⟩
        exact ⟨⟨rfl,okB_sp rfl rfl⟩,⟨d+1,c2,by omega,hg2,.inl ⟨hlt2,rfl⟩⟩,by show (1000 - ((d:Int)+1)).toNat<(1000 - (d:Int)).toNat;omega⟩
       ·skip
        refine ⟨⟨by omega,by omega⟩,_,Nat.mul_one _,?_⟩
        refine ⟨_,stC_bl htm hcy hfy,?_⟩
        refine ⟨fun _=>?_,fun h=>absurd h (by decide)⟩
        have hor:=Bool.eq_false_or_eq_true (b.testBit p.to.toNat)
        rcases hor with hby | hby
        ·skip
         refine ⟨⟨by omega,by omega⟩,_,Nat.mul_one _,?_⟩
         refine ⟨_,stC_getV htm hby,?_⟩
         refine ⟨fun h=>absurd h (by decide),fun _=>?_⟩
         refine ⟨(d:Int)+1,wrap64 (by omega) (by omega),?_⟩
         exact ⟨⟨rfl,okB_sp rfl rfl⟩,⟨d+1,c2,by omega,hg2,.inl ⟨hlt2,rfl⟩⟩,by show (1000 - ((d:Int)+1)).toNat<(1000 - (d:Int)).toNat;omega⟩
        ·skip
         refine ⟨⟨by omega,by omega⟩,_,Nat.mul_one _,?_⟩
         refine ⟨_,stC_getV htm hby,?_⟩
         refine ⟨fun _=>?_,fun h=>absurd h (by decide)⟩
         refine ⟨⟨by omega,by omega⟩,_,Nat.mul_one _,?_⟩
         refine ⟨by rw [stC_len];show 0+_+1≤14;omega,_,stC_set htm,?_⟩
         have hgy:g.testBit p.to.toNat=false:=by
          cases hgy:g.testBit p.to.toNat with
          | false=>rfl
          | true =>
           have h1:=(hg.shut i p hp r2).1 hgy hby
           have h2:=hg2 _ h1
           rw [hxF] at h2;cases h2
         have hsub:Sub c2 (c2 ||| 2^p.to.toNat):=fun x hx=>by rw [or_bit,hx];rfl
         have hls:=unsN_lt hsub hcy (by rw [or_bit,pow_bit];simp) 7 htm
         refine ⟨(d:Int)+1,wrap64 (by omega) (by omega),?_⟩
         refine ⟨⟨rfl,okB_sp rfl rfl⟩,⟨d+1,c2 ||| 2^p.to.toNat,by omega,fun x hx=>?_,.inl ⟨by omega,rfl⟩⟩,by show (1000 - ((d:Int)+1)).toNat<(1000 - (d:Int)).toNat;omega⟩
         have h3:=hg2 x hx
         rw [hF] at h3 ⊢
         rw [or_bit,pow_bit,show decide (x=p.to.toNat)=false from decide_eq_false (fun e=>by rw [e,hgy] at hx;cases hx),Bool.or_false]
         exact h3
     ·skip
      have hor:=Bool.eq_false_or_eq_true (f.testBit p.fr.toNat)
      rcases hor with hfx | hfx
      ·skip
       have hxF:(diff f c2).testBit p.fr.toNat=true:=by rw [hF,hcx,hfx];rfl
       refine ⟨⟨by omega,by omega⟩,_,Nat.mul_one _,?_⟩
       refine ⟨_,stC_bl hfm hcx hfx,?_⟩
       refine ⟨fun h=>absurd h (by decide),fun _=>?_⟩
       refine ⟨(d:Int)+1,wrap64 (by omega) (by omega),?_⟩
       exact ⟨⟨rfl,okB_sp rfl rfl⟩,⟨d+1,c2,by omega,hg2,.inl ⟨hlt2,rfl⟩⟩,by show (1000 - ((d:Int)+1)).toNat<(1000 - (d:Int)).toNat;omega⟩
      ·skip
       have hxF:(diff f c2).testBit p.fr.toNat=false:=by rw [hF,hfx,Bool.false_and]
       refine ⟨⟨by omega,by omega⟩,_,Nat.mul_one _,?_⟩
       refine ⟨_,stC_bl hfm hcx hfx,?_⟩
       refine ⟨fun _=>?_,fun h=>absurd h (by decide)⟩
       have hor:=Bool.eq_false_or_eq_true (c2.testBit p.to.toNat)
       rcases hor with hcy | hcy
       ·skip
        have hyF:(diff f c2).testBit p.to.toNat=false:=by rw [hF,hcy,Bool.not_true,Bool.and_false]
        refine ⟨⟨by omega,by omega⟩,_,Nat.mul_one _,?_⟩
        refine ⟨_,stC_ff htm hcy,?_⟩
        refine ⟨(d:Int)+1,wrap64 (by omega) (by omega),?_⟩
        exact ⟨⟨rfl,okB_sp rfl rfl⟩,⟨d+1,c2,by omega,hg2,.inl ⟨hlt2,rfl⟩⟩,by show (1000 - ((d:Int)+1)).toNat<(1000 - (d:Int)).toNat;omega⟩
       ·skip
        have hor:=(Bool.eq_false_or_eq_true (f.testBit p.to.toNat)).symm
        rcases hor with hfy | hfy
        ·skip
         have hyF:(diff f c2).testBit p.to.toNat=false:=by rw [hF,hfy,Bool.false_and]
         refine ⟨⟨by omega,by omega⟩,_,Nat.mul_one _,?_⟩
         refine ⟨_,stC_bl htm hcy hfy,?_⟩
         refine ⟨fun h=>absurd h (by decide),fun _=>?_⟩
         refine ⟨(d:Int)+1,wrap64 (by omega) (by omega),?_⟩
         exact ⟨⟨rfl,okB_sp rfl rfl⟩,⟨d+1,c2,by omega,hg2,.inl ⟨hlt2,rfl⟩⟩,by show (1000 - ((d:Int)+1)).toNat<(1000 - (d:Int)).toNat;omega⟩
        ·skip
         refine ⟨⟨by omega,by omega⟩,_,Nat.mul_one _,?_⟩
         refine ⟨_,stC_bl htm hcy hfy,?_⟩
         refine ⟨fun _=>?_,fun h=>absurd h (by decide)⟩
         have hor:=Bool.eq_false_or_eq_true (b.testBit p.to.toNat)
         rcases hor with hby | hby
         ·skip
          refine ⟨⟨by omega,by omega⟩,_,Nat.mul_one _,?_⟩
          refine ⟨_,stC_getV htm hby,?_⟩
          refine ⟨fun h=>absurd h (by decide),fun _=>?_⟩
          refine ⟨(d:Int)+1,wrap64 (by omega) (by omega),?_⟩
          exact ⟨⟨rfl,okB_sp rfl rfl⟩,⟨d+1,c2,by omega,hg2,.inl ⟨hlt2,rfl⟩⟩,by show (1000 - ((d:Int)+1)).toNat<(1000 - (d:Int)).toNat;omega⟩
         ·skip
          refine ⟨⟨by omega,by omega⟩,_,Nat.mul_one _,?_⟩
          refine ⟨_,stC_getV htm hby,?_⟩
          refine ⟨fun _=>?_,fun h=>absurd h (by decide)⟩
          refine ⟨⟨by omega,by omega⟩,_,Nat.mul_one _,?_⟩
          refine ⟨by rw [stC_len];show 0+_+1≤14;omega,_,stC_set htm,?_⟩
          have hgy:g.testBit p.to.toNat=false:=by
           cases hgy:g.testBit p.to.toNat with
           | false=>rfl
           | true =>
            have h1:=(hg.shut i p hp r2).1 hgy hby
            have h2:=hg2 _ h1
            rw [hxF] at h2;cases h2
          have hsub:Sub c2 (c2 ||| 2^p.to.toNat):=fun x hx=>by rw [or_bit,hx];rfl
          have hls:=unsN_lt hsub hcy (by rw [or_bit,pow_bit];simp) 7 htm
          refine ⟨(d:Int)+1,wrap64 (by omega) (by omega),?_⟩
          refine ⟨⟨rfl,okB_sp rfl rfl⟩,⟨d+1,c2 ||| 2^p.to.toNat,by omega,fun x hx=>?_,.inl ⟨by omega,rfl⟩⟩,by show (1000 - ((d:Int)+1)).toNat<(1000 - (d:Int)).toNat;omega⟩
          have h3:=hg2 x hx
          rw [hF] at h3 ⊢
          rw [or_bit,pow_bit,show decide (x=p.to.toNat)=false from decide_eq_false (fun e=>by rw [e,hgy] at hx;cases hx),Bool.or_false]
          exact h3
   ·skip
    refine ⟨fun r1=>?_,fun r1=>?_⟩
    rotate_left
    ·have r1:¬ (d:Int)<2:=of_decide_eq_false r1
     refine ⟨(i:Int)+1,wrap64 (by omega) (by omega),?_⟩
     refine ⟨⟨rfl,okB_sp rfl rfl⟩,⟨i+1,_,hi',hg2,.inr ⟨rfl,fun i' q hlt hq ho=>?_,rfl⟩⟩,less⟩
     by_cases e:i'=i
     ·subst e;rw [hp] at hq;cases hq;exact ⟨hd1 (by omega) ho,hd2 (by omega) ho⟩
     ·exact hcl i' q (by omega) hq ho
    have r1:(d:Int)<2:=of_decide_eq_true r1
    refine Or.inl ⟨by kernel_rfl,?_⟩
    refine ⟨by omega,_,hprow,?_⟩
    refine ⟨by omega,_,hprow,?_⟩
    refine ⟨fun s1=>?_,fun s1=>?_⟩
    ·have s1:((d:Int)==1)=true:=s1
     have hd0:d=1:=by simp at s1;omega
     refine ⟨_,rfl,_,den46 bl i hbl,?_⟩
     refine ⟨fun r2=>?_,fun r2=>?_⟩
     rotate_left
     ·have r2:(!(hasI bl i))=false:=r2
      have r2:hasI bl i=true:=by simpa using r2
      refine ⟨(d:Int)+1,wrap64 (by omega) (by omega),?_⟩
      exact ⟨⟨rfl,okB_sp rfl rfl⟩,⟨d+1,_,by omega,hg2,.inr ⟨rfl,hcl,fun _ ho=>hd1 (by omega) ho,fun _ ho=>(by rw [r2] at ho;cases ho),rfl⟩⟩,by show (1000 - ((d:Int)+1)).toNat<(1000 - (d:Int)).toNat;omega⟩
     have r2:(!(hasI bl i))=true:=r2
     have r2:hasI bl i=false:=by simpa using r2
     have hor:=Bool.eq_false_or_eq_true (c2.testBit p.to.toNat)
     rcases hor with hcx | hcx
     ·skip
      have hxF:(diff f c2).testBit p.to.toNat=false:=by rw [hF,hcx,Bool.not_true,Bool.and_false]
      refine ⟨⟨by omega,by omega⟩,_,Nat.mul_one _,?_⟩
      refine ⟨_,stC_ff htm hcx,?_⟩
      have hor:=Bool.eq_false_or_eq_true (c2.testBit p.fr.toNat)
      rcases hor with hcy | hcy
      ·skip
       have hyF:(diff f c2).testBit p.fr.toNat=false:=by rw [hF,hcy,Bool.not_true,Bool.and_false]
       refine ⟨⟨by omega,by omega⟩,_,Nat.mul_one _,?_⟩
       refine ⟨_,stC_ff hfm hcy,?_⟩
       refine ⟨(d:Int)+1,wrap64 (by omega) (by omega),?_⟩
       exact ⟨⟨rfl,okB_sp rfl rfl⟩,⟨d+1,_,by omega,hg2,.inr ⟨rfl,hcl,fun _ ho=>hd1 (by omega) ho,fun _ ho=>(fun h=>by rw [hyF] at h;cases h),rfl⟩⟩,by show (1000 - ((d:Int)+1)).toNat<(1000 - (d:Int)).toNat;omega⟩
      ·skip
       have hor:=(Bool.eq_false_or_eq_true (f.testBit p.fr.toNat)).symm
       rcases hor with hfy | hfy
       ·skip
        have hyF:(diff f c2).testBit p.fr.toNat=false:=by rw [hF,hfy,Bool.false_and]
        refine ⟨⟨by omega,by omega⟩,_,Nat.mul_one _,?_⟩
        refine ⟨_,stC_bl hfm hcy hfy,?_⟩
        refine ⟨fun h=>absurd h (by decide),fun _=>?_⟩
        refine ⟨(d:Int)+1,wrap64 (by omega) (by omega),?_⟩
        exact ⟨⟨rfl,okB_sp rfl rfl⟩,⟨d+1,_,by omega,hg2,.inr ⟨rfl,hcl,fun _ ho=>hd1 (by omega) ho,fun _ ho=>(fun h=>by rw [hyF] at h;cases h),rfl⟩⟩,by show (1000 - ((d:Int)+1)).toNat<(1000 - (d:Int)).toNat;omega⟩
       ·skip
        refine ⟨⟨by omega,by omega⟩,_,Nat.mul_one _,?_⟩
        refine ⟨_,stC_bl hfm hcy hfy,?_⟩
        refine ⟨fun _=>?_,fun h=>absurd h (by decide)⟩
        have hor:=Bool.eq_false_or_eq_true (b.testBit p.fr.toNat)
        rcases hor with hby | hby
        ·skip
         refine ⟨⟨by omega,by omega⟩,_,Nat.mul_one _,?_⟩
         refine ⟨_,stC_getV hfm hby,?_⟩
         refine ⟨fun h=>absurd h (by decide),fun _=>?_⟩
         refine ⟨(d:Int)+1,wrap64 (by omega) (by omega),?_⟩
         exact ⟨⟨rfl,okB_sp rfl rfl⟩,⟨d+1,_,by omega,hg2,.inr ⟨rfl,hcl,fun _ ho=>hd1 (by omega) ho,fun _ ho=>(fun _ h=>by rw [hby] at h;cases h),rfl⟩⟩,by show (1000 - ((d:Int)+1)).toNat<(1000 - (d:Int)).toNat;omega⟩
        ·skip
         refine ⟨⟨by omega,by omega⟩,_,Nat.mul_one _,?_⟩
         refine ⟨_,stC_getV hfm hby,?_⟩
         refine ⟨fun _=>?_,fun h=>absurd h (by decide)⟩
         refine ⟨⟨by omega,by omega⟩,_,Nat.mul_one _,?_⟩
         refine ⟨by rw [stC_len];show 0+_+1≤14;omega,_,stC_set hfm,?_⟩
         have hgy:g.testBit p.fr.toNat=false:=by
          cases hgy:g.testBit p.fr.toNat with
          | false=>rfl
          | true =>
           have h1:=(hg.shut i p hp r2).2 hgy hby
           have h2:=hg2 _ h1
           rw [hxF] at h2;cases h2
         have hsub:Sub c2 (c2 ||| 2^p.fr.toNat):=fun x hx=>by rw [or_bit,hx];rfl
         have hls:=unsN_lt hsub hcy (by rw [or_bit,pow_bit];simp) 7 hfm
         refine ⟨(d:Int)+1,wrap64 (by omega) (by omega),?_⟩
         refine ⟨⟨rfl,okB_sp rfl rfl⟩,⟨d+1,c2 ||| 2^p.fr.toNat,by omega,fun x hx=>?_,.inl ⟨by omega,rfl⟩⟩,by show (1000 - ((d:Int)+1)).toNat<(1000 - (d:Int)).toNat;omega⟩
         have h3:=hg2 x hx
         rw [hF] at h3 ⊢
         rw [or_bit,pow_bit,show decide (x=p.fr.toNat)=false from decide_eq_false (fun e=>by rw [e,hgy] at hx;cases hx),Bool.or_false]
         exact h3
     ·skip
      have hor:=Bool.eq_false_or_eq_true (f.testBit p.to.toNat)
      rcases hor with hfx | hfx
      ·skip
       have hxF:(diff f c2).testBit p.to.toNat=true:=by rw [hF,hcx,hfx];rfl
       refine ⟨⟨by omega,by omega⟩,_,Nat.mul_one _,?_⟩
       refine ⟨_,stC_bl htm hcx hfx,?_⟩
       refine ⟨fun h=>absurd h (by decide),fun _=>?_⟩
       refine ⟨(d:Int)+1,wrap64 (by omega) (by omega),?_⟩
       exact ⟨⟨rfl,okB_sp rfl rfl⟩,⟨d+1,_,by omega,hg2,.inr ⟨rfl,hcl,fun _ ho=>hd1 (by omega) ho,fun _ ho=>(fun _ _=>hxF),rfl⟩⟩,by show (1000 - ((d:Int)+1)).toNat<(1000 - (d:Int)).toNat;omega⟩
      ·skip
       have hxF:(diff f c2).testBit p.to.toNat=false:=by rw [hF,hfx,Bool.false_and]
       refine ⟨⟨by omega,by omega⟩,_,Nat.mul_one _,?_⟩
       refine ⟨_,stC_bl htm hcx hfx,?_⟩
       refine ⟨fun _=>?_,fun h=>absurd h (by decide)⟩
       have hor:=Bool.eq_false_or_eq_true (c2.testBit p.fr.toNat)
       rcases hor with hcy | hcy
       ·skip
        have hyF:(diff f c2).testBit p.fr.toNat=false:=by rw [hF,hcy,Bool.not_true,Bool.and_false]
        refine ⟨⟨by omega,by omega⟩,_,Nat.mul_one _,?_⟩
        refine ⟨_,stC_ff hfm hcy,?_⟩
        refine ⟨(d:Int)+1,wrap64 (by omega) (by omega),?_⟩
        exact ⟨⟨rfl,okB_sp rfl rfl⟩,⟨d+1,_,by omega,hg2,.inr ⟨rfl,hcl,fun _ ho=>hd1 (by omega) ho,fun _ ho=>(fun h=>by rw [hyF] at h;cases h),rfl⟩⟩,by show (1000 - ((d:Int)+1)).toNat<(1000 - (d:Int)).toNat;omega⟩
       ·skip
        have hor:=(Bool.eq_false_or_eq_true (f.testBit p.fr.toNat)).symm
        rcases hor with hfy | hfy
        ·skip
         have hyF:(diff f c2).testBit p.fr.toNat=false:=by rw [hF,hfy,Bool.false_and]
         refine ⟨⟨by omega,by omega⟩,_,Nat.mul_one _,?_⟩
         refine ⟨_,stC_bl hfm hcy hfy,?_⟩
         refine ⟨fun h=>absurd h (by decide),fun _=>?_⟩
         refine ⟨(d:Int)+1,wrap64 (by omega) (by omega),?_⟩
         exact ⟨⟨rfl,okB_sp rfl rfl⟩,⟨d+1,_,by omega,hg2,.inr ⟨rfl,hcl,fun _ ho=>hd1 (by omega) ho,fun _ ho=>(fun h=>by rw [hyF] at h;cases h),rfl⟩⟩,by show (1000 - ((d:Int)+1)).toNat<(1000 - (d:Int)).toNat;omega⟩
        ·skip
         refine ⟨⟨by omega,by omega⟩,_,Nat.mul_one _,?_⟩
         refine ⟨_,stC_bl hfm hcy hfy,?_⟩
         refine ⟨fun _=>?_,fun h=>absurd h (by decide)⟩
         have hor:=Bool.eq_false_or_eq_true (b.testBit p.fr.toNat)
         rcases hor with hby | hby
         ·skip
          refine ⟨⟨by omega,by omega⟩,_,Nat.mul_one _,?_⟩
          refine ⟨_,stC_getV hfm hby,?_⟩
          refine ⟨fun h=>absurd h (by decide),fun _=>?_⟩
          refine ⟨(d:Int)+1,wrap64 (by omega) (by omega),?_⟩
          exact ⟨⟨rfl,okB_sp rfl rfl⟩,⟨d+1,_,by omega,hg2,.inr ⟨rfl,hcl,fun _ ho=>hd1 (by omega) ho,fun _ ho=>(fun _ h=>by rw [hby] at h;cases h),rfl⟩⟩,by show (1000 - ((d:Int)+1)).toNat<(1000 - (d:Int)).toNat;omega⟩
         ·skip
          refine ⟨⟨by omega,by omega⟩,_,Nat.mul_one _,?_⟩
          refine ⟨_,stC_getV hfm hby,?_⟩
          refine ⟨fun _=>?_,fun h=>absurd h (by decide)⟩
          refine ⟨⟨by omega,by omega⟩,_,Nat.mul_one _,?_⟩
          refine ⟨by rw [stC_len];show 0+_+1≤14;omega,_,stC_set hfm,?_⟩
          have hgy:g.testBit p.fr.toNat=false:=by
           cases hgy:g.testBit p.fr.toNat with
           | false=>rfl
           | true =>
            have h1:=(hg.shut i p hp r2).2 hgy hby
            have h2:=hg2 _ h1
            rw [hxF] at h2;cases h2
          have hsub:Sub c2 (c2 ||| 2^p.fr.toNat):=fun x hx=>by rw [or_bit,hx];rfl
          have hls:=unsN_lt hsub hcy (by rw [or_bit,pow_bit];simp) 7 hfm
          refine ⟨(d:Int)+1,wrap64 (by omega) (by omega),?_⟩
          refine ⟨⟨rfl,okB_sp rfl rfl⟩,⟨d+1,c2 ||| 2^p.fr.toNat,by omega,fun x hx=>?_,.inl ⟨by omega,rfl⟩⟩,by show (1000 - ((d:Int)+1)).toNat<(1000 - (d:Int)).toNat;omega⟩
          have h3:=hg2 x hx
          rw [hF] at h3 ⊢
          rw [or_bit,pow_bit,show decide (x=p.fr.toNat)=false from decide_eq_false (fun e=>by rw [e,hgy] at hx;cases hx),Bool.or_false]
          exact h3
    ·have s1:((d:Int)==1)=false:=s1
     have hd0:d=0:=by simp at s1;omega
     refine ⟨_,rfl,_,den46 bl i hbl,?_⟩
     refine ⟨fun r2=>?_,fun r2=>?_⟩
     rotate_left
     ·have r2:(!(hasI bl i))=false:=r2
      have r2:hasI bl i=true:=by simpa using r2
      refine ⟨(d:Int)+1,wrap64 (by omega) (by omega),?_⟩
      exact ⟨⟨rfl,okB_sp rfl rfl⟩,⟨d+1,_,by omega,hg2,.inr ⟨rfl,hcl,fun _ ho=>(by rw [r2] at ho;cases ho),fun h=>absurd h (by omega),rfl⟩⟩,by show (1000 - ((d:Int)+1)).toNat<(1000 - (d:Int)).toNat;omega⟩
     have r2:(!(hasI bl i))=true:=r2
     have r2:hasI bl i=false:=by simpa using r2
     have hor:=Bool.eq_false_or_eq_true (c2.testBit p.fr.toNat)
     rcases hor with hcx | hcx
     ·skip
      have hxF:(diff f c2).testBit p.fr.toNat=false:=by rw [hF,hcx,Bool.not_true,Bool.and_false]
      refine ⟨⟨by omega,by omega⟩,_,Nat.mul_one _,?_⟩
      refine ⟨_,stC_ff hfm hcx,?_⟩
      have hor:=Bool.eq_false_or_eq_true (c2.testBit p.to.toNat)
      rcases hor with hcy | hcy
      ·skip
       have hyF:(diff f c2).testBit p.to.toNat=false:=by rw [hF,hcy,Bool.not_true,Bool.and_false]
       refine ⟨⟨by omega,by omega⟩,_,Nat.mul_one _,?_⟩
       refine ⟨_,stC_ff htm hcy,?_⟩
       refine ⟨(d:Int)+1,wrap64 (by omega) (by omega),?_⟩
       exact ⟨⟨rfl,okB_sp rfl rfl⟩,⟨d+1,_,by omega,hg2,.inr ⟨rfl,hcl,fun _ ho=>(fun h=>by rw [hyF] at h;cases h),fun h=>absurd h (by omega),rfl⟩⟩,by show (1000 - ((d:Int)+1)).toNat<(1000 - (d:Int)).toNat;omega⟩
      ·skip
       have hor:=(Bool.eq_false_or_eq_true (f.testBit p.to.toNat)).symm
       rcases hor with hfy | hfy
       ·skip
        have hyF:(diff f c2).testBit p.to.toNat=false:=by rw [hF,hfy,Bool.false_and]
        refine ⟨⟨by omega,by omega⟩,_,Nat.mul_one _,?_⟩
        refine ⟨_,stC_bl htm hcy hfy,?_⟩
        refine ⟨fun h=>absurd h (by decide),fun _=>?_⟩
        refine ⟨(d:Int)+1,wrap64 (by omega) (by omega),?_⟩
        exact ⟨⟨rfl,okB_sp rfl rfl⟩,⟨d+1,_,by omega,hg2,.inr ⟨rfl,hcl,fun _ ho=>(fun h=>by rw [hyF] at h;cases h),fun h=>absurd h (by omega),rfl⟩⟩,by show (1000 - ((d:Int)+1)).toNat<(1000 - (d:Int)).toNat;omega⟩
       ·skip
        refine ⟨⟨by omega,by omega⟩,_,Nat.mul_one _,?_⟩
        refine ⟨_,stC_bl htm hcy hfy,?_⟩
        refine ⟨fun _=>?_,fun h=>absurd h (by decide)⟩
        have hor:=Bool.eq_false_or_eq_true (b.testBit p.to.toNat)
        rcases hor with hby | hby
        ·skip
         refine ⟨⟨by omega,by omega⟩,_,Nat.mul_one _,?_⟩
         refine ⟨_,stC_getV htm hby,?_⟩
         refine ⟨fun h=>absurd h (by decide),fun _=>?_⟩
         refine ⟨(d:Int)+1,wrap64 (by omega) (by omega),?_⟩
         exact ⟨⟨rfl,okB_sp rfl rfl⟩,⟨d+1,_,by omega,hg2,.inr ⟨rfl,hcl,fun _ ho=>(fun _ h=>by rw [hby] at h;cases h),fun h=>absurd h (by omega),rfl⟩⟩,by show (1000 - ((d:Int)+1)).toNat<(1000 - (d:Int)).toNat;omega⟩
        ·skip
         refine ⟨⟨by omega,by omega⟩,_,Nat.mul_one _,?_⟩
         refine ⟨_,stC_getV htm hby,?_⟩
         refine ⟨fun _=>?_,fun h=>absurd h (by decide)⟩
         refine ⟨⟨by omega,by omega⟩,_,Nat.mul_one _,?_⟩
         refine ⟨by rw [stC_len];show 0+_+1≤14;omega,_,stC_set htm,?_⟩
         have hgy:g.testBit p.to.toNat=false:=by
          cases hgy:g.testBit p.to.toNat with
          | false=>rfl
          | true =>
           have h1:=(hg.shut i p hp r2).1 hgy hby
           have h2:=hg2 _ h1
           rw [hxF] at h2;cases h2
         have hsub:Sub c2 (c2 ||| 2^p.to.toNat):=fun x hx=>by rw [or_bit,hx];rfl
         have hls:=unsN_lt hsub hcy (by rw [or_bit,pow_bit];simp) 7 htm
         refine ⟨(d:Int)+1,wrap64 (by omega) (by omega),?_⟩
         refine ⟨⟨rfl,okB_sp rfl rfl⟩,⟨d+1,c2 ||| 2^p.to.toNat,by omega,fun x hx=>?_,.inl ⟨by omega,rfl⟩⟩,by show (1000 - ((d:Int)+1)).toNat<(1000 - (d:Int)).toNat;omega⟩
         have h3:=hg2 x hx
         rw [hF] at h3 ⊢
         rw [or_bit,pow_bit,show decide (x=p.to.toNat)=false from decide_eq_false (fun e=>by rw [e,hgy] at hx;cases hx),Bool.or_false]
         exact h3
     ·skip
      have hor:=Bool.eq_false_or_eq_true (f.testBit p.fr.toNat)
      rcases hor with hfx | hfx
      ·skip
       have hxF:(diff f c2).testBit p.fr.toNat=true:=by rw [hF,hcx,hfx];rfl
       refine ⟨⟨by omega,by omega⟩,_,Nat.mul_one _,?_⟩
       refine ⟨_,stC_bl hfm hcx hfx,?_⟩
       refine ⟨fun h=>absurd h (by decide),fun _=>?_⟩
       refine ⟨(d:Int)+1,wrap64 (by omega) (by omega),?_⟩
       exact ⟨⟨rfl,okB_sp rfl rfl⟩,⟨d+1,_,by omega,hg2,.inr ⟨rfl,hcl,fun _ ho=>(fun _ _=>hxF),fun h=>absurd h (by omega),rfl⟩⟩,by show (1000 - ((d:Int)+1)).toNat<(1000 - (d:Int)).toNat;omega⟩
      ·skip
       have hxF:(diff f c2).testBit p.fr.toNat=false:=by rw [hF,hfx,Bool.false_and]
       refine ⟨⟨by omega,by omega⟩,_,Nat.mul_one _,?_⟩
       refine ⟨_,stC_bl hfm hcx hfx,?_⟩
       refine ⟨fun _=>?_,fun h=>absurd h (by decide)⟩
       have hor:=Bool.eq_false_or_eq_true (c2.testBit p.to.toNat)
       rcases hor with hcy | hcy
       ·skip
        have hyF:(diff f c2).testBit p.to.toNat=false:=by rw [hF,hcy,Bool.not_true,Bool.and_false]
        refine ⟨⟨by omega,by omega⟩,_,Nat.mul_one _,?_⟩
        refine ⟨_,stC_ff htm hcy,?_⟩
        refine ⟨(d:Int)+1,wrap64 (by omega) (by omega),?_⟩
        exact ⟨⟨rfl,okB_sp rfl rfl⟩,⟨d+1,_,by omega,hg2,.inr ⟨rfl,hcl,fun _ ho=>(fun h=>by rw [hyF] at h;cases h),fun h=>absurd h (by omega),rfl⟩⟩,by show (1000 - ((d:Int)+1)).toNat<(1000 - (d:Int)).toNat;omega⟩
       ·skip
        have hor:=(Bool.eq_false_or_eq_true (f.testBit p.to.toNat)).symm
        rcases hor with hfy | hfy
        ·skip
         have hyF:(diff f c2).testBit p.to.toNat=false:=by rw [hF,hfy,Bool.false_and]
         refine ⟨⟨by omega,by omega⟩,_,Nat.mul_one _,?_⟩
         refine ⟨_,stC_bl htm hcy hfy,?_⟩
         refine ⟨fun h=>absurd h (by decide),fun _=>?_⟩
         refine ⟨(d:Int)+1,wrap64 (by omega) (by omega),?_⟩
         exact ⟨⟨rfl,okB_sp rfl rfl⟩,⟨d+1,_,by omega,hg2,.inr ⟨rfl,hcl,fun _ ho=>(fun h=>by rw [hyF] at h;cases h),fun h=>absurd h (by omega),rfl⟩⟩,by show (1000 - ((d:Int)+1)).toNat<(1000 - (d:Int)).toNat;omega⟩
        ·skip
         refine ⟨⟨by omega,by omega⟩,_,Nat.mul_one _,?_⟩
         refine ⟨_,stC_bl htm hcy hfy,?_⟩
         refine ⟨fun _=>?_,fun h=>absurd h (by decide)⟩
         have hor:=Bool.eq_false_or_eq_true (b.testBit p.to.toNat)
         rcases hor with hby | hby
         ·skip
          refine ⟨⟨by omega,by omega⟩,_,Nat.mul_one _,?_⟩
          refine ⟨_,stC_getV htm hby,?_⟩
          refine ⟨fun h=>absurd h (by decide),fun _=>?_⟩
          refine ⟨(d:Int)+1,wrap64 (by omega) (by omega),?_⟩
          exact ⟨⟨rfl,okB_sp rfl rfl⟩,⟨d+1,_,by omega,hg2,.inr ⟨rfl,hcl,fun _ ho=>(fun _ h=>by rw [hby] at h;cases h),fun h=>absurd h (by omega),rfl⟩⟩,by show (1000 - ((d:Int)+1)).toNat<(1000 - (d:Int)).toNat;omega⟩
         ·skip
          refine ⟨⟨by omega,by omega⟩,_,Nat.mul_one _,?_⟩
          refine ⟨_,stC_getV htm hby,?_⟩
          refine ⟨fun _=>?_,fun h=>absurd h (by decide)⟩
          refine ⟨⟨by omega,by omega⟩,_,Nat.mul_one _,?_⟩
          refine ⟨by rw [stC_len];show 0+_+1≤14;omega,_,stC_set htm,?_⟩
          have hgy:g.testBit p.to.toNat=false:=by
           cases hgy:g.testBit p.to.toNat with
           | false=>rfl
           | true =>
            have h1:=(hg.shut i p hp r2).1 hgy hby
            have h2:=hg2 _ h1
            rw [hxF] at h2;cases h2
          have hsub:Sub c2 (c2 ||| 2^p.to.toNat):=fun x hx=>by rw [or_bit,hx];rfl
          have hls:=unsN_lt hsub hcy (by rw [or_bit,pow_bit];simp) 7 htm
          refine ⟨(d:Int)+1,wrap64 (by omega) (by omega),?_⟩
          refine ⟨⟨rfl,okB_sp rfl rfl⟩,⟨d+1,c2 ||| 2^p.to.toNat,by omega,fun x hx=>?_,.inl ⟨by omega,rfl⟩⟩,by show (1000 - ((d:Int)+1)).toNat<(1000 - (d:Int)).toNat;omega⟩
          have h3:=hg2 x hx
          rw [hF] at h3 ⊢
          rw [or_bit,pow_bit,show decide (x=p.to.toNat)=false from decide_eq_false (fun e=>by rw [e,hgy] at hx;cases hx),Bool.or_false]
          exact h3

end Go.Proofs.Vent

namespace Go.Proofs.Vent
open Go.V Go.Proofs

def cellZ (z:Bool) (f i:Nat):D:=match z with | true=>.ff | false=>.bool (f.testBit i)
def stZ (z:Bool) (f b:Nat):List D:=(List.range 7).map (cellZ z f)++(List.range 7).map (cellZ z b)
theorem stZ_ff (f b:Nat):stZ false f b=stA f b:=rfl
theorem stZ_tt:stZ true 0 0=[.ff,.ff,.ff,.ff,.ff,.ff,.ff,.ff,.ff,.ff,.ff,.ff,.ff,.ff]:=rfl
theorem reify_z {bs:List Box} {m:Nat} {z:Bool} {f i:Nat} (h:z=true→f=0):reify bs (m+1) (cellZ z f i)=some (.bool (f.testBit i)):=by
 unfold cellZ
 cases z with
 | true=>rw [h rfl,Nat.zero_testBit];rfl
 | false=>rfl
theorem mapO_stZ {bs:List Box} {m:Nat} {z:Bool} {f b:Nat} (hf:z=true→f=0) (hb:z=true→b=0):mapO (reify bs (m+1)) (stZ z f b)=some (stA f b):=by
 have h2:∀ (l:List Nat),mapO (reify bs (m+1)) (l.map (cellZ z b))=some (l.map (fun i=>D.bool (b.testBit i))):=by
  intro l
  induction l with
  | nil=>rfl
  | cons i l ih=>exact mapO_cons (reify_z hb) ih
 have h1:∀ (l:List Nat),mapO (reify bs (m+1)) (l.map (cellZ z f)++(List.range 7).map (cellZ z b))=some (l.map (fun i=>D.bool (f.testBit i))++bitsD b):=by
  intro l
  induction l with
  | nil=>exact h2 _
  | cons i l ih=>exact mapO_cons (reify_z hf) ih
 exact h1 _
theorem mapO_z {bs:List Box} {m:Nat} (z:Bool) (f:Nat) (h:z=true→f=0):mapO (reify bs (m+1)) ((List.range 7).map (cellZ z f))=some (bitsD f):=by
 have h2:∀ (l:List Nat),mapO (reify bs (m+1)) (l.map (cellZ z f))=some (l.map (fun i=>D.bool (f.testBit i))):=by
  intro l
  induction l with
  | nil=>rfl
  | cons i l ih=>exact mapO_cons (reify_z h) ih
 exact h2 _
theorem okAll_stZ (nb:Nat) (z:Bool) (f b:Nat):okAll nb (stZ z f b)=true:=by cases z <;> rfl
theorem okAll_stA (nb f b:Nat):okAll nb (stA f b)=true:=rfl

def cellT (v f i:Nat):D:=match decide (i=v) with | true=>.tt | false=>.bool (f.testBit i)
def stT (v f b:Nat):List D:=(List.range 7).map (cellT v f)++bitsD b
theorem reify_t {bs:List Box} {m v f i:Nat}:reify bs (m+1) (cellT v f i)=some (.bool ((f ||| 2^v).testBit i)):=by
 unfold cellT
 rw [or_bit,pow_bit]
 cases decide (i=v) with
 | true=>rw [Bool.or_true];rfl
 | false=>rw [Bool.or_false];rfl
theorem mapO_stT {bs:List Box} {m v f b:Nat}:mapO (reify bs (m+1)) (stT v f b)=some (stA (f ||| 2^v) b):=by
 have h1:∀ (l:List Nat),mapO (reify bs (m+1)) (l.map (cellT v f)++bitsD b)=some (l.map (fun i=>D.bool ((f ||| 2^v).testBit i))++bitsD b):=by
  intro l
  induction l with
  | nil=>rfl
  | cons i l ih=>exact mapO_cons reify_t ih
 exact h1 _
theorem stA_len (f b:Nat):(stA f b).length=14:=rfl
theorem stA_getB {f b i:Nat} (h:i<7):(stA f b)[7+i]?=some (.bool (b.testBit i)):=by
 rw [← stC_zero];exact stC_getB h
theorem stA_setF {f b v:Nat} (h:v<7):splice (stA f b) (0+v) [.tt]=stT v f b:=by
 rw [Nat.zero_add,splice_set (by rw [stA_len];omega)]
 unfold stA stT
 rw [List.set_append_left (h:=by rw [bitsD_len];exact h)]
 congr 1
 apply List.ext_getElem?
 intro j
 rw [List.getElem?_set]
 simp only [bitsD,List.getElem?_map,List.length_map,List.length_range]
 by_cases e:v=j
 ·subst e
  rw [if_pos rfl,if_pos h]
  simp [h,cellT]
 ·rw [if_neg e]
  by_cases hj:j<7
  ·simp only [List.getElem?_range hj,Option.map_some,cellT]
   rw [show decide (j=v)=false from decide_eq_false (fun h=>e h.symm)]
  ·simp [hj]
theorem stA_setB {f b b' v:Nat} {x:Bool} (h:v<7) (hb:∀ j,b'.testBit j=if j=v then x else b.testBit j):splice (stA f b) (7+v) [.bool x]=stA f b':=by
 rw [splice_set (by rw [stA_len];omega)]
 unfold stA
 rw [List.set_append_right (h:=by rw [bitsD_len];omega),bitsD_len,show 7+v - 7=v by omega]
 congr 1
 apply List.ext_getElem?
 intro j
 rw [List.getElem?_set]
 simp only [bitsD,List.getElem?_map,List.length_map,List.length_range]
 by_cases e:v=j
 ·subst e
  rw [if_pos rfl,if_pos h]
  simp [h,hb]
 ·rw [if_neg e]
  by_cases hj:j<7
  ·simp only [List.getElem?_range hj,Option.map_some]
   rw [hb j,if_neg (fun h=>e h.symm)]
  ·simp [hj]

theorem look_kept {n:Nt} {bl wt:List Int} {v:Nat} {t:Tk} (ht:n.tanks[v]?=some t):(n.look bl wt).kept.testBit v=t.kept:=by
 show (setOf n.tanks.length n.keptB).testBit v=_
 have hv:=(List.getElem?_eq_some_iff.1 ht).1
 rw [setOf_bit,decide_eq_true hv,Bool.true_and]
 unfold Nt.keptB
 rw [ht]

set_option maxHeartbeats 8000000 in
theorem den60 (n:Nt) (hn:n.Ok) (bl wt:List Int) (hbl:bl.length<9223372036854775808) (f b v:Nat) (hf:f<2^7) (hv:v<n.tanks.length) (off:Bool) :
    DN 60 [.agg n.enc,.list 1 (bl.map encI),.agg (stA f b),.agg [.int .i64 v,.bool off]] (.tup [.agg (stA ((n.look bl wt).stepR f b v off).1.1 ((n.look bl wt).stepR f b v off).1.2),.bool ((n.look bl wt).stepR f b v off).2]):=by
  have h7:=hn.t7
  have hv7:v<7:=by omega
  obtain ⟨t,ht⟩:∃ t,n.tanks[v]?=some t:=⟨_,List.getElem?_eq_getElem hv⟩
  have hk:=look_kept (n:=n) (bl:=bl) (wt:=wt) ht
  have htrow:(n.tanks.map Tk.enc)[((v:Nat):Int).toNat]?=some t.enc:=by rw [Int.toNat_natCast,List.getElem?_map,ht];rfl
  refine mk Try.func60 Try.call60 rfl rfl ?_
  refine Or.inl ⟨by kernel_rfl,?_⟩
  refine ⟨by omega,_,htrow,?_⟩
  refine ⟨fun h1=>?_,fun h1=>?_⟩
  ·have h1:t.kept=true:=h1
   have e:(n.look bl wt).stepR f b v off=((f,b),false):=by unfold NetL.stepR;rw [if_pos (by rw [hk,h1];rfl)]
   rw [e];rfl
  have h1:t.kept=false:=h1
  refine ⟨⟨by omega,by omega⟩,_,Nat.mul_one _,?_⟩
  refine ⟨_,stA_getB hv7,?_⟩
  refine ⟨fun h2=>?_,fun h2=>?_⟩
  ·have h2:(!(b.testBit v==off))=true:=h2
   have e:(n.look bl wt).stepR f b v off=((f,b),false):=by unfold NetL.stepR;rw [if_pos (by rw [hk,h1,h2];rfl)]
   rw [e];rfl
  have h2:(!(b.testBit v==off))=false:=h2
  cases off with
  | true =>
   have e:(n.look bl wt).stepR f b v true=(((n.look bl wt).spread f (diff b (2^v)),diff b (2^v)),true):=by unfold NetL.stepR;rw [if_neg (by rw [hk,h1,h2];decide)]
   rw [e]
   have h90:=den90 n hn bl hbl f (diff b (2^v)) _ (spread_sp hn bl wt hf)
   refine ⟨⟨by omega,by omega⟩,_,Nat.mul_one _,?_⟩
   refine ⟨by rw [stA_len];show 7+_+1≤14;omega,_,stA_setB hv7 diff_at,?_⟩
   refine ⟨fun h=>absurd h (by decide),fun _=>?_⟩
   exact ⟨_,rfl,_,h90,rfl⟩
  | false =>
   have e:(n.look bl wt).stepR f b v false=(((n.look bl wt).spread (f ||| 2^v) (b ||| 2^v),b ||| 2^v),true):=by unfold NetL.stepR;rw [if_neg (by rw [hk,h1,h2];decide)]
   rw [e]
   have h90:=den90 n hn bl hbl (f ||| 2^v) (b ||| 2^v) _ (spread_sp hn bl wt (or_lt hf (pow7 hv7)))
   refine ⟨⟨by omega,by omega⟩,_,Nat.mul_one _,?_⟩
   refine ⟨by rw [stA_len];show 7+_+1≤14;omega,_,stA_setB hv7 or_at,?_⟩
   refine ⟨fun _=>?_,fun h=>absurd h (by decide)⟩
   refine ⟨⟨by omega,by omega⟩,_,Nat.mul_one _,?_⟩
   refine ⟨by rw [stA_len];show 0+_+1≤14;omega,_,stA_setF hv7,?_⟩
   exact ⟨_,mapO_cons rfl (mapO_cons rfl (mapO_cons (reify_agg (mapO_stT (v:=v) (f:=f) (b:=b ||| 2^v))) rfl)),_,h90,rfl⟩

set_option maxHeartbeats 16000000 in
theorem den21 (n:Nt) (bl:List Int) (steps:List Vs) (hbl:bl.length<9223372036854775808) (hsl0:steps.length<9223372036854775808):DN 21 [.agg n.enc,.list 1 (bl.map encI),.list 2 (steps.map Vs.enc)] (afterD (n.afterR bl steps)):=by
 have hsl:((steps.map Vs.enc).length:Int)=steps.length:=by simp
 have htl:((n.tanks.map Tk.enc).length:Int)=n.tanks.length:=by simp
 refine mk Try.func21 Try.call21 rfl rfl ?_
 refine ⟨_,rfl,_,den42 n bl hbl,?_⟩
 obtain ⟨e0,he0⟩:∃ e,n.lookE bl [] false=e:=⟨_,rfl⟩
 rw [he0]
 obtain ⟨m,hm⟩:∃ m,n.look bl []=m:=⟨_,rfl⟩
 -- the loop,from an error on
 have bad:∀ (e:Int),e≠0→∀ r:Int × Nat × Nat,r.1=e→afterD r=.tup [.agg [.list 0 [],.list 0 []],.int .i64 e]:=fun e h r hr=>by
  obtain ⟨a,y⟩:=r
  have hr:a=e:=hr
  subst hr
  exact afterD_bad h
 refine ⟨fun h1=>?_,fun h1=>?_⟩
 rotate_left
 ·
  have h1:(e0==0)=false:=h1
  have h1:e0≠0:=by simpa using h1
  have hR:(n.afterR bl steps).1=e0:=by unfold Nt.afterR;rw [if_neg (by rw [he0];exact h1),he0]
  rw [bad e0 h1 _ hR]
  refine ⟨[1,2,3,6,8,9,10],3,[],fun σ=>σ=⟨[(1,.list 1 (bl.map encI)),(2,.list 2 (steps.map Vs.enc)),(3,.loc 0 0),(6,.loc 1 0),(8,.int .i64 e0),(9,.loc 2 0),(10,.int .i64 0)],[.flat false n.enc,.flat false [.nils,.nils],.flat false (stZ true 0 0)],.non⟩,
   fun σ=>0,rfl,⟨rfl,rfl⟩,rfl,?_⟩
  rintro σ rfl
  have hex:(e0 != 0)=true:=by simpa using h1
  refine ⟨fun q1=>?_,fun q1=>?_⟩
  ·refine ⟨fun q2=>?_,fun q2=>?_⟩
   ·have q2:(e0==0)=true:=q2
    exact absurd (by simpa using q2) h1
   ·refine ⟨fun _=>rfl,fun q3=>?_⟩
    rw [hex] at q3;cases q3
  ·refine ⟨fun _=>rfl,fun q3=>?_⟩
   rw [hex] at q3;cases q3
 have h1:(e0==0)=true:=h1
 obtain rfl:e0=0:=by simpa using h1
 have hn:=(Nt.lookE_ok he0).1
 have h7:=hn.t7
 have hR:n.afterR bl steps=if steps.length > 60 then (3,0,0) else m.afterL steps 0 0:=by unfold Nt.afterR;rw [if_pos he0,hm]
 have hmt:m.tanks=n.tanks:=by rw [← hm];rfl
 refine ⟨fun h2=>?_,fun h2=>?_⟩
 ·have h2:=of_decide_eq_true h2
  rw [hsl] at h2
  rw [if_pos (by omega)] at hR
  rw [hR,afterD_bad (by decide)]
  refine ⟨[1,2,3,6,8,9,10],3,[],fun σ=>σ=⟨[(1,.list 1 (bl.map encI)),(2,.list 2 (steps.map Vs.enc)),(3,.loc 0 0),(6,.loc 1 0),(8,.int .i64 3),(9,.loc 2 0),(10,.int .i64 0)],[.flat false n.enc,.flat false [.nils,.nils],.flat false (stZ true 0 0)],.non⟩,
   fun σ=>0,rfl,⟨rfl,rfl⟩,rfl,?_⟩
  rintro σ rfl
  refine ⟨fun q1=>?_,fun q1=>?_⟩
  ·refine ⟨fun h=>absurd h (by decide),fun _=>?_⟩
   exact ⟨fun _=>rfl,fun h=>absurd h (by decide)⟩
  ·exact ⟨fun _=>rfl,fun h=>absurd h (by decide)⟩
 have h2:=of_decide_eq_false h2
 rw [hsl] at h2
 rw [if_neg (by omega)] at hR
 refine ⟨[1,2,3,6,8,9,10],3,[],fun σ=>∃ (i f b:Nat) (e:Int) (z:Bool),i≤steps.length∧f<2^7∧b<2^7∧(z=true→f=0)∧(z=true→b=0)∧(e=0→n.afterR bl steps=m.afterL (steps.drop i) f b)∧(e≠0→(n.afterR bl steps).1=e) ∧
  σ=⟨[(1,.list 1 (bl.map encI)),(2,.list 2 (steps.map Vs.enc)),(3,.loc 0 0),(6,.loc 1 0),(8,.int .i64 e),(9,.loc 2 0),(10,.int .i64 i)],[.flat false n.enc,.flat false [.nils,.nils],.flat false (stZ z f b)],.non⟩,
  fun σ=>(1000 - slotI 10 σ).toNat,rfl,⟨rfl,rfl⟩,⟨0,0,0,0,true,Nat.zero_le _,by decide,by decide,fun _=>rfl,fun _=>rfl,fun _=>hR,fun h=>absurd rfl h,rfl⟩,?_⟩
 rintro σ ⟨i,f,b,e,z,hi,hf,hb,hzf,hzb,hrec,herr,rfl⟩
 have okB:∀ (z:Bool) (f b:Nat),okBoxes 3 [.flat false n.enc,.flat false [.nils,.nils],.flat false (stZ z f b)]=true:=fun z f b=>by simp [okBoxes,okAll_stZ];rfl
 have fail:e≠0→afterD (n.afterR bl steps)=.tup [.agg [.list 0 [],.list 0 []],.int .i64 e]:=fun h=>bad e h _ (herr h)
 refine ⟨fun q1=>?_,fun q1=>?_⟩
 rotate_left
 ·have q1:=of_decide_eq_false q1
  rw [hsl] at q1
  refine ⟨fun q2=>?_,fun q2=>?_⟩
  ·have q2:(e != 0)=true:=q2
   rw [fail (by simpa using q2)]
   rfl
  ·have q2:(e != 0)=false:=q2
   obtain rfl:e=0:=by simpa using q2
   have hrec:=hrec rfl
   rw [List.drop_of_length_le (by omega)] at hrec
   rw [hrec]
   cases z with
   | true =>
    refine Or.inl ⟨by kernel_rfl,?_⟩
    refine ⟨_,mapO_cons (reify_agg (mapO_z true f hzf)) rfl,_,den61 f,?_⟩
    refine ⟨_,mapO_cons (reify_agg (mapO_z true b hzb)) rfl,_,den61 b,?_⟩
    rfl
   | false =>
    refine Or.inl ⟨by kernel_rfl,?_⟩
    refine ⟨_,mapO_cons (reify_agg (mapO_z false f hzf)) rfl,_,den61 f,?_⟩
    refine ⟨_,mapO_cons (reify_agg (mapO_z false b hzb)) rfl,_,den61 b,?_⟩
    rfl
 have q1:=of_decide_eq_true q1
 rw [hsl] at q1
 have hi':i<steps.length:=by omega
 have less:(1000 - ((i:Int)+1)).toNat<(1000 - (i:Int)).toNat:=by omega
 refine ⟨fun q2=>?_,fun q2=>?_⟩
 rotate_left
 ·have q2:(e==0)=false:=q2
  have q2:e≠0:=by simpa using q2
  refine ⟨fun _=>?_,fun q3=>?_⟩
  ·rw [fail q2];rfl
  ·have q3:(e != 0)=false:=q3
   exact absurd (by simpa using q3) q2
 have q2:(e==0)=true:=q2
 obtain rfl:e=0:=by simpa using q2
 have hrec:=hrec rfl
 obtain ⟨x,hx⟩:∃ x,steps[i]'hi'=x:=⟨_,rfl⟩
 have hdrop:steps.drop i=x::steps.drop (i+1):=by rw [List.drop_eq_getElem_cons hi',hx]
 have hrow:(steps.map Vs.enc)[((i:Int)).toNat]?=some x.enc:=by simp [hi',hx]
 have hst:m.afterL (steps.drop i) f b=match offB n.tanks.length x.tank with
  | true=>(4,f,b)
  | false=>match m.stepR f b x.tank.toNat x.off with
   | (_,false)=>(2,f,b)
   | ((f',b'),true)=>m.afterL (steps.drop (i+1)) f' b':=by rw [hdrop,← hmt];rfl
 have h54:DN 54 [.int .i64 x.tank,.int .i64 ((n.tanks.map Tk.enc).length:Int)] (.bool (!(offB n.tanks.length x.tank))):=by
  have h:=den54 x.tank ((n.tanks.map Tk.enc).length:Int)
  rw [show offB ((n.tanks.map Tk.enc).length:Int) x.tank=offB n.tanks.length x.tank by rw [htl]] at h
  exact h
 refine Or.inl ⟨by kernel_rfl,?_⟩
 refine ⟨by omega,_,hrow,?_⟩
 refine ⟨_,rfl,_,h54,?_⟩
 refine ⟨fun q3=>?_,fun q3=>?_⟩
 ·have q3:(!(!(offB n.tanks.length x.tank)))=true:=q3
  rw [Bool.not_not] at q3
  rw [q3] at hst
  refine ⟨(i:Int)+1,wrap64 (by omega) (by omega),?_⟩
  exact ⟨⟨rfl,okB z f b⟩,⟨i+1,f,b,4,z,hi',hf,hb,hzf,hzb,fun h=>absurd h (by decide),fun _=>by rw [hrec,hst],rfl⟩,less⟩
 have q3:(!(!(offB n.tanks.length x.tank)))=false:=q3
 rw [Bool.not_not] at q3
 rw [q3] at hst
 have hst:m.afterL (steps.drop i) f b=match m.stepR f b x.tank.toNat x.off with
     | (_,false)=>(2,f,b)
     | ((f',b'),true)=>m.afterL (steps.drop (i+1)) f' b':=hst
 have hin:=offB_false q3
 obtain ⟨t,ht⟩:∃ t:Nat,x.tank=t:=⟨x.tank.toNat,by omega⟩
 have hx0:x.tank.toNat=t:=by omega
 rw [hx0] at hst
 have h60:=den60 n hn bl [] hbl f b t hf (by omega) x.off
 rw [hm] at h60
 have hlt:=m.stepR_lt (i:=t) (off:=x.off) hf hb (by omega)
 rw [← ht] at h60
 obtain ⟨⟨⟨f',b'⟩,is_⟩,hres⟩:∃ y,m.stepR f b t x.off=y:=⟨_,rfl⟩
 rw [hres] at h60 hst hlt
 refine Or.inr (Or.inl ⟨12,[10,11],by kernel_rfl,?_⟩)
 refine ⟨by omega,_,hrow,?_⟩
 refine ⟨_,mapO_cons rfl (mapO_cons rfl (mapO_cons (reify_agg (mapO_stZ hzf hzb)) rfl)),_,h60,?_⟩
 refine ⟨⟨rfl,trivial⟩,?_⟩
 refine ⟨trivial,?_⟩
 cases is_ with
 | false =>
  have hst:m.afterL (steps.drop i) f b=(2,f,b):=hst
  refine ⟨fun _=>?_,fun h=>Bool.noConfusion (show true=false from h)⟩
  refine ⟨(i:Int)+1,wrap64 (by omega) (by omega),?_⟩
  exact ⟨⟨rfl,okB false f' b'⟩,⟨i+1,f',b',2,false,hi',hlt.1,hlt.2,(fun h=>by cases h),(fun h=>by cases h),fun h=>absurd h (by decide),fun _=>by rw [hrec,hst],rfl⟩,less⟩
 | true =>
  have hst:m.afterL (steps.drop i) f b=m.afterL (steps.drop (i+1)) f' b':=hst
  refine ⟨fun h=>Bool.noConfusion (show false=true from h),fun _=>?_⟩
  refine ⟨(i:Int)+1,wrap64 (by omega) (by omega),?_⟩
  exact ⟨⟨rfl,okB false f' b'⟩,⟨i+1,f',b',0,false,hi',hlt.1,hlt.2,(fun h=>by cases h),(fun h=>by cases h),fun _=>hrec.trans hst,fun h=>absurd rfl h,rfl⟩,less⟩

end Go.Proofs.Vent
