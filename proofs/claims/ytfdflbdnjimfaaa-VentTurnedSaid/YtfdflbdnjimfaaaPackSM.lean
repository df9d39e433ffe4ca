/- Nets in another order: as many blanks, as many blowers; A net whose pipes are turned round; a net whose tanks and pipes begin elsewhere; A net whose tanks and pipes begin elsewhere. No condition. -/
import Derived.Test.YtfdflbdnjimfaaaPackTS
import Derived.Test.YtfdflbdnjimfaaaPackTV
import Derived.Test.YtfdflbdnjimfaaaPackSL
import Derived.Test.YtfdflbdnjimfaaaPackTZ
import Derived.Test.YtfdflbdnjimfaaaPackSH
import Derived.Test.YtfdflbdnjimfaaaPackTW
import Derived.Test.YtfdflbdnjimfaaaPackSG

namespace Go.Proofs.Vent
open Go.V Go.Proofs

theorem len_sub:∀ {l k:List Nat},l.Nodup→(∀ x∈l,x∈k)→l.length≤k.length
 | [],_,_,_=>Nat.zero_le _
 | x::l,k,hn,h=>by
  have h1:=List.nodup_cons.1 hn
  have hx:=h x (by simp)
  have h2:=List.length_erase_of_mem hx
  have h3:=len_sub (l:=l) (k:=k.erase x) h1.2 fun y hy=>(List.mem_erase_of_ne (fun e:y=x=>h1.1 (e ▸ hy))).2 (h y (by simp [hy]))
  have h4:0<k.length:=List.length_pos_of_mem hx
  rw [List.length_cons]
  omega

structure Iso (n m:NetL) (τ τ' π π':Nat→Nat):Prop where
 tl:m.tanks.length=n.tanks.length
 pl:m.pipes.length=n.pipes.length
 t1:∀ v,v<n.tanks.length→τ v<n.tanks.length∧τ' (τ v)=v
 t2:∀ v,v<n.tanks.length→τ' v<n.tanks.length∧τ (τ' v)=v
 p1:∀ i,i<n.pipes.length→π i<n.pipes.length∧π' (π i)=i
 p2:∀ i,i<n.pipes.length→π' i<n.pipes.length∧π (π' i)=i
 kept:∀ v,v<n.tanks.length→m.kept.testBit (τ v)=n.kept.testBit v
 want:∀ v,v<n.tanks.length→m.wanted.testBit (τ v)=n.wanted.testBit v
 pipe:∀ i p,n.pipes[i]?=some p→∃ q,m.pipes[π i]?=some q∧q.welded=p.welded∧((q.fr=τ p.fr∧q.to=τ p.to)∨(q.fr=τ p.to∧q.to=τ p.fr))∧m.opN (π i)=n.opN i

theorem Iso.symm {n m:NetL} (hn:n.Ok) {τ τ' π π':Nat→Nat} (h:Iso n m τ τ' π π'):Iso m n τ' τ π' π:=by
 refine ⟨h.tl.symm,h.pl.symm,fun v hv=>?_,fun v hv=>?_,fun i hi=>?_,fun i hi=>?_,fun v hv=>?_,fun v hv=>?_,fun i q hq=>?_⟩
 ·rw [h.tl] at hv ⊢;exact h.t2 v hv
 ·rw [h.tl] at hv ⊢;exact h.t1 v hv
 ·rw [h.pl] at hi ⊢;exact h.p2 i hi
 ·rw [h.pl] at hi ⊢;exact h.p1 i hi
 ·rw [h.tl] at hv
  have:=h.kept (τ' v) (h.t2 v hv).1
  rw [(h.t2 v hv).2] at this
  exact this.symm
 ·rw [h.tl] at hv
  have:=h.want (τ' v) (h.t2 v hv).1
  rw [(h.t2 v hv).2] at this
  exact this.symm
 ·have hi:i<n.pipes.length:=by rw [← h.pl];exact (List.getElem?_eq_some_iff.1 hq).1
  obtain ⟨h1,h2⟩:=h.p2 i hi
  obtain ⟨p,hp⟩:∃ p,n.pipes[π' i]?=some p:=⟨_,List.getElem?_eq_getElem h1⟩
  obtain ⟨q',a1,a2,a3,a4⟩:=h.pipe (π' i) p hp
  rw [h2] at a1 a4
  rw [hq] at a1
  cases a1
  have hpe:=hn.pe p (List.mem_of_getElem? hp)
  have e1:=(h.t1 p.fr hpe.1).2
  have e2:=(h.t1 p.to hpe.2.1).2
  refine ⟨p,hp,a2.symm,?_,a4.symm⟩
  rcases a3 with ⟨x,y⟩ | ⟨x,y⟩
  ·left;rw [x,y,e1,e2];exact ⟨rfl,rfl⟩
  ·right;rw [x,y,e1,e2];exact ⟨rfl,rfl⟩
section
variable {n m:NetL} {τ τ' π π':Nat→Nat}
theorem Iso.adj (h:Iso n m τ τ' π π') {u v:Nat} (ha:n.adj u v):m.adj (τ u) (τ v):=by
 obtain ⟨i,p,h1,h2,h3⟩:=ha
 obtain ⟨q,a1,_,a3,a4⟩:=h.pipe i p h1
 refine ⟨π i,q,a1,by rw [a4];exact h2,?_⟩
 rcases h3 with ⟨rfl,rfl⟩ | ⟨rfl,rfl⟩
 ·exact a3
 ·rcases a3 with ⟨x,y⟩ | ⟨x,y⟩
  ·exact .inr ⟨x,y⟩
  ·exact .inl ⟨x,y⟩
theorem Iso.less (hn:n.Ok) (hm:m.Ok) (h:Iso n m τ τ' π π') (B:Nat→Bool):Iso (n.less B) (m.less fun i=>B (π' i)) τ τ' π π':=by
 refine ⟨h.tl,h.pl,h.t1,h.t2,h.p1,h.p2,h.kept,h.want,fun i p hp=>?_⟩
 have hp:n.pipes[i]?=some p:=hp
 obtain ⟨q,a1,a2,a3,a4⟩:=h.pipe i p hp
 refine ⟨q,a1,a2,a3,?_⟩
 rw [NetL.less_op m hm,NetL.less_op n hn,a4,(h.p1 i (List.getElem?_eq_some_iff.1 hp).1).2]
theorem Iso.con (h:Iso n m τ τ' π π') {u v:Nat} (hc:n.Con u v):m.Con (τ u) (τ v):=by
 induction hc with
 | refl=>exact .refl _
 | step _ ha ih=>exact .step ih (h.adj ha)

theorem Iso.sep (hn:n.Ok) (hm:m.Ok) (h:Iso n m τ τ' π π') {B:Nat→Bool} (hk:∀ v,m.kept.testBit v=true→v<m.tanks.length) (hw:∀ v,m.wanted.testBit v=true→v<m.tanks.length) (hs:n.Sep B):m.Sep fun i=>B (π' i):=by
 intro k t h1 h2 hc
 have hk:=hk k h1
 have hw:=hw t h2
 rw [h.tl] at hk hw
 have hl:=(h.less hn hm B).symm (NetL.less_ok hn B)
 have hc:=hl.con hc
 obtain ⟨a1,a2⟩:=h.t2 k hk
 obtain ⟨b1,b2⟩:=h.t2 t hw
 refine hs (τ' k) (τ' t) ?_ ?_ hc
 ·have:=h.kept (τ' k) a1;rw [a2] at this;rw [← this];exact h1
 ·have:=h.want (τ' t) b1;rw [b2] at this;rw [← this];exact h2
theorem Iso.fl (hn:n.Ok) (h:Iso n m τ τ' π π') {B:Nat→Bool} (hs:n.Fl B):m.Fl fun i=>B (π' i):=by
 intro i q hq hb
 obtain ⟨p,a1,a2,_⟩:=(h.symm hn).pipe i q hq
 rw [← a2]
 exact hs _ p a1 hb
theorem Iso.many (h:Iso n m τ τ' π π') (B:Nat→Bool):m.many (fun i=>B (π' i))=n.many B:=by
 unfold NetL.many
 have key:∀ (a b:Nat) (f g:Nat→Nat) (P Q:Nat→Bool),(∀ i,i<a→f i<b∧g (f i)=i)→(∀ i,i<a→Q (f i)=P i)→((List.range a).filter P).length≤((List.range b).filter Q).length:=by
  intro a b f g P Q h1 h2
  rw [← List.length_map (f:=f)]
  refine len_sub ?_ fun x hx=>?_
  ·unfold List.Nodup
   rw [List.pairwise_map]
   have hnd:((List.range a).filter P).Nodup:=List.Pairwise.filter _ List.nodup_range
   refine List.Pairwise.imp_of_mem ?_ hnd
   intro x y hx hy hne e
   have hx':=(h1 x (List.mem_range.1 (List.mem_filter.1 hx).1)).2
   have hy':=(h1 y (List.mem_range.1 (List.mem_filter.1 hy).1)).2
   rw [e,hy'] at hx'
   exact hne hx'.symm
  ·obtain ⟨i,hi,rfl⟩:=List.mem_map.1 hx
   rw [List.mem_filter,List.mem_range] at hi
   rw [List.mem_filter,List.mem_range]
   exact ⟨(h1 i hi.1).1,by rw [h2 i hi.1];exact hi.2⟩
 refine Nat.le_antisymm ?_ ?_
 ·rw [h.pl]
  exact key _ _ π' π _ _ h.p2 fun i _=>rfl
 ·rw [h.pl]
  exact key _ _ π π' _ _ h.p1 fun i hi=>by rw [(h.p1 i hi).2]
theorem Iso.need (hn:n.Ok) (hm:m.Ok) (h:Iso n m τ τ' π π') (hk:∀ v,m.kept.testBit v=true→v<m.tanks.length) (hw:∀ v,m.wanted.testBit v=true→v<m.tanks.length) {T:Nat} {B:Nat→Bool} (h1:n.Sep B) (h2:n.Fl B) (h3:n.many B=T) :
    ∃ B',m.Sep B'∧m.Fl B'∧m.many B'=T:=⟨_,h.sep hn hm hk hw h1,h.fl hn h2,by rw [h.many];exact h3⟩

def Img (L:Nat) (τ':Nat→Nat) (f f':Nat):Prop:=f'<2^7∧∀ v,f'.testBit v=(decide (v<L) && f.testBit (τ' v))
theorem Img.ex (L:Nat) (hL:L≤7) (τ':Nat→Nat) (f:Nat):∃ f',Img L τ' f f':=by
 obtain ⟨x,h1,h2⟩:=bitsOf (fun v=>decide (v<L) && f.testBit (τ' v)) 7
 refine ⟨x,h1,fun v=>?_⟩
 rw [h2]
 by_cases h:v<L
 ·rw [decide_eq_true h,decide_eq_true (by omega)];simp
 ·rw [decide_eq_false h];simp
theorem Img.one {L:Nat} {τ':Nat→Nat} {f a b:Nat} (h1:Img L τ' f a) (h2:Img L τ' f b):a=b:=Nat.eq_of_testBit_eq fun i=>by rw [h1.2,h2.2]
theorem Img.zero (L:Nat) (τ':Nat→Nat):Img L τ' 0 0:=⟨by decide,fun v=>by rw [Nat.zero_testBit,Nat.zero_testBit,Bool.and_false]⟩
theorem Img.at {f f' v:Nat} (h:Iso n m τ τ' π π') (hf:Img n.tanks.length τ' f f') (hv:v<n.tanks.length):f'.testBit (τ v)=f.testBit v:=by
 rw [hf.2,decide_eq_true (h.t1 v hv).1,(h.t1 v hv).2];rfl
theorem Img.on {f f' i:Nat} (h7:n.tanks.length≤7) (h:Iso n m τ τ' π π') (hf:Img n.tanks.length τ' f f') (hi:i<n.tanks.length):Img n.tanks.length τ' (f ||| 2^i) (f' ||| 2^(τ i)):=by
 obtain ⟨h1,h2⟩:=h.t1 i hi
 refine ⟨or_lt hf.1 (pow7 (by omega)),fun v=>?_⟩
 rw [or_at,or_at,hf.2]
 by_cases e:v=τ i
 ·subst e
  rw [if_pos rfl,if_pos h2,decide_eq_true h1];rfl
 ·rw [if_neg e]
  by_cases hv:v<n.tanks.length
  ·rw [if_neg fun e2=>e (by rw [← e2,(h.t2 v hv).2])]
  ·rw [decide_eq_false hv];rfl
theorem Img.off {f f' i:Nat} (h:Iso n m τ τ' π π') (hf:Img n.tanks.length τ' f f') (hi:i<n.tanks.length):Img n.tanks.length τ' (diff f (2^i)) (diff f' (2^(τ i))):=by
 obtain ⟨h1,h2⟩:=h.t1 i hi
 refine ⟨diff_lt hf.1,fun v=>?_⟩
 rw [diff_at,diff_at,hf.2]
 by_cases e:v=τ i
 ·subst e
  rw [if_pos rfl,if_pos h2,Bool.and_false]
 ·rw [if_neg e]
  by_cases hv:v<n.tanks.length
  ·rw [if_neg fun e2=>e (by rw [← e2,(h.t2 v hv).2])]
  ·rw [decide_eq_false hv];rfl
theorem Img.shut (hm:m.Ok) (h:Iso n m τ τ' π π') (hn:n.Ok) {X X' b b':Nat} (hX:Img n.tanks.length τ' X X') (hb:Img n.tanks.length τ' b b') (hs:n.Shut b X):m.Shut b' X':=by
 intro u v hu hbu ha
 obtain ⟨l1,l2⟩:=NetL.adj_lt hm ha
 rw [h.tl] at l1 l2
 rw [hX.2,decide_eq_true l1,Bool.true_and] at hu
 rw [hb.2,decide_eq_true l1,Bool.true_and] at hbu
 rw [hX.2,decide_eq_true l2,Bool.true_and]
 exact hs _ _ hu hbu ((h.symm hn).adj ha)
theorem Img.back (h:Iso n m τ τ' π π') {f f':Nat} (hf:Img n.tanks.length τ' f f') (h7:f<2^7) (hl:∀ v,f.testBit v=true→v<n.tanks.length):Img m.tanks.length τ f' f:=by
 refine ⟨h7,fun v=>?_⟩
 rw [h.tl]
 by_cases hv:v<n.tanks.length
 ·rw [decide_eq_true hv,Bool.true_and,hf.at h hv]
 ·rw [decide_eq_false hv,Bool.false_and]
  cases hb:f.testBit v with
  | false=>rfl
  | true=>exact absurd (hl v hb) hv
theorem Img.spread (hn:n.Ok) (hm:m.Ok) (h:Iso n m τ τ' π π') {f f' b b':Nat} (hf:Img n.tanks.length τ' f f') (hb:Img n.tanks.length τ' b b') (h7:f<2^7) (hb7:b<2^7) (hbl:∀ v,b.testBit v=true→v<n.tanks.length):Img n.tanks.length τ' (n.spread f b) (m.spread f' b'):=by
 have ht7:=hn.t7
 obtain ⟨X',hX⟩:=Img.ex n.tanks.length ht7 τ' (n.spread f b)
 obtain ⟨Y,hY⟩:=Img.ex n.tanks.length ht7 τ (m.spread f' b')
 have hc:=hX.shut hm h hn hb (NetL.spread_closed h7 b)
 have h1:Sub X' (m.spread f' b'):=NetL.spread_most hc fun v hv=>by
  rw [hX.2,Bool.and_eq_true] at hv
  rw [hf.2,hv.1,n.spread_sub _ _ _ hv.2];rfl
 have hY':Img m.tanks.length τ (m.spread f' b') Y:=by rw [h.tl];exact hY
 have hc2:=hY'.shut hn (h.symm hn) hm (hb.back h hb7 hbl) (NetL.spread_closed hf.1 b')
 have h2:Sub Y (n.spread f b):=NetL.spread_most hc2 fun v hv=>by
  rw [hY.2,Bool.and_eq_true] at hv
  have h3:=m.spread_sub _ _ _ hv.2
  have h4:=of_decide_eq_true hv.1
  rw [hf.at h h4] at h3
  exact h3
 have h3:X'=m.spread f' b':=by
  refine h1.antisymm fun v hv=>?_
  have hv2:=m.spread_sub _ _ _ hv
  rw [hf.2,Bool.and_eq_true] at hv2
  have hl:=of_decide_eq_true hv2.1
  rw [hX.2,hv2.1,Bool.true_and]
  refine h2 _ ?_
  rw [hY.2,decide_eq_true (h.t2 v hl).1,(h.t2 v hl).2,hv];rfl
 rw [← h3]
 exact hX
theorem Img.pop (h:Iso n m τ τ' π π') (h7:n.tanks.length≤7) {b b':Nat} (hb:Img n.tanks.length τ' b b'):pop b'≤pop b:=by
 unfold Vent.pop
 rw [← List.length_map (f:=τ')]
 have hmem:∀ v∈tanksU b',v<n.tanks.length∧b.testBit (τ' v)=true:=fun v hv=>by
  have:=(mem_tanksU.1 hv).2
  rw [hb.2,Bool.and_eq_true] at this
  exact ⟨of_decide_eq_true this.1,this.2⟩
 refine len_sub ?_ fun x hx=>?_
 ·unfold List.Nodup
  rw [List.pairwise_map]
  have hnd:(tanksU b').Nodup:=List.Pairwise.filter _ List.nodup_range
  refine List.Pairwise.imp_of_mem ?_ hnd
  intro x y hx hy hne e
  have hx':=(h.t2 x (hmem x hx).1).2
  rw [e,(h.t2 y (hmem y hy).1).2] at hx'
  exact hne hx'.symm
 ·obtain ⟨v,hv,rfl⟩:=List.mem_map.1 hx
  obtain ⟨h1,h2⟩:=hmem v hv
  exact mem_tanksU.2 ⟨by have:=(h.t2 v h1).1;omega,h2⟩
theorem Iso.rch (hn:n.Ok) (hm:m.Ok) (h:Iso n m τ τ' π π') {bw:Int} {k f b:Nat} (hr:n.Rch bw k f b):∃ f' b',Img n.tanks.length τ' f f'∧Img n.tanks.length τ' b b'∧m.Rch bw k f' b':=by
 have h7:=hn.t7
 induction hr with
 | zero=>exact ⟨0,0,.zero _ _,.zero _ _,.zero⟩
 | @step k f b i f1 b1 hr hi hs hp ih =>
  obtain ⟨f',b',i1,i2,i3⟩:=ih
  obtain ⟨hst,hfl⟩:=hr.ok hn
  obtain ⟨kk,_⟩:=stepR_true hs
  have kk':m.kept.testBit (τ i)=false:=by rw [h.kept i hi];exact kk
  have hi':τ i<m.tanks.length:=by rw [h.tl];exact (h.t1 i hi).1
  have hbb:=i2.at h hi
  have hbl:∀ v,b.testBit v=true→v<n.tanks.length:=fun v hv=>(hfl v (hst.sub v hv)).2
  cases hb:b.testBit i with
  | true =>
   rw [hb,stepR_off kk hb] at hs
   cases hs
   have hd:=i2.off h hi
   have hsp:=Img.spread hn hm h i1 hd hst.f7 (diff_lt hst.b7) fun v hv=>hbl v (by rw [diff_bit,Bool.and_eq_true] at hv;exact hv.1)
   refine ⟨_,_,hsp,hd,.step i3 hi' (by rw [hbb,hb];exact stepR_off kk' (by rw [hbb];exact hb)) ?_⟩
   have:=hd.pop h h7
   omega
  | false =>
   rw [hb,stepR_on kk hb] at hs
   cases hs
   have hd:=i2.on h7 h hi
   have hsp:=Img.spread hn hm h (i1.on h7 h hi) hd (or_lt hst.f7 (pow7 (by omega))) (or_lt hst.b7 (pow7 (by omega))) fun v hv=>by
    rw [or_at] at hv
    by_cases e:v=i
    ·subst e;exact hi
    ·rw [if_neg e] at hv;exact hbl v hv
   refine ⟨_,_,hsp,hd,.step i3 hi' (by rw [hbb,hb];exact stepR_on kk' (by rw [hbb];exact hb)) ?_⟩
   have:=hd.pop h h7
   omega
theorem Iso.plan (hn:n.Ok) (hm:m.Ok) (h:Iso n m τ τ' π π') (hw:∀ v,m.wanted.testBit v=true→v<m.tanks.length) {bw:Int} {l:List Vs} (hp:n.plan bw=some l):∃ l',m.plan bw=some l':=by
 have h1:=NetL.plan_ok hn bw
 rw [hp] at h1
 obtain ⟨⟨f,b,h2,h3⟩,_⟩:=h1
 obtain ⟨f',b',i1,i2,i3⟩:=h.rch hn hm (NetL.runB_rch l 0 0 0 f b .zero h2)
 obtain ⟨rfl,h5⟩:=goalS_iff.1 h3
 refine plan_some hm i3 (goalS_iff.2 ⟨i2.one (.zero _ _),fun v hv=>?_⟩)
 have hl:=hw v hv
 rw [h.tl] at hl
 obtain ⟨a1,a2⟩:=h.t2 v hl
 have:=h.want (τ' v) a1
 rw [a2] at this
 rw [i1.2,decide_eq_true hl,Bool.true_and]
 exact h5 _ (by rw [← this];exact hv)
theorem Iso.separate (hn:n.Ok) (hm:m.Ok) (h:Iso n m τ τ' π π') (hk:∀ v,m.kept.testBit v=true→v<m.tanks.length) (hw:∀ v,m.wanted.testBit v=true→v<m.tanks.length) (hs:n.separate=true):m.separate=true:=by
 rw [NetL.separate_iff hm]
 intro k t h1 h2 hc
 have hk:=hk k h1
 have hw:=hw t h2
 rw [h.tl] at hk hw
 obtain ⟨a1,a2⟩:=h.t2 k hk
 obtain ⟨b1,b2⟩:=h.t2 t hw
 refine (NetL.separate_iff hn).1 hs (τ' k) (τ' t) ?_ ?_ ((h.symm hn).con hc)
 ·have:=h.kept (τ' k) a1;rw [a2] at this;rw [← this];exact h1
 ·have:=h.want (τ' t) b1;rw [b2] at this;rw [← this];exact h2
end

end Go.Proofs.Vent

namespace Go.Proofs.Vent
open Go.V Go.Proofs

/-! Round and round. -/
theorem rot1 {m t v:Nat} (ht:t<m) (hv:v<m):(v+t) % m=if v+t<m then v+t else v+t - m:=by
 split
 ·rename_i h;exact Nat.mod_eq_of_lt h
 ·rename_i h
  rw [Nat.mod_eq_sub_mod (by omega),Nat.mod_eq_of_lt (by omega)]
theorem rot2 {m t v:Nat} (ht:t<m) (hv:v<m):(v+m - t) % m=if v<t then v+m - t else v - t:=by
 split
 ·rename_i h;exact Nat.mod_eq_of_lt (by omega)
 ·rename_i h
  rw [Nat.mod_eq_sub_mod (by omega),Nat.mod_eq_of_lt (by omega)]
  omega
theorem rot_law {m t v:Nat} (ht:t<m) (hv:v<m):((v+t) % m<m∧((v+t) % m+m - t) % m=v)∧((v+m - t) % m<m∧((v+m - t) % m+t) % m=v):=by
 have h0:0<m:=by omega
 refine ⟨⟨Nat.mod_lt _ h0,?_⟩,⟨Nat.mod_lt _ h0,?_⟩⟩
 ·have h1:=rot1 ht hv
  rw [rot2 ht (Nat.mod_lt _ h0),h1]
  split <;> split <;> omega
 ·have h1:=rot2 ht hv
  rw [rot1 ht (Nat.mod_lt _ h0),h1]
  split <;> split <;> omega

/-! What a net without an error is,the other way round. -/
theorem badT_none:∀ (r i:Nat) (ts:List Tk),badT ts r i=none→i+r=ts.length→∀ j x,i≤j→ts[j]?=some x→tankE (ts.take j) x=0
 | 0,i,ts,_,hi,j,x,hj,hx=>by have:=(List.getElem?_eq_some_iff.1 hx).1;omega
 | r+1,i,ts,h,hi,j,x,hj,hx=>by
  unfold badT at h
  cases hy:ts[i]? with
  | none=>have:=List.getElem?_eq_none_iff.1 hy;omega
  | some y =>
   rw [hy] at h
   simp only at h
   split at h
   ·by_cases e:j=i
    ·subst e;rw [hy] at hx;cases hx;assumption
    ·exact badT_none r (i+1) ts h (by omega) j x (by omega) hx
   ·cases h
theorem badT_of {ts:List Tk} (h:∀ j x,ts[j]?=some x→tankE (ts.take j) x=0):∀ r i,badT ts r i=none
 | 0,_=>rfl
 | r+1,i=>by
  unfold badT
  cases hy:ts[i]? with
  | none=>rfl
  | some y=>simp only;rw [if_pos (h i y hy)];exact badT_of h r (i+1)
theorem badP_of {many:Int} {ps:List Rp} (h:∀ p∈ps,pipeE many p=0):∀ r i,badP many ps r i=none
 | 0,_=>rfl
 | r+1,i=>by
  unfold badP
  cases hy:ps[i]? with
  | none=>rfl
  | some y=>simp only;rw [if_pos (h y (List.mem_of_getElem? hy))];exact badP_of h r (i+1)
theorem check_tanks {n:Nt} (h:n.check.2.2=0):(∀ x∈n.tanks,nameB x.name=true)∧∀ (i j:Nat) (x y:Tk),n.tanks[i]?=some x→n.tanks[j]?=some y→i≠j→sameS x.name y.name=false:=by
 have hb:badT n.tanks n.tanks.length 0=none:=by
  unfold Nt.check at h
  split at h
  ·cases h
  ·cases hb:badT n.tanks n.tanks.length 0 with
   | some x=>rw [hb] at h;exact absurd h (badT_bad _ _ _ _ _ hb)
   | none=>rfl
 have key:=badT_none n.tanks.length 0 n.tanks hb (by omega)
 have one:∀ (j:Nat) (x:Tk),n.tanks[j]?=some x→nameB x.name=true∧∀ (i:Nat) (y:Tk),i<j→n.tanks[i]?=some y→sameS y.name x.name=false:=fun j x hx=>by
  have h1:=key j x (Nat.zero_le _) hx
  unfold tankE at h1
  cases hn:nameB x.name with
  | false=>rw [hn] at h1;cases h1
  | true =>
   rw [hn] at h1
   simp only at h1
   refine ⟨rfl,fun i y hi hy=>?_⟩
   cases hs:sameS y.name x.name with
   | false=>rfl
   | true =>
    have:(n.tanks.take j).any (fun y=>sameS y.name x.name)=true:=by
     rw [List.any_eq_true]
     refine ⟨y,List.mem_of_getElem? (i:=i) ?_,hs⟩
     rw [List.getElem?_take,if_pos hi];exact hy
    rw [this] at h1;cases h1
 refine ⟨fun x hx=>?_,fun i j x y hx hy hne=>?_⟩
 ·obtain ⟨i,hi⟩:=List.mem_iff_getElem?.1 hx
  exact (one i x hi).1
 ·rcases Nat.lt_or_ge i j with h | h
  ·exact (one j y hy).2 i x h hx
  ·have h2:=(one i x hx).2 j y (by omega) hy
   unfold sameS at h2 ⊢
   rw [← h2]
   apply Bool.eq_iff_iff.2
   rw [beq_iff_eq,beq_iff_eq]
   exact ⟨Eq.symm,Eq.symm⟩
theorem check_of_all {n:Nt} (h1:1≤n.tanks.length) (h7:n.tanks.length≤7) (h12:n.pipes.length≤12) (hn:∀ x∈n.tanks,nameB x.name=true) (hd:∀ (i j:Nat) (x y:Tk),n.tanks[i]?=some x→n.tanks[j]?=some y→i<j→sameS x.name y.name=false)
    (hp:∀ p∈n.pipes,0≤p.fr∧p.fr<n.tanks.length∧0≤p.to∧p.to<n.tanks.length∧p.fr≠p.to):n.check.2.2=0:=by
  have ht:∀ (j:Nat) (x:Tk),n.tanks[j]?=some x→tankE (n.tanks.take j) x=0:=fun j x hx=>by
   unfold tankE
   rw [hn x (List.mem_of_getElem? hx)]
   have:(n.tanks.take j).any (fun y=>sameS y.name x.name)=false:=by
    rw [List.any_eq_false]
    intro y hy
    obtain ⟨i,hi⟩:=List.mem_iff_getElem?.1 hy
    rw [List.getElem?_take] at hi
    split at hi
    ·rename_i hij
     rw [hd i j y x hi hx hij];decide
    ·cases hi
   simp only
   rw [this]
  have hpp:∀ p∈n.pipes,pipeE n.tanks.length p=0:=fun p hpm=>by
   have:=hp p hpm
   unfold pipeE
   have h2:[p.fr,p.to].any (offB n.tanks.length)=false:=by
    simp [offB];omega
   rw [h2]
   simp only
   rw [show (p.fr==p.to)=false by simp;omega]
  unfold Nt.check
  rw [if_neg (by omega),badT_of ht,badP_of hpp]

def backP (p:Rp):Rp:=⟨p.to,p.fr,p.welded⟩
def backN (n:Nt):Nt:=⟨n.tanks,n.pipes.map backP⟩
theorem back_check {n:Nt} (h:n.check.2.2=0):(backN n).check.2.2=0:=by
 have hn:=Nt.check_ok h
 obtain ⟨h1,h2⟩:=check_tanks h
 refine check_of_all hn.t1 hn.t7 (by show (n.pipes.map backP).length≤12;rw [List.length_map];exact hn.p) h1 (fun i j x y hx hy hij=>h2 i j x y hx hy (by omega)) fun p hp=>?_
 obtain ⟨q,hq,rfl⟩:=List.mem_map.1 hp
 have:=hn.pe q hq
 show 0≤q.to∧q.to<n.tanks.length∧0≤q.fr∧q.fr<n.tanks.length∧q.to≠q.fr
 omega
theorem back_iso {n:Nt} (hn:n.Ok) (hb:(backN n).Ok) (bl wt:List Int):Iso (n.look bl wt) ((backN n).look bl wt) (fun v=>v) (fun v=>v) (fun v=>v) (fun v=>v):=by
 refine ⟨rfl,by rw [look_plen,look_plen];simp [backN],fun v h=>⟨h,rfl⟩,fun v h=>⟨h,rfl⟩,fun v h=>⟨h,rfl⟩,fun v h=>⟨h,rfl⟩,fun v _=>rfl,fun v _=>rfl,fun i p hp=>?_⟩
 rw [look_pipe] at hp
 cases hq:n.pipes[i]? with
 | none=>rw [hq] at hp;cases hp
 | some q =>
  rw [hq] at hp
  cases hp
  refine ⟨(backP q).pp,by rw [look_pipe];show ((n.pipes.map backP)[i]?).map Rp.pp=_;rw [List.getElem?_map,hq];rfl,rfl,.inr ⟨rfl,rfl⟩,?_⟩
  rw [look_op hb.p,look_op hn.p]
  show (decide (i<(n.pipes.map backP).length) && _)=_
  rw [List.length_map]
theorem kept_lt {n:Nt} {bl wt:List Int}:∀ v,(n.look bl wt).kept.testBit v=true→v<(n.look bl wt).tanks.length:=fun v hv=>by
 rw [kept_iff,Bool.and_eq_true] at hv
 exact of_decide_eq_true hv.1

theorem cut_same {n m:NetL} (hn:n.Ok) (hm:m.Ok) (fn:n.Free) (fm:m.Free) (on:∀ j,j<n.pipes.length→n.opN j=true) (om:∀ j,j<m.pipes.length→m.opN j=true) {sn sm:List Nat→Bool} (hsn:∀ l,sn l=true↔n.Sep (bset l)) (hsm:∀ l,sm l=true↔m.Sep (bset l))
    (h1:∀ B T,n.Sep B→n.Fl B→n.many B=T→∃ B',m.Sep B'∧m.Fl B'∧m.many B'=T) (h2:∀ B T,m.Sep B→m.Fl B→m.many B=T→∃ B',n.Sep B'∧n.Fl B'∧n.many B'=T) :
    (n.cut=none∧m.cut=none)∨∃ l l' T,n.cut=some l∧m.cut=some l'∧l.length=T∧l'.length=T∧(n.listsF n.pipes.length 0 T []).find? sn=some l∧(m.listsF m.pipes.length 0 T []).find? sm=some l':=by
  have hc1:=NetL.cut_ok hn fn on hsn
  have hc2:=NetL.cut_ok hm fm om hsm
  have fl:∀ {n:NetL} {T:Nat} {l:List Nat},Found n T l→n.Fl (bset l):=fun h=>fun j p hp hb=>h.fl j p (bset_iff.1 hb) hp
  cases hx:n.cut with
  | none =>
   rw [hx] at hc1
   cases hy:m.cut with
   | none=>exact .inl ⟨rfl,rfl⟩
   | some l' =>
    rw [hy] at hc2
    obtain ⟨T,_,h4,_⟩:=hc2
    obtain ⟨B,b1,b2,_⟩:=h2 _ _ h4.sep (fl h4) rfl
    exact absurd b2 (hc1 B b1)
  | some l =>
   rw [hx] at hc1
   obtain ⟨T,a1,a2,a3⟩:=hc1
   cases hy:m.cut with
   | none =>
    rw [hy] at hc2
    obtain ⟨B,b1,b2,_⟩:=h1 _ _ a2.sep (fl a2) rfl
    exact absurd b2 (hc2 B b1)
   | some l' =>
    rw [hy] at hc2
    obtain ⟨T',c1,c2,c3⟩:=hc2
    have hT:T=T':=by
     obtain ⟨B,b1,b2,b3⟩:=a1.some
     obtain ⟨B',b4,b5,b6⟩:=h1 B T b1 b2 b3
     have h5:=c1.most B' b4 b5
     obtain ⟨C,d1,d2,d3⟩:=c1.some
     obtain ⟨C',d4,d5,d6⟩:=h2 C T' d1 d2 d3
     have h6:=a1.most C' d4 d5
     omega
    subst hT
    exact .inr ⟨l,l',T,rfl,rfl,a2.len,c2.len,a3,c3⟩

theorem back_blanks {n:Nt} {wt:List Int} (he:n.lookE [] wt true=0):(backN n).lookE [] wt true=0∧(backN n).blanksR wt=n.blanksR wt:=by
 have hc:=Nt.check_of he
 obtain ⟨hn,_,hw⟩:=Nt.lookE_ok he
 have hw:=hw rfl
 have hcb:=back_check hc
 have hb:=Nt.check_ok hcb
 have hin:=Nt.wantedE_in hw
 have hwb:(backN n).wantedE wt=none:=hw
 have heb:(backN n).lookE [] wt true=0:=by
  unfold Nt.lookE
  rw [if_neg (by simpa using hcb),hwb]
  rfl
 refine ⟨heb,?_⟩
 have hok:=Nt.look_ok hn [] hin
 have hokb:=Nt.look_ok hb [] (wanted:=wt) hin
 have hiso:=back_iso hn hb [] wt
 have hl:∀ {n:Nt},inAll n.tanks.length wt→∀ v,(n.look [] wt).wanted.testBit v=true→v<(n.look [] wt).tanks.length:=fun h=>want_in h
 have hs:=cut_same hok hokb (look_free hw) (look_free hwb) (look_open hn wt) (look_open hb wt) (fun l=>sep_iff hn hin l) (fun l=>sep_iff hb hin l)
  (fun B T a b c=>hiso.need hok hokb kept_lt (hl hin) a b c) (fun B T a b c=>(hiso.symm hok).need hokb hok kept_lt (hl hin) a b c)
 have hR:∀ {n:Nt},n.lookE [] wt true=0→n.blanksR wt=(match (n.look [] wt).cut with | none=>([],9) | some l=>(castL l,0)):=fun {n} h=>by
  unfold Nt.blanksR;rw [if_pos h];cases (n.look [] wt).cut <;> rfl
 rw [hR heb,hR he]
 rcases hs with ⟨e1,e2⟩ | ⟨l,l',T,e1,e2,_,_,f1,f2⟩
 ·rw [e1,e2]
 ·rw [e1,e2]
  have hlist:∀ (c i k:Nat) (b:List Nat),((backN n).look [] wt).listsF c i k b=(n.look [] wt).listsF c i k b:=by
   intro c
   induction c with
   | zero=>intro i k b;cases k <;> rfl
   | succ c ih =>
    intro i k b
    cases k with
    | zero=>rfl
    | succ k =>
     unfold NetL.listsF
     rw [ih,ih]
     have:((backN n).look [] wt).pipes[i]?=(n.pipes[i]?).map fun p=>(backP p).pp:=by
      rw [look_pipe]
      show ((n.pipes.map backP)[i]?).map Rp.pp=_
      rw [List.getElem?_map]
      cases n.pipes[i]? <;> rfl
     rw [this,look_pipe]
     cases n.pipes[i]? <;> rfl
  have hsep:∀ l,((backN n).look (castL l) wt).separate=(n.look (castL l) wt).separate:=fun l=>by
   have o1:=Nt.look_ok hn (castL l) hin
   have o2:=Nt.look_ok hb (castL l) (wanted:=wt) hin
   have i1:=back_iso hn hb (castL l) wt
   apply Bool.eq_iff_iff.2
   exact ⟨fun h=>(i1.symm o1).separate o2 o1 kept_lt (want_in hin) h,fun h=>i1.separate o1 o2 kept_lt (want_in (n:=backN n) hin) h⟩
  rw [look_plen] at f1 f2
  rw [hlist,show (backN n).pipes.length=n.pipes.length by simp [backN]] at f2
  rw [show (fun l=>((backN n).look (castL l) wt).separate)=fun l=>(n.look (castL l) wt).separate from funext hsep] at f2
  rw [f1] at f2
  cases f2
  rfl

theorem spread_same {n m:NetL} (h:∀ b X,n.Shut b X↔m.Shut b X) {f:Nat} (hf:f<2^7) (b:Nat):n.spread f b=m.spread f b:=by
 refine Sub.antisymm ?_ ?_
 ·exact NetL.spread_most ((h _ _).1 (NetL.spread_closed hf b)) (n.spread_sub f b)
 ·exact NetL.spread_most ((h _ _).2 (NetL.spread_closed hf b)) (m.spread_sub f b)
theorem plan_same {n m:NetL} (hn:n.Ok) (ht:m.tanks=n.tanks) (hk:m.kept=n.kept) (hw:m.wanted=n.wanted) (h:∀ b X,n.Shut b X↔m.Shut b X) (bw:Int):m.plan bw=n.plan bw:=by
 have h7:=hn.t7
 have hst:∀ f b i off,f<2^7→i<7→m.stepR f b i off=n.stepR f b i off:=fun f b i off hf hi=>by
  unfold NetL.stepR
  rw [hk,spread_same h hf,spread_same h (or_lt hf (pow7 hi))]
 have hgr:∀ (e:En),e.f<2^7→∀ (r i:Nat) (K:List En),i+r≤7→m.growF bw e r i K=n.growF bw e r i K:=by
  intro e he r
  induction r with
  | zero=>intro i K _;rfl
  | succ r ih =>
   intro i K hi
   unfold NetL.growF
   have:m.grow1 bw e i K=n.grow1 bw e i K:=by
    unfold NetL.grow1
    rw [hst _ _ _ _ he (by omega)]
   rw [this,ih (i+1) _ (by omega)]
 have key:∀ (r h:Nat) (K:List En),Known K→m.planF bw r h K=n.planF bw r h K:=by
  intro r
  induction r with
  | zero=>intro h K _;rfl
  | succ r ih =>
   intro h K hK
   unfold NetL.planF
   cases he:K[h]? with
   | none=>rfl
   | some e =>
    have hlt:=hK.lt e (List.mem_of_getElem? he)
    have hg:m.goal e=n.goal e:=by unfold NetL.goal;rw [hw]
    simp only
    rw [hg,ht,hgr e hlt.1 _ _ _ (by omega)]
    cases n.goal e with
    | true=>rfl
    | false=>exact ih _ _ (growFK hlt.1 hlt.2 n.tanks.length 0 K hK ⟨h,idx_at hK he⟩ (by omega))
 exact key 20000 0 [root] Known.root
theorem back_plan {n:Nt} {bl wt:List Int} (he:n.lookE bl wt true=0) (bw:Int):(backN n).planN bl wt bw=n.planN bl wt bw:=by
 have hc:=Nt.check_of he
 obtain ⟨hn,hbl,hw⟩:=Nt.lookE_ok he
 have hw:=hw rfl
 have hcb:=back_check hc
 have hb:=Nt.check_ok hcb
 have hin:=Nt.wantedE_in hw
 have hwe:∀ v,(backN n).weldB v=n.weldB v:=fun v=>by
  unfold Nt.weldB
  show (match (n.pipes.map backP)[v.toNat]? with | some p=>p.welded | none=>false)=_
  rw [List.getElem?_map]
  cases n.pipes[v.toNat]? <;> rfl
 have hbb:(backN n).blanksE bl=none:=by
  have h1:(backN n).weldB=n.weldB:=funext hwe
  unfold Nt.blanksE at hbl ⊢
  rw [h1,show (backN n).pipes.length=n.pipes.length by simp [backN]]
  exact hbl
 have heb:(backN n).lookE bl wt true=0:=by
  have hwb:(backN n).wantedE wt=none:=hw
  unfold Nt.lookE
  rw [if_neg (by simpa using hcb),hbb,hwb]
 have hok:=Nt.look_ok hn bl hin
 have hokb:=Nt.look_ok hb bl (wanted:=wt) hin
 have hiso:=back_iso hn hb bl wt
 have hp:((backN n).look bl wt).plan bw=(n.look bl wt).plan bw:=plan_same (m:=(backN n).look bl wt) hok rfl rfl rfl (fun b X =>
  ⟨fun h u v hu hbu ha=>h u v hu hbu ((hiso.symm hok).adj ha),fun h u v hu hbu ha=>h u v hu hbu (hiso.adj ha)⟩) bw
 unfold Nt.planN
 rw [if_pos heb,if_pos he,hp]

end Go.Proofs.Vent

namespace Go.Proofs.Vent
open Go.V Go.Proofs

def tk0:Tk:=⟨ByteArray.empty,false⟩
def rp0:Rp:=⟨0,0,false⟩
def rotT (n:Nt) (t k:Nat):List Tk:=(List.range k).map fun i=>n.tanks.getD ((i+n.tanks.length - t) % n.tanks.length) tk0
def rotR (n:Nt) (t:Nat) (r:Rp):Rp:=⟨(r.fr+t).tmod n.tanks.length,(r.to+t).tmod n.tanks.length,r.welded⟩
def rotP (n:Nt) (t q k:Nat):List Rp:=(List.range k).map fun i=>rotR n t (n.pipes.getD ((i+n.pipes.length - q) % n.pipes.length) rp0)
def rotN (n:Nt) (t q:Nat):Nt:=⟨rotT n t n.tanks.length,rotP n t q n.pipes.length⟩
def rotL (l:List Int) (m t k:Nat):List Nat:=(List.range k).filter fun i=>hasI l (((i+m - t) % m:Nat):Int)

theorem rotT_len (n:Nt) (t k:Nat):(rotT n t k).length=k:=by simp [rotT]
theorem rotP_len (n:Nt) (t q k:Nat):(rotP n t q k).length=k:=by simp [rotP]
theorem rotL_len (l:List Int) (m t k:Nat):(rotL l m t k).length≤k:=by
 have:=List.length_filter_le (fun i=>hasI l (((i+m - t) % m:Nat):Int)) (List.range k)
 rw [List.length_range] at this
 exact this
theorem rotT_get {n:Nt} {t q i:Nat} (ht:t<n.tanks.length) (hi:i<n.tanks.length) {x:Tk} (hx:n.tanks[(i+n.tanks.length - t) % n.tanks.length]?=some x):(rotN n t q).tanks[i]?=some x:=by
 show (rotT n t n.tanks.length)[i]?=_
 unfold rotT
 rw [List.getElem?_map,List.getElem?_range hi]
 simp only [Option.map_some]
 rw [List.getD_eq_getElem?_getD,hx];rfl
theorem rotP_get {n:Nt} {t q i:Nat} (hi:i<n.pipes.length) {x:Rp} (hx:n.pipes[(i+n.pipes.length - q) % n.pipes.length]?=some x):(rotN n t q).pipes[i]?=some (rotR n t x):=by
 show (rotP n t q n.pipes.length)[i]?=_
 unfold rotP
 rw [List.getElem?_map,List.getElem?_range hi]
 simp only [Option.map_some]
 rw [List.getD_eq_getElem?_getD,hx];rfl
theorem rot_tmod {m t:Nat} {v:Int} (h0:0≤v):(v+t).tmod m=(((v.toNat+t) % m:Nat):Int):=by
 rw [Int.tmod_eq_emod_of_nonneg (by omega)]
 rw [show v+(t:Int)=((v.toNat+t:Nat):Int) by omega]
 exact (Int.natCast_emod _ _).symm
theorem rotR_fr {n:Nt} (hn:n.Ok) {t:Nat} {r:Rp} (hr:r∈n.pipes):(rotR n t r).fr=(((r.fr.toNat+t) % n.tanks.length:Nat):Int)∧(rotR n t r).to=(((r.to.toNat+t) % n.tanks.length:Nat):Int):=by
 have:=hn.pe r hr
 exact ⟨rot_tmod this.1,rot_tmod this.2.2.1⟩
theorem rot_check {n:Nt} (h:n.check.2.2=0) {t q:Nat} (ht:t<n.tanks.length) (hq:q<n.pipes.length∨n.pipes.length=0):(rotN n t q).check.2.2=0:=by
 have hn:=Nt.check_ok h
 obtain ⟨h1,h2⟩:=check_tanks h
 have htl:(rotN n t q).tanks.length=n.tanks.length:=rotT_len _ _ _
 have hpl:(rotN n t q).pipes.length=n.pipes.length:=rotP_len _ _ _ _
 have get:∀ (i:Nat) (x:Tk),(rotN n t q).tanks[i]?=some x→i<n.tanks.length∧n.tanks[(i+n.tanks.length - t) % n.tanks.length]?=some x:=fun i x hx=>by
  have hi:i<n.tanks.length:=by rw [← htl];exact (List.getElem?_eq_some_iff.1 hx).1
  obtain ⟨y,hy⟩:∃ y,n.tanks[(i+n.tanks.length - t) % n.tanks.length]?=some y:=⟨_,List.getElem?_eq_getElem (rot_law ht hi).2.1⟩
  rw [rotT_get ht hi hy] at hx
  cases hx
  exact ⟨hi,hy⟩
 refine check_of_all (by rw [htl];exact hn.t1) (by rw [htl];exact hn.t7) (by rw [hpl];exact hn.p) (fun x hx=>?_) (fun i j x y hx hy hij=>?_) fun p hp=>?_
 ·obtain ⟨i,hi⟩:=List.mem_iff_getElem?.1 hx
  exact h1 x (List.mem_of_getElem? (get i x hi).2)
 ·obtain ⟨hi,hx⟩:=get i x hx
  obtain ⟨hj,hy⟩:=get j y hy
  refine h2 _ _ x y hx hy fun e=>?_
  have a:=(rot_law ht hi).2.2
  have b:=(rot_law ht hj).2.2
  rw [e,b] at a
  omega
 ·obtain ⟨i,hi⟩:=List.mem_iff_getElem?.1 hp
  have hil:i<n.pipes.length:=by rw [← hpl];exact (List.getElem?_eq_some_iff.1 hi).1
  have hq:q<n.pipes.length:=by omega
  obtain ⟨r,hr⟩:∃ r,n.pipes[(i+n.pipes.length - q) % n.pipes.length]?=some r:=⟨_,List.getElem?_eq_getElem (rot_law hq hil).2.1⟩
  rw [rotP_get hil hr] at hi
  cases hi
  have hm:=List.mem_of_getElem? hr
  obtain ⟨e1,e2⟩:=rotR_fr hn (t:=t) hm
  have hpe:=hn.pe r hm
  have a:=rot_law ht (show r.fr.toNat<n.tanks.length by omega)
  have b:=rot_law ht (show r.to.toNat<n.tanks.length by omega)
  rw [e1,e2,htl]
  refine ⟨by omega,by have:=a.1.1;omega,by omega,by have:=b.1.1;omega,fun e=>?_⟩
  have e:(r.fr.toNat+t) % n.tanks.length=(r.to.toNat+t) % n.tanks.length:=by omega
  have a2:=a.1.2
  rw [e,b.1.2] at a2
  omega

theorem hasI_rotL {l:List Int} {m t v:Nat} (ht:t<m) (hv:v<m):hasI (castL (rotL l m t m)) (((v+t) % m:Nat):Int)=hasI l (v:Int):=by
 rw [hasI_cast]
 apply Bool.eq_iff_iff.2
 rw [bset_iff]
 unfold rotL
 have h:=rot_law ht hv
 rw [List.mem_filter,List.mem_range,h.1.2]
 exact ⟨fun a=>a.2,fun a=>⟨h.1.1,a⟩⟩

theorem rot_iso {n:Nt} (hn:n.Ok) {t q:Nat} (ht:t<n.tanks.length) (hq:q<n.pipes.length∨n.pipes.length=0) (ho:(rotN n t q).Ok) {bl bl' wt:List Int} (hin:inAll n.tanks.length wt) (hin':inAll (rotN n t q).tanks.length (castL (rotL wt n.tanks.length t n.tanks.length)))
    (hbl:∀ i,i<n.pipes.length→hasI bl' (((i+q) % n.pipes.length:Nat):Int)=hasI bl (i:Int)) :
    Iso (n.look bl wt) ((rotN n t q).look bl' (castL (rotL wt n.tanks.length t n.tanks.length))) (fun v=>(v+t) % n.tanks.length) (fun v=>(v+n.tanks.length - t) % n.tanks.length) (fun i=>(i+q) % n.pipes.length) (fun i=>(i+n.pipes.length - q) % n.pipes.length):=by
  have htl:(rotN n t q).tanks.length=n.tanks.length:=rotT_len _ _ _
  have hpl:(rotN n t q).pipes.length=n.pipes.length:=rotP_len _ _ _ _
  have hql:∀ {i},i<n.pipes.length→q<n.pipes.length:=fun h=>by omega
  refine ⟨htl,by rw [look_plen,look_plen];exact hpl,fun v hv=>(rot_law ht hv).1,fun v hv=>(rot_law ht hv).2,fun i hi=>?_,fun i hi=>?_,fun v hv=>?_,fun v hv=>?_,fun i p hp=>?_⟩
  ·rw [look_plen] at hi ⊢;exact (rot_law (hql hi) hi).1
  ·rw [look_plen] at hi ⊢;exact (rot_law (hql hi) hi).2
  ·have hv:v<n.tanks.length:=hv
   have h:=rot_law ht hv
   obtain ⟨x,hx⟩:∃ x,n.tanks[v]?=some x:=⟨_,List.getElem?_eq_getElem hv⟩
   have hx':(rotN n t q).tanks[(v+t) % n.tanks.length]?=some x:=rotT_get ht h.1.1 (by rw [h.1.2];exact hx)
   rw [kept_iff,kept_iff,decide_eq_true hv,htl,decide_eq_true h.1.1]
   unfold Nt.keptB
   rw [hx,hx']
  ·have hv:v<n.tanks.length:=hv
   have h:=hasI_rotL (l:=wt) ht hv
   rw [hasI_want (bl:=bl) hin,hasI_want (n:=rotN n t q) (bl:=bl') hin'] at h
   exact h
  ·rw [look_pipe] at hp
   cases hr:n.pipes[i]? with
   | none=>rw [hr] at hp;cases hp
   | some r =>
    rw [hr] at hp
    cases hp
    have hi:=(List.getElem?_eq_some_iff.1 hr).1
    have h:=rot_law (hql hi) hi
    have hx:(rotN n t q).pipes[(i+q) % n.pipes.length]?=some (rotR n t r):=rotP_get h.1.1 (by rw [h.1.2];exact hr)
    obtain ⟨e1,e2⟩:=rotR_fr hn (t:=t) (List.mem_of_getElem? hr)
    refine ⟨(rotR n t r).pp,by rw [look_pipe,hx];rfl,rfl,.inl ⟨?_,?_⟩,?_⟩
    ·show (rotR n t r).fr.toNat=_
     rw [e1];rfl
    ·show (rotR n t r).to.toNat=_
     rw [e2];rfl
    ·rw [look_op ho.p,look_op hn.p,hpl,decide_eq_true h.1.1,decide_eq_true hi,hbl i hi]

theorem rot_ok {n:Nt} {bl wt:List Int} (he:n.lookE bl wt true=0) {t q:Nat} (ht:t<n.tanks.length) (hq:q<n.pipes.length∨n.pipes.length=0) :
    (rotN n t q).lookE (castL (rotL bl n.pipes.length q n.pipes.length)) (castL (rotL wt n.tanks.length t n.tanks.length)) true=0:=by
  have hc:=Nt.check_of he
  obtain ⟨hn,hb,hw⟩:=Nt.lookE_ok he
  have hw:=hw rfl
  have hin:=Nt.wantedE_in hw
  have hcr:=rot_check hc ht hq
  have ho:=Nt.check_ok hcr
  have htl:(rotN n t q).tanks.length=n.tanks.length:=rotT_len _ _ _
  have hpl:(rotN n t q).pipes.length=n.pipes.length:=rotP_len _ _ _ _
  have hB:(rotN n t q).lookE (castL (rotL bl n.pipes.length q n.pipes.length)) [] false=0:=by
   refine blanks_ok hcr (List.Pairwise.filter _ List.pairwise_lt_range) (fun j hj=>?_) fun j hj=>?_
   ·rw [hpl];exact List.mem_range.1 (List.mem_filter.1 hj).1
   ·have hjl:=List.mem_range.1 (List.mem_filter.1 hj).1
    have hh:=(List.mem_filter.1 hj).2
    have hq:q<n.pipes.length:=by omega
    obtain ⟨r,hr⟩:∃ r,n.pipes[(j+n.pipes.length - q) % n.pipes.length]?=some r:=⟨_,List.getElem?_eq_getElem (rot_law hq hjl).2.1⟩
    have hx:=rotP_get (t:=t) hjl hr
    have h3:n.weldB (((j+n.pipes.length - q) % n.pipes.length:Nat):Int)=false:=by
     unfold hasI at hh
     rw [List.any_eq_true] at hh
     obtain ⟨x,hx,hex⟩:=hh
     obtain ⟨a,ha,rfl⟩:=List.getElem_of_mem hx
     have h1:=(eachF_in _ _ _ _ _ hb (by omega) a (Nat.zero_le _) ha).2.1
     rw [dAt_get ha] at h1
     rw [beq_iff_eq.1 hex];exact h1
    unfold Nt.weldB at h3 ⊢
    rw [Int.toNat_natCast] at h3 ⊢
    rw [hx]
    rw [hr] at h3
    exact h3
  have hW:(rotN n t q).wantedE (castL (rotL wt n.tanks.length t n.tanks.length))=none:=by
   have hmem:∀ j∈rotL wt n.tanks.length t n.tanks.length,j<n.tanks.length∧(rotN n t q).keepB (j:Int)=false:=fun j hj=>by
    have hjl:=List.mem_range.1 (List.mem_filter.1 hj).1
    have hh:=(List.mem_filter.1 hj).2
    refine ⟨hjl,?_⟩
    obtain ⟨x,hx⟩:∃ x,n.tanks[(j+n.tanks.length - t) % n.tanks.length]?=some x:=⟨_,List.getElem?_eq_getElem (rot_law ht hjl).2.1⟩
    have hx':(rotN n t q).tanks[j]?=some x:=rotT_get ht hjl hx
    have h3:n.keepB (((j+n.tanks.length - t) % n.tanks.length:Nat):Int)=false:=by
     unfold hasI at hh
     rw [List.any_eq_true] at hh
     obtain ⟨y,hy,hey⟩:=hh
     rw [beq_iff_eq.1 hey]
     exact wantedE_keep hw y hy
    unfold Nt.keepB at h3 ⊢
    rw [Int.toNat_natCast] at h3 ⊢
    rw [hx']
    rw [hx] at h3
    exact h3
   unfold Nt.wantedE
   rw [if_neg]
   ·refine eachF_none (fun j hj=>?_) _ 0 (by omega)
    rw [castL_len] at hj
    obtain ⟨m1,m2⟩:=hmem _ (List.getElem_mem hj)
    rw [castL_at hj]
    refine ⟨?_,m2,fun h0=>?_⟩
    ·unfold offB
     rw [htl,decide_eq_false (by omega),decide_eq_false (by omega)]
     rfl
    ·rw [castL_at (by omega)]
     have hasc:(rotL wt n.tanks.length t n.tanks.length).Pairwise (·<·):=List.Pairwise.filter _ List.pairwise_lt_range
     have:=List.pairwise_iff_getElem.1 hasc (j - 1) j (by omega) hj (by omega)
     omega
   ·rw [castL_len]
    intro h0
    cases hwt:wt with
    | nil=>unfold Nt.wantedE at hw;rw [hwt] at hw;simp at hw
    | cons w r =>
     have hwi:=hin w (by rw [hwt];simp)
     have hwn:w.toNat<n.tanks.length:=by omega
     have h1:=hasI_rotL (l:=wt) ht hwn
     have h2:hasI wt ((w.toNat:Nat):Int)=true:=by
      unfold hasI
      rw [List.any_eq_true]
      exact ⟨w,by rw [hwt];simp,by rw [Int.toNat_of_nonneg hwi.1];exact beq_self_eq_true _⟩
     rw [h2,hasI_cast,bset_iff,List.length_eq_zero_iff.1 h0] at h1
     cases h1
  unfold Nt.lookE
  rw [if_neg (by simpa using hcr),(Nt.lookE_ok hB).2.1,hW]

theorem rot_few {n:Nt} {bl wt:List Int} (he:n.lookE bl wt true=0) {t q:Nat} (ht:t<n.tanks.length) (hq:q<n.pipes.length∨n.pipes.length=0) :
    (rotN n t q).fewN (castL (rotL bl n.pipes.length q n.pipes.length)) (castL (rotL wt n.tanks.length t n.tanks.length))=n.fewN bl wt:=by
  have her:=rot_ok he ht hq
  obtain ⟨hn,hb,hw⟩:=Nt.lookE_ok he
  obtain ⟨ho,hb',hw'⟩:=Nt.lookE_ok her
  have hin:=Nt.wantedE_in (hw rfl)
  have hin':=Nt.wantedE_in (hw' rfl)
  have hok:=Nt.look_ok hn bl hin
  have hok':=Nt.look_ok ho (castL (rotL bl n.pipes.length q n.pipes.length)) hin'
  have hiso:=rot_iso hn ht hq ho (bl:=bl) (bl':=castL (rotL bl n.pipes.length q n.pipes.length)) hin hin' fun i hi=>hasI_rotL (by omega) hi
  have hsep:((rotN n t q).look (castL (rotL bl n.pipes.length q n.pipes.length)) (castL (rotL wt n.tanks.length t n.tanks.length))).separate=(n.look bl wt).separate:=by
   apply Bool.eq_iff_iff.2
   exact ⟨fun h=>(hiso.symm hok).separate hok' hok kept_lt (want_in hin) h,fun h=>hiso.separate hok hok' kept_lt (want_in hin') h⟩
  cases hs:(n.look bl wt).separate with
  | false=>rw [fewN_not he hs,fewN_not her (by rw [hsep];exact hs)]
  | true =>
   have hs':((rotN n t q).look (castL (rotL bl n.pipes.length q n.pipes.length)) (castL (rotL wt n.tanks.length t n.tanks.length))).separate=true:=by rw [hsep];exact hs
   obtain ⟨k,f1,k1,k2,⟨l,hl⟩,hmin⟩:=few_ok hok (want_in hin) hs
   obtain ⟨k',f1',k1',k2',⟨l',hl'⟩,hmin'⟩:=few_ok hok' (want_in hin') hs'
   rw [fewN_sep he hs,f1,fewN_sep her hs',f1']
   obtain ⟨l2,hl2⟩:=hiso.plan hok hok' (want_in hin') hl
   obtain ⟨l3,hl3⟩:=(hiso.symm hok).plan hok' hok (want_in hin) hl'
   have:k'=k:=by
    rcases Nat.lt_trichotomy k k' with h | h | h
    ·have:=hmin' k k1 h;rw [hl2] at this;cases this
    ·exact h.symm
    ·have:=hmin k' k1' h;rw [hl3] at this;cases this
   rw [this]
theorem rot_blanks {n:Nt} {wt:List Int} (he:n.lookE [] wt true=0) {t q:Nat} (ht:t<n.tanks.length) (hq:q<n.pipes.length∨n.pipes.length=0) :
    ((rotN n t q).blanksR (castL (rotL wt n.tanks.length t n.tanks.length))).1.length=(n.blanksR wt).1.length∧((rotN n t q).blanksR (castL (rotL wt n.tanks.length t n.tanks.length))).2=(n.blanksR wt).2:=by
  have her0:=rot_ok he ht hq
  have hc:=Nt.check_of her0
  obtain ⟨hn,_,hw⟩:=Nt.lookE_ok he
  obtain ⟨ho,_,hw'⟩:=Nt.lookE_ok her0
  have hw:=hw rfl
  have hw':=hw' rfl
  have her:(rotN n t q).lookE [] (castL (rotL wt n.tanks.length t n.tanks.length)) true=0:=by
   unfold Nt.lookE
   rw [if_neg (by simpa using hc),hw']
   rfl
  have hin:=Nt.wantedE_in hw
  have hin':=Nt.wantedE_in hw'
  have hok:=Nt.look_ok hn [] hin
  have hok':=Nt.look_ok ho [] hin'
  have hiso:=rot_iso hn ht hq ho (bl:=[]) (bl':=[]) hin hin' fun i hi=>rfl
  have hs:=cut_same hok hok' (look_free hw) (look_free hw') (look_open hn wt) (look_open ho _) (fun l=>sep_iff hn hin l) (fun l=>sep_iff ho hin' l)
   (fun B T a b c=>hiso.need hok hok' kept_lt (want_in hin') a b c) (fun B T a b c=>(hiso.symm hok).need hok' hok kept_lt (want_in hin) a b c)
  have hR:∀ {n:Nt} {wt:List Int},n.lookE [] wt true=0→n.blanksR wt=(match (n.look [] wt).cut with | none=>([],9) | some l=>(castL l,0)):=fun {n wt} h=>by
   unfold Nt.blanksR;rw [if_pos h];cases (n.look [] wt).cut <;> rfl
  rw [hR he,hR her]
  rcases hs with ⟨e1,e2⟩ | ⟨l,l',T,e1,e2,e3,e4,_⟩
  ·rw [e1,e2];exact ⟨rfl,rfl⟩
  ·rw [e1,e2]
   exact ⟨by simp only [castL_len];omega,rfl⟩

end Go.Proofs.Vent
