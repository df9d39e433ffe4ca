/- What plan finds: the shortest steps, if there are any; Which states steps lead to: no way of gas, and few steps. No condition. -/
import Derived.Test.YtfdflbdnjimfaaaPackTC
import Derived.Test.YtfdflbdnjimfaaaPackTB
import Derived.Test.YtfdflbdnjimfaaaPackTH

namespace Go.Proofs.Vent
open Go.V Go.Proofs

def NetL.goalS (n:NetL) (f b:Nat):Bool:=b==0 && (f &&& n.wanted==n.wanted)
inductive NetL.Rch (n:NetL) (bl:Int):Nat→Nat→Nat→Prop
 | zero:NetL.Rch n bl 0 0 0
 | step {m f b i f' b':Nat}:NetL.Rch n bl m f b→i<n.tanks.length→n.stepR f b i (b.testBit i)=((f',b'),true)→((pop b':Nat):Int)≤bl→NetL.Rch n bl (m+1) f' b'
def NetL.runB (n:NetL) (bl:Int):List Vs→Nat→Nat→Option (Nat × Nat)
 | [],f,b=>some (f,b)
 | x::r,f,b=>if 0≤x.tank∧x.tank<n.tanks.length∧x.off=b.testBit x.tank.toNat then (match n.stepR f b x.tank.toNat x.off with
  | (_,false)=>none
  | ((f',b'),true)=>if ((pop b':Nat):Int)≤bl then n.runB bl r f' b' else none) else none
theorem NetL.runB_app (n:NetL) (bl:Int):∀ (a c:List Vs) (f b f1 b1:Nat),n.runB bl a f b=some (f1,b1)→n.runB bl (a++c) f b=n.runB bl c f1 b1
 | [],c,f,b,f1,b1,h=>by cases h;rfl
 | x::a,c,f,b,f1,b1,h=>by
  simp only [List.cons_append,NetL.runB] at h ⊢
  split at h
  ·rename_i hc
   rw [if_pos hc]
   obtain ⟨⟨⟨f',b'⟩,is_⟩,hs⟩:∃ y,n.stepR f b x.tank.toNat x.off=y:=⟨_,rfl⟩
   rw [hs] at h ⊢
   cases is_ with
   | false=>cases h
   | true =>
    simp only at h ⊢
    split at h
    ·rename_i hp
     rw [if_pos hp]
     exact NetL.runB_app n bl a c f' b' f1 b1 h
    ·cases h
  ·cases h
theorem NetL.runB_rch {n:NetL} {bl:Int}:∀ (l:List Vs) (m f b f1 b1:Nat),n.Rch bl m f b→n.runB bl l f b=some (f1,b1)→n.Rch bl (m+l.length) f1 b1
 | [],m,f,b,f1,b1,h,hr=>by cases hr;exact h
 | x::l,m,f,b,f1,b1,h,hr=>by
  simp only [NetL.runB] at hr
  split at hr
  ·rename_i hc
   obtain ⟨⟨⟨f',b'⟩,is_⟩,hs⟩:∃ y,n.stepR f b x.tank.toNat x.off=y:=⟨_,rfl⟩
   rw [hs] at hr
   cases is_ with
   | false=>cases hr
   | true =>
    simp only at hr
    split at hr
    ·rename_i hp
     have h2:=NetL.runB_rch l (m+1) f' b' f1 b1 (.step h (i:=x.tank.toNat) (by omega) (by rw [← hc.2.2];exact hs) hp) hr
     rw [List.length_cons,show m+(l.length+1)=m+1+l.length by omega]
     exact h2
    ·cases hr
  ·cases hr
theorem NetL.runB_one {n:NetL} {bl:Int} {f b i f' b':Nat} {off:Bool} (hi:i<n.tanks.length) (ho:off=b.testBit i) (hs:n.stepR f b i (b.testBit i)=((f',b'),true)) (hp:((pop b':Nat):Int)≤bl):n.runB bl [⟨((i:Nat):Int),off⟩] f b=some (f',b'):=by
 simp only [NetL.runB]
 rw [if_pos ⟨by omega,by omega,by simpa using ho⟩]
 simp only [Int.toNat_natCast]
 rw [ho,hs]
 simp only
 rw [if_pos hp]

structure Bfs (n:NetL) (bl:Int) (h:Nat) (K:List En) (d:Nat→Nat):Prop where
 kn:Known K
 d0:d 0=0
 mono:∀ i j,i≤j→j<K.length→d i≤d j
 near:h<K.length→∀ i,i<K.length→d i≤d h+1
 par:∀ i e,K[i]?=some e→0<i→∃ j,idx K e.pf e.pb=some j∧j<i∧d i=d j+1∧e.tank<n.tanks.length∧n.stepR e.pf e.pb e.tank (e.pb.testBit e.tank)=((e.f,e.b),true)∧e.off=e.pb.testBit e.tank∧((pop e.b:Nat):Int)≤bl
 exp:∀ j e,j<h→K[j]?=some e→n.goal e=false∧∀ i f' b',i<n.tanks.length→n.stepR e.f e.b i (e.b.testBit i)=((f',b'),true)→((pop b':Nat):Int)≤bl→∃ k,idx K f' b'=some k∧d k≤d j+1

theorem idx_lt {K:List En} {f b i:Nat} (h:idx K f b=some i):i<K.length:=by
 obtain ⟨e,h1,_⟩:=idx_get h
 exact (List.getElem?_eq_some_iff.1 h1).1
theorem get_snoc {K:List En} {e d:En} {i:Nat} (hd:(K++[e])[i]?=some d):(i<K.length∧K[i]?=some d)∨(i=K.length∧d=e):=by
 by_cases hi:i<K.length
 ·rw [List.getElem?_append_left hi] at hd;exact .inl ⟨hi,hd⟩
 ·rw [List.getElem?_append_right (by omega)] at hd
  by_cases e0:i - K.length=0
  ·rw [e0] at hd
   simp at hd
   exact .inr ⟨by omega,hd.symm⟩
  ·rw [List.getElem?_eq_none (by simp;omega)] at hd
   cases hd

theorem Bfs.snoc {n:NetL} {bl:Int} {h:Nat} {K:List En} {d:Nat→Nat} (hb:Bfs n bl h K d) {e:En} (he:K[h]?=some e) {i f' b':Nat} (hi:i<n.tanks.length) (h7:n.tanks.length≤7)
    (hs:n.stepR e.f e.b i (e.b.testBit i)=((f',b'),true)) (hp:((pop b':Nat):Int)≤bl) (hnew:idx K f' b'=none) :
    Bfs n bl h (K++[⟨f',b',e.f,e.b,i,e.b.testBit i⟩]) (fun j=>if j=K.length then d h+1 else d j):=by
  have hh:h<K.length:=(List.getElem?_eq_some_iff.1 he).1
  have hlt:=hb.kn.lt e (List.mem_of_getElem? he)
  have hsl:=n.stepR_lt (i:=i) (off:=e.b.testBit i) hlt.1 hlt.2 (by omega)
  rw [hs] at hsl
  have hix:=idx_at hb.kn he
  have hK:Known (K++[⟨f',b',e.f,e.b,i,e.b.testBit i⟩]):=hb.kn.snoc hsl.1 hsl.2 hnew hix
  have hlen:(K++[(⟨f',b',e.f,e.b,i,e.b.testBit i⟩:En)]).length=K.length+1:=by simp
  refine ⟨hK,?_,fun a c hac hc=>?_,fun _ a ha=>?_,fun a q hq ha=>?_,fun a q ha hq=>?_⟩
  ·show (if 0=K.length then _ else d 0)=0
   rw [if_neg (by omega)];exact hb.d0
  ·rw [hlen] at hc
   show (if a=K.length then _ else d a)≤(if c=K.length then _ else d c)
   by_cases ec:c=K.length
   ·rw [if_pos ec]
    by_cases ea:a=K.length
    ·rw [if_pos ea];exact Nat.le_refl _
    ·rw [if_neg ea];exact hb.near hh a (by omega)
   ·rw [if_neg ec,if_neg (by omega)]
    exact hb.mono a c hac (by omega)
  ·rw [hlen] at ha
   show (if a=K.length then _ else d a)≤(if h=K.length then _ else d h)+1
   rw [if_neg (show ¬ h=K.length by omega)]
   by_cases ea:a=K.length
   ·rw [if_pos ea];exact Nat.le_refl _
   ·rw [if_neg ea];exact hb.near hh a (by omega)
  ·rcases get_snoc hq with ⟨h1,h2⟩ | ⟨rfl,rfl⟩
   ·obtain ⟨j,p1,p2,p3,p4⟩:=hb.par a q h2 ha
    refine ⟨j,idx_app _ p1,p2,?_,p4⟩
    show (if a=K.length then _ else d a)=(if j=K.length then _ else d j)+1
    rw [if_neg (by omega),if_neg (by omega)];exact p3
   ·refine ⟨h,idx_app _ hix,hh,?_,hi,hs,rfl,hp⟩
    show (if K.length=K.length then _ else d K.length)=(if h=K.length then _ else d h)+1
    rw [if_pos rfl,if_neg (by omega)]
  ·have ha':a<K.length:=by omega
   rw [List.getElem?_append_left ha'] at hq
   obtain ⟨g1,g2⟩:=hb.exp a q ha hq
   refine ⟨g1,fun j f2 b2 hj hs2 hp2=>?_⟩
   obtain ⟨k,k1,k2⟩:=g2 j f2 b2 hj hs2 hp2
   have hk:=idx_lt k1
   refine ⟨k,idx_app _ k1,?_⟩
   show (if k=K.length then _ else d k)≤(if a=K.length then _ else d a)+1
   rw [if_neg (by omega),if_neg (by omega)];exact k2

theorem Bfs.grow1 {n:NetL} {bl:Int} {h:Nat} {K:List En} {d:Nat→Nat} (hb:Bfs n bl h K d) (h7:n.tanks.length≤7) {e:En} (he:K[h]?=some e) {i:Nat} (hi:i<n.tanks.length) :
    ∃ d',Bfs n bl h (n.grow1 bl e i K) d'∧(∀ j,j<K.length→d' j=d j)∧∀ f' b',n.stepR e.f e.b i (e.b.testBit i)=((f',b'),true)→((pop b':Nat):Int)≤bl→∃ q,idx (n.grow1 bl e i K) f' b'=some q∧d' q≤d h+1:=by
  have hh:h<K.length:=(List.getElem?_eq_some_iff.1 he).1
  obtain ⟨⟨⟨f',b'⟩,is_⟩,hs⟩:∃ y,n.stepR e.f e.b i (e.b.testBit i)=y:=⟨_,rfl⟩
  unfold NetL.grow1
  rw [hs]
  cases is_ with
  | false=>exact ⟨d,hb,fun _ _=>rfl,fun f2 b2 h2 _=>by cases h2⟩
  | true =>
   simp only
   by_cases hc:(idx K f' b').isSome=false∧((pop b':Nat):Int)≤bl
   ·rw [if_pos hc]
    have hnew:idx K f' b'=none:=by
     cases hx:idx K f' b' with
     | none=>rfl
     | some x=>rw [hx] at hc;exact absurd hc.1 (by simp)
    have hb':=hb.snoc he hi h7 hs hc.2 hnew
    refine ⟨_,hb',fun j hj=>if_neg (by omega),fun f2 b2 h2 _=>?_⟩
    cases h2
    refine ⟨K.length,?_,?_⟩
    ·exact idx_at hb'.kn (e:=⟨f',b',e.f,e.b,i,e.b.testBit i⟩) (by simp)
    ·show (if K.length=K.length then d h+1 else _)≤_
     rw [if_pos rfl];exact Nat.le_refl _
   ·rw [if_neg hc]
    refine ⟨d,hb,fun _ _=>rfl,fun f2 b2 h2 hp=>?_⟩
    cases h2
    cases hx:idx K f' b' with
    | none=>rw [hx] at hc;exact absurd ⟨rfl,hp⟩ hc
    | some q=>exact ⟨q,rfl,hb.near hh q (idx_lt hx)⟩
theorem Bfs.growF {n:NetL} {bl:Int} {h:Nat} {e:En} (h7:n.tanks.length≤7):∀ (r i:Nat) (K:List En) (d:Nat→Nat),Bfs n bl h K d→K[h]?=some e→i+r≤n.tanks.length →
    ∃ d',Bfs n bl h (n.growF bl e r i K) d'∧(∀ j,j<K.length→d' j=d j)∧∀ k f' b',i≤k→k<i+r→n.stepR e.f e.b k (e.b.testBit k)=((f',b'),true)→((pop b':Nat):Int)≤bl→∃ q,idx (n.growF bl e r i K) f' b'=some q∧d' q≤d h+1
  | 0,i,K,d,hb,he,hi=>⟨d,hb,fun _ _=>rfl,fun k f' b' h1 h2=>by omega⟩
  | r+1,i,K,d,hb,he,hi=>by
   have hh:h<K.length:=(List.getElem?_eq_some_iff.1 he).1
   obtain ⟨d1,b1,s1,n1⟩:=hb.grow1 h7 he (i:=i) (by omega)
   obtain ⟨L,hL⟩:=grow1_app n bl e i K
   have he1:(n.grow1 bl e i K)[h]?=some e:=by rw [hL,List.getElem?_append_left hh];exact he
   obtain ⟨d2,b2,s2,n2⟩:=Bfs.growF h7 r (i+1) (n.grow1 bl e i K) d1 b1 he1 (by omega)
   obtain ⟨M,hM⟩:=growF_app n bl e r (i+1) (n.grow1 bl e i K)
   have hl1:K.length≤(n.grow1 bl e i K).length:=by rw [hL,List.length_append];omega
   unfold NetL.growF
   refine ⟨d2,b2,fun j hj=>by rw [s2 j (by omega),s1 j hj],fun k f' b' h1 h2 hs hp=>?_⟩
   by_cases ek:k=i
   ·subst ek
    obtain ⟨q,q1,q2⟩:=n1 f' b' hs hp
    refine ⟨q,by rw [hM];exact idx_app _ q1,?_⟩
    rw [s2 q (idx_lt q1)]
    exact q2
   ·obtain ⟨q,q1,q2⟩:=n2 k f' b' (by omega) (by omega) hs hp
    refine ⟨q,q1,?_⟩
    rw [s1 h hh] at q2
    exact q2
theorem Bfs.next {n:NetL} {bl:Int} {h:Nat} {K:List En} {d:Nat→Nat} (hb:Bfs n bl h K d) (h7:n.tanks.length≤7) {e:En} (he:K[h]?=some e) (hg:n.goal e=false):∃ d',Bfs n bl (h+1) (n.growF bl e n.tanks.length 0 K) d'∧(∀ j,j<K.length→d' j=d j):=by
 have hh:h<K.length:=(List.getElem?_eq_some_iff.1 he).1
 obtain ⟨d',b',s',n'⟩:=Bfs.growF h7 n.tanks.length 0 K d hb he (by omega)
 obtain ⟨L,hL⟩:=growF_app n bl e n.tanks.length 0 K
 refine ⟨d',⟨b'.kn,b'.d0,b'.mono,fun h1 i hi=>?_,b'.par,fun j q hj hq=>?_⟩,s'⟩
 ·have h2:=b'.near (by omega) i hi
  have h3:=b'.mono h (h+1) (by omega) h1
  omega
 ·by_cases ej:j=h
  ·subst ej
   rw [hL,List.getElem?_append_left hh,he] at hq
   cases hq
   refine ⟨hg,fun i f2 b2 hi hs hp=>?_⟩
   obtain ⟨k,k1,k2⟩:=n' i f2 b2 (Nat.zero_le _) (by omega) hs hp
   refine ⟨k,k1,?_⟩
   rw [s' j hh]
   exact k2
  ·exact b'.exp j q (by omega) hq

theorem Bfs.start (n:NetL) (bl:Int):Bfs n bl 0 [root] (fun _=>0):=by
 refine ⟨Known.root,rfl,fun _ _ _ _=>Nat.le_refl _,fun _ _ _=>by omega,fun i e he hi=>?_,fun j e hj=>by omega⟩
 match i,he with
 | 0,_=>omega
 | i+1,he=>simp at he

theorem Bfs.dle {n:NetL} {bl:Int} {h:Nat} {K:List En} {d:Nat→Nat} (hb:Bfs n bl h K d):∀ m i,i<m→i<K.length→d i≤i
 | 0,i,hi,_=>by omega
 | m+1,i,hi,hl=>by
  by_cases h0:0<i
  ·obtain ⟨j,_,p2,p3,_⟩:=hb.par i _ (List.getElem?_eq_getElem hl) h0
   have:=hb.dle m j (by omega) (by omega)
   omega
  ·obtain rfl:i=0:=by omega
   rw [hb.d0];exact Nat.le_refl _
theorem Bfs.path {n:NetL} {bl:Int} {h:Nat} {K:List En} {d:Nat→Nat} (hb:Bfs n bl h K d):∀ (q f b i:Nat),idx K f b=some i→d i<q→n.runB bl (pathF K q f b).reverse 0 0=some (f,b)∧(pathF K q f b).length=d i
 | 0,f,b,i,hi,hd=>by omega
 | q+1,f,b,i,hi,hd=>by
  obtain ⟨e,e1,e2,e3⟩:=idx_get hi
  unfold pathF
  by_cases h0:f=0∧b=0
  ·rw [if_pos h0]
   obtain ⟨rfl,rfl⟩:=h0
   have h1:idx K 0 0=some 0:=idx_at hb.kn (e:=root) hb.kn.ne
   rw [h1] at hi
   cases hi
   exact ⟨rfl,hb.d0.symm⟩
  ·rw [if_neg h0,hi]
   simp only
   rw [e1]
   simp only
   have hpos:0<i:=by
    rcases Nat.eq_zero_or_pos i with e0 | e0
    ·subst e0
     rw [hb.kn.ne] at e1
     cases e1
     exact absurd ⟨e2.symm,e3.symm⟩ h0
    ·exact e0
   obtain ⟨j,p1,p2,p3,p4,p5,p6,p7⟩:=hb.par i e e1 hpos
   obtain ⟨i1,i2⟩:=hb.path q e.pf e.pb j p1 (by omega)
   refine ⟨?_,by rw [List.length_cons,i2];omega⟩
   rw [List.reverse_cons,n.runB_app bl _ _ _ _ _ _ i1]
   rw [e2,e3] at p5
   exact NetL.runB_one p4 p6 p5 (by rw [← e3];exact p7)

theorem Bfs.all {n:NetL} {bl:Int} {h:Nat} {K:List En} {d:Nat→Nat} (hb:Bfs n bl h K d) {m f b:Nat} (hr:n.Rch bl m f b):(∀ j,j<K.length→d j<m→j<h)→∃ j,idx K f b=some j∧d j≤m:=by
 induction hr with
 | zero=>exact fun _=>⟨0,idx_at hb.kn (e:=root) hb.kn.ne,by rw [hb.d0];exact Nat.le_refl _⟩
 | @step m f b i f' b' _ hi hs hp ih =>
  intro hh
  obtain ⟨j,j1,j2⟩:=ih fun j hj hd=>hh j hj (by omega)
  have hj:=hh j (idx_lt j1) (by omega)
  obtain ⟨e,e1,e2,e3⟩:=idx_get j1
  obtain ⟨k,k1,k2⟩:=(hb.exp j e hj e1).2 i f' b' hi (by rw [e2,e3];exact hs) hp
  exact ⟨k,k1,by omega⟩

theorem NetL.planF_ok {n:NetL} (hn:n.Ok) (bl:Int):∀ (r h:Nat) (K:List En) (d:Nat→Nat),Bfs n bl h K d→h≤K.length→16384<h+r →
    match n.planF bl r h K with
    | none=>∀ m f b,n.Rch bl m f b→n.goalS f b=false
    | some l=>(∃ f b,n.runB bl l 0 0=some (f,b)∧n.goalS f b=true)∧∀ m f b,n.Rch bl m f b→n.goalS f b=true→l.length≤m
  | 0,h,K,d,hb,hh,hr=>by have:=hb.kn.len;omega
  | r+1,h,K,d,hb,hh,hr=>by
   unfold NetL.planF
   cases he:K[h]? with
   | none =>
    simp only
    have hlen:K.length≤h:=List.getElem?_eq_none_iff.1 he
    intro m f b hrch
    obtain ⟨j,j1,_⟩:=hb.all hrch fun j hj _=>by omega
    obtain ⟨e,e1,e2,e3⟩:=idx_get j1
    have:=(hb.exp j e (by have:=idx_lt j1;omega) e1).1
    unfold NetL.goal at this
    unfold NetL.goalS
    rw [← e2,← e3]
    exact this
   | some e =>
    simp only
    have hhl:h<K.length:=(List.getElem?_eq_some_iff.1 he).1
    cases hg:n.goal e with
    | true =>
     simp only
     have hix:=idx_at hb.kn he
     have hkl:=hb.kn.len
     have hd:=hb.dle (h+1) h (by omega) hhl
     obtain ⟨p1,p2⟩:=hb.path 20000 e.f e.b h hix (by omega)
     refine ⟨⟨e.f,e.b,p1,hg⟩,fun m f b hrch hgs=>?_⟩
     rw [List.length_reverse,p2]
     refine Nat.le_of_not_lt fun hlt=>?_
     have lt_of:∀ j,j<K.length→d j<d h→j<h:=fun j hj hdj=>by
      refine Nat.lt_of_not_le fun hle=>?_
      have:=hb.mono h j hle hj
      omega
     obtain ⟨j,j1,j2⟩:=hb.all hrch fun j hj hdj=>lt_of j hj (by omega)
     obtain ⟨q,q1,q2,q3⟩:=idx_get j1
     have:=(hb.exp j q (lt_of j (idx_lt j1) (by omega)) q1).1
     unfold NetL.goal at this
     unfold NetL.goalS at hgs
     rw [q2,q3,hgs] at this
     cases this
    | false =>
     simp only
     obtain ⟨d',hb',_⟩:=hb.next hn.t7 he hg
     obtain ⟨L,hL⟩:=growF_app n bl e n.tanks.length 0 K
     exact NetL.planF_ok hn bl r (h+1) _ d' hb' (by rw [hL,List.length_append];omega) (by omega)

theorem NetL.plan_ok {n:NetL} (hn:n.Ok) (bl:Int):match n.plan bl with
    | none=>∀ m f b,n.Rch bl m f b→n.goalS f b=false
    | some l=>(∃ f b,n.runB bl l 0 0=some (f,b)∧n.goalS f b=true)∧∀ m f b,n.Rch bl m f b→n.goalS f b=true→l.length≤m :=
  NetL.planF_ok hn bl 20000 0 [root] (fun _=>0) (Bfs.start n bl) (Nat.zero_le _) (by omega)

end Go.Proofs.Vent

namespace Go.Proofs.Vent
open Go.V Go.Proofs

theorem stepR_true {n:NetL} {f b i f' b':Nat} {off:Bool} (h:n.stepR f b i off=((f',b'),true)):n.kept.testBit i=false∧b.testBit i=off:=by
 unfold NetL.stepR at h
 split at h
 ·cases h
 ·rename_i hc
  rw [Bool.not_eq_true,Bool.or_eq_false_iff] at hc
  exact ⟨hc.1,by simpa using hc.2⟩
theorem stepR_off {n:NetL} {f b i:Nat} (hk:n.kept.testBit i=false) (hb:b.testBit i=true):n.stepR f b i true=((n.spread f (diff b (2^i)),diff b (2^i)),true):=by
 unfold NetL.stepR
 rw [if_neg (by rw [hk,hb];decide)]
theorem stepR_on {n:NetL} {f b i:Nat} (hk:n.kept.testBit i=false) (hb:b.testBit i=false):n.stepR f b i false=((n.spread (f ||| 2^i) (b ||| 2^i),b ||| 2^i),true):=by
 unfold NetL.stepR
 rw [if_neg (by rw [hk,hb];decide)]

theorem NetL.Rch.ok {n:NetL} (hn:n.Ok) {bl:Int} {m f b:Nat} (h:n.Rch bl m f b):StOK n f b∧∀ v,f.testBit v=true→n.kept.testBit v=false∧v<n.tanks.length:=by
 have h7:=hn.t7
 induction h with
 | zero=>exact ⟨.zero n,fun v hv=>by rw [Nat.zero_testBit] at hv;cases hv⟩
 | @step m f b i f' b' _ hi hs hp ih =>
  obtain ⟨hk,_⟩:=stepR_true hs
  obtain ⟨_,s2,_⟩:=ih.1.step (show i<7 by omega) hk (b.testBit i) rfl
  rw [hs] at s2
  refine ⟨s2,fun v hv=>?_⟩
  cases hb:b.testBit i with
  | true =>
   rw [hb,stepR_off hk hb] at hs
   cases hs
   exact ih.2 v (n.spread_sub _ _ v hv)
  | false =>
   rw [hb,stepR_on hk hb] at hs
   cases hs
   have h1:=n.spread_sub _ _ v hv
   rw [or_at] at h1
   by_cases e:v=i
   ·rw [e];exact ⟨hk,hi⟩
   ·rw [if_neg e] at h1;exact ih.2 v h1
theorem goalS_iff {n:NetL} {f b:Nat}:n.goalS f b=true↔b=0∧Sub n.wanted f:=by
 unfold NetL.goalS
 rw [Bool.and_eq_true,beq_iff_eq,beq_iff_eq]
 constructor
 ·rintro ⟨h1,h2⟩
  refine ⟨h1,fun i hi=>?_⟩
  rw [← h2,and_bit,Bool.and_eq_true] at hi
  exact hi.1
 ·rintro ⟨h1,h2⟩
  refine ⟨h1,Nat.eq_of_testBit_eq fun i=>?_⟩
  rw [and_bit]
  cases hw:n.wanted.testBit i with
  | true=>rw [h2 i hw];rfl
  | false=>rw [Bool.and_false]

theorem cnt_list (p:Nat→Bool):∀ k,cnt k p=((List.range k).filter p).length
 | 0=>rfl
 | k+1=>by
  rw [List.range_succ,List.filter_append,List.length_append]
  simp only [cnt,cnt_list p k]
  cases hp:p k <;> simp [hp]
theorem pop_cnt (b:Nat):pop b=cnt 7 fun v=>b.testBit v:=by
 rw [cnt_list];rfl
theorem pop_le (b:Nat):pop b≤7:=by rw [pop_cnt];exact cnt_le 7 _


theorem NetL.Rch.offs {n:NetL} (hn:n.Ok) {bl:Int} {X:Nat} {g:Nat→Bool} (hX:∀ b,(∀ v,g v=true→b.testBit v=true)→n.Shut b X) :
    ∀ (r i m f b:Nat),i+r=7→n.Rch bl m f b→Sub X f→(∀ v,g v=true→b.testBit v=true)→(∀ v,b.testBit v=true→v<i→g v=true) →
    ∃ m' f',m'≤m+r∧(∃ b',n.Rch bl m' f' b'∧Sub X f'∧(∀ v,b'.testBit v=true↔g v=true))
  | 0,i,m,f,b,hi,h,hf,hg,hl=>by
   have hb7:=(h.ok hn).1.b7
   refine ⟨m,f,Nat.le_refl _,b,h,hf,fun v=>⟨fun hv=>hl v hv (by have:=bit_lt hb7 hv;omega),hg v⟩⟩
  | r+1,i,m,f,b,hi,h,hf,hg,hl=>by
   obtain ⟨hok,hfr⟩:=h.ok hn
   by_cases hc:b.testBit i=true∧g i=false
   ·obtain ⟨hk,hit⟩:=hfr i (hok.sub i hc.1)
    have hs:=stepR_off (f:=f) hk hc.1
    have hp:((pop (diff b (2^i)):Nat):Int)≤bl:=by
     have h1:pop (diff b (2^i))≤pop b:=by
      rw [pop_cnt,pop_cnt]
      exact cnt_mono 7 fun v _ hv=>by rw [diff_bit,Bool.and_eq_true] at hv;exact hv.1
     have h2:((pop b:Nat):Int)≤bl:=by
      cases h with
      | zero =>
       rw [Nat.zero_testBit] at hc
       exact absurd hc.1 (by decide)
      | step _ _ _ hp=>exact hp
     omega
    have hg':∀ v,g v=true→(diff b (2^i)).testBit v=true:=fun v hv=>by
     rw [diff_at]
     by_cases e:v=i
     ·rw [e,hc.2] at hv;cases hv
     ·rw [if_neg e];exact hg v hv
    have hrch:n.Rch bl (m+1) (n.spread f (diff b (2^i))) (diff b (2^i)):=.step h hit (by rw [hc.1];exact hs) hp
    obtain ⟨m',f',h1,h2⟩:=NetL.Rch.offs hn hX r (i+1) (m+1) _ _ (by omega) hrch (NetL.spread_most (hX _ hg') hf) hg' fun v hv hvi=>by
     rw [diff_at] at hv
     by_cases e:v=i
     ·rw [if_pos e] at hv;cases hv
     ·rw [if_neg e] at hv;exact hl v hv (by omega)
    exact ⟨m',f',by omega,h2⟩
   · obtain ⟨m',f',h1,h2⟩:=NetL.Rch.offs hn hX r (i+1) m f b (by omega) h hf hg fun v hv hvi=>by
       by_cases e:v=i
       ·subst e
        cases hgv:g v with
        | true=>rfl
        | false=>exact absurd ⟨hv,hgv⟩ hc
       ·exact hl v hv (by omega)
     exact ⟨m',f',by omega,h2⟩

theorem NetL.Rch.ons {n:NetL} (hn:n.Ok) {X:Nat} (hX:∀ v,X.testBit v=true→n.kept.testBit v=false∧v<n.tanks.length) :
    ∀ i,i≤7→∃ m f b,m≤i∧n.Rch 7 m f b∧∀ v,b.testBit v=true↔(X.testBit v=true∧v<i)
  | 0,_=>⟨0,0,0,Nat.le_refl _,.zero,fun v=>by rw [Nat.zero_testBit];simp⟩
  | i+1,hi=>by
   obtain ⟨m,f,b,h1,h2,h3⟩:=NetL.Rch.ons hn hX i (by omega)
   cases hx:X.testBit i with
   | false =>
    refine ⟨m,f,b,by omega,h2,fun v=>?_⟩
    rw [h3 v]
    constructor
    ·rintro ⟨a,c⟩;exact ⟨a,by omega⟩
    ·rintro ⟨a,c⟩
     refine ⟨a,?_⟩
     by_cases e:v=i
     ·subst e;rw [hx] at a;cases a
     ·omega
   | true =>
    obtain ⟨hk,hit⟩:=hX i hx
    have hb:b.testBit i=false:=by
     cases hb:b.testBit i with
     | false=>rfl
     | true=>have:=((h3 i).1 hb).2;omega
    have hs:=stepR_on (f:=f) hk hb
    have hp:=pop_le (b ||| 2^i)
    refine ⟨m+1,_,_,by omega,.step h2 hit (by rw [hb];exact hs) (by omega),fun v=>?_⟩
    rw [or_at]
    by_cases e:v=i
    ·subst e;rw [if_pos rfl];exact ⟨fun _=>⟨hx,by omega⟩,fun _=>rfl⟩
    ·rw [if_neg e,h3 v]
     constructor
     ·rintro ⟨a,c⟩;exact ⟨a,by omega⟩
     ·rintro ⟨a,c⟩;exact ⟨a,by omega⟩

theorem NetL.free_sep {n:NetL} (hn:n.Ok) (hw:∀ v,n.wanted.testBit v=true→v<n.tanks.length) (h:n.separate=true):∃ m f,n.Rch 7 m f 0∧n.goalS f 0=true:=by
 obtain ⟨X,hX⟩:∃ X,n.joined n.wanted=X:=⟨_,rfl⟩
 have hj:=NetL.joined_iff hn (s:=n.wanted) hn.w
 rw [hX] at hj
 have hsep:=(NetL.separate_iff hn).1 h
 have lt_con:∀ {u v:Nat},n.Con u v→u<n.tanks.length→v<n.tanks.length:=fun hc hu=>hc.closed (X:=fun v=>v<n.tanks.length) (fun _ _ _ ha=>(NetL.adj_lt hn ha).2) hu
 have hX1:∀ v,X.testBit v=true→n.kept.testBit v=false∧v<n.tanks.length:=fun v hv=>by
  obtain ⟨u,hu,hc⟩:=(hj v).1 hv
  refine ⟨?_,lt_con hc (hw u hu)⟩
  cases hk:n.kept.testBit v with
  | false=>rfl
  | true=>exact absurd hc.symm (hsep v u hk hu)
 have hsh:∀ b,n.Shut b X:=fun b u v hu _ ha=>by
  obtain ⟨w,hw,hc⟩:=(hj u).1 hu
  exact (hj v).2 ⟨w,hw,.step hc ha⟩
 have h7:=hn.t7
 obtain ⟨m,f,b,_,h2,h3⟩:=NetL.Rch.ons hn hX1 7 (Nat.le_refl _)
 have hok:=(h2.ok hn).1
 have hXf:Sub X f:=fun v hv=>hok.sub v ((h3 v).2 ⟨hv,by have:=(hX1 v hv).2;omega⟩)
 obtain ⟨m',f',_,b',r1,r2,r3⟩:=NetL.Rch.offs hn (X:=X) (g:=fun _=>false) (fun b _=>hsh b) 7 0 m f b rfl h2 hXf (fun v hv=>by cases hv) (fun v _ hv=>by omega)
 have hb0:b'=0:=Nat.eq_of_testBit_eq fun v=>by
  rw [Nat.zero_testBit]
  cases hb:b'.testBit v with
  | false=>rfl
  | true=>have:=(r3 v).1 hb;cases this
 subst hb0
 exact ⟨m',f',r1,goalS_iff.2 ⟨rfl,fun v hv=>r2 v ((hj v).2 ⟨v,hv,.refl v⟩)⟩⟩

/-! Few steps are enough. -/
noncomputable section
open Classical
def NetL.adjB (n:NetL) (u v:Nat):Bool:=decide (n.adj u v)
def NetL.goodB (n:NetL) (v:Nat):Bool:=!(n.kept.testBit v) && decide (v<n.tanks.length)

structure Pre (n:NetL) (k m:Nat) (Y:Nat→Nat→Bool) (f:Nat):Prop where
 z:∀ v,v<7→Y 0 v=false
 ok:∀ j,j≤m→∀ v,v<7→Y j v=true→n.goodB v=true
 one:∀ j,j<m→cnt 7 (fun v=>Y (j+1) v && !(Y j v))≤1
 wid:∀ j,j≤m→cnt 7 (bdy 7 n.adjB (Y j))≤k
 now:cnt 7 (fun v=>f.testBit v && !(Y m v))≤1



theorem bitsOf (X:Nat→Bool):∀ k,∃ x,x<2^k∧∀ v,x.testBit v=(X v && decide (v<k))
 | 0=>⟨0,by decide,fun v=>by rw [Nat.zero_testBit];simp⟩
 | k+1=>by
  obtain ⟨x,h1,h2⟩:=bitsOf X k
  have hp:(2:Nat)^k<2^(k+1):=Nat.pow_lt_pow_right (by decide) (by omega)
  cases hX:X k with
  | false =>
   refine ⟨x,by omega,fun v=>?_⟩
   rw [h2 v]
   by_cases e:v=k
   ·subst e;rw [hX];rfl
   ·congr 1
    apply Bool.eq_iff_iff.2
    rw [decide_eq_true_iff,decide_eq_true_iff];omega
  | true =>
   refine ⟨x ||| 2^k,Nat.or_lt_two_pow (by omega) hp,fun v=>?_⟩
   rw [or_at,h2 v]
   by_cases e:v=k
   ·subst e;rw [if_pos rfl,hX];simp
   ·rw [if_neg e]
    congr 1
    apply Bool.eq_iff_iff.2
    rw [decide_eq_true_iff,decide_eq_true_iff];omega



end

end Go.Proofs.Vent
