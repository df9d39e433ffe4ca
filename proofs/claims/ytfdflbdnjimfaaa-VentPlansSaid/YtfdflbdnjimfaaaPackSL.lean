/- The document's plan is plan's: all states that steps lead to, in order. No condition. -/
import Derived.Test.YtfdflbdnjimfaaaPackTO

namespace Go.Proofs.Vent
open Go.V Go.Proofs

theorem growFK {n:NetL} {blowers:Int} {e:En} (hf:e.f<2^7) (hb:e.b<2^7):∀ (r i:Nat) (K:List En),Known K→(∃ j,idx K e.f e.b=some j)→i+r≤7→Known (n.growF blowers e r i K)
 | 0,_,K,h,_,_=>h
 | r+1,i,K,h,he,hi=>by
  unfold NetL.growF
  refine growFK hf hb r (i+1) _ (h.grow1 he hf hb (by omega)) ?_ (by omega)
  obtain ⟨L,hL⟩:=grow1_app n blowers e i K
  obtain ⟨j,hj⟩:=he
  exact ⟨j,by rw [hL];exact idx_app _ hj⟩

def NetL.tryK (n:NetL) (bl:Int) (e:En) (k:Nat) (K:List En):List En:=match n.stepR e.f e.b (k / 2) (k % 2==1) with
 | (_,false)=>K
 | ((f',b'),true)=>if (idx K f' b').isSome=false∧((pop b':Nat):Int)≤bl then K++[⟨f',b',e.f,e.b,k / 2,k % 2==1⟩] else K
def NetL.tryF (n:NetL) (bl:Int) (e:En):Nat→List En→List En
 | 0,K=>K
 | k+1,K=>n.tryK bl e k (n.tryF bl e k K)
theorem stepR_wrong {n:NetL} {f b i:Nat} {off:Bool} (h:b.testBit i≠off):n.stepR f b i off=((f,b),false):=by
 unfold NetL.stepR
 rw [if_pos (by cases hb:b.testBit i <;> cases off <;> simp_all)]
theorem try_two {n:NetL} {bl:Int} {e:En} (t:Nat) (K:List En):n.tryK bl e (2*t+1) (n.tryK bl e (2*t) K)=n.grow1 bl e t K:=by
 have d1:(2*t) / 2=t:=by omega
 have d2:(2*t+1) / 2=t:=by omega
 have m1:((2*t) % 2==1)=false:=by simp
 have m2:((2*t+1) % 2==1)=true:=by rw [show (2*t+1) % 2=1 by omega];rfl
 unfold NetL.tryK NetL.grow1
 rw [d1,d2,m1,m2]
 cases hb:e.b.testBit t with
 | false =>
  rw [stepR_wrong (show e.b.testBit t≠true by rw [hb];decide)]
  cases n.stepR e.f e.b t false with
  | mk s c=>cases c <;> rfl
 | true =>
  rw [stepR_wrong (show e.b.testBit t≠false by rw [hb];decide)]
  cases n.stepR e.f e.b t true with
  | mk s c=>cases c <;> rfl
theorem tryF_grow (n:NetL) (bl:Int) (e:En):∀ (r i:Nat) (K:List En),n.growF bl e r i (n.tryF bl e (2*i) K)=n.tryF bl e (2*(i+r)) K
 | 0,_,_=>rfl
 | r+1,i,K=>by
  unfold NetL.growF
  have:n.grow1 bl e i (n.tryF bl e (2*i) K)=n.tryF bl e (2*(i+1)) K:=by rw [← try_two];rfl
  rw [this,tryF_grow n bl e r (i+1) K,show i+1+r=i+(r+1) by omega]
theorem tryF_all (n:NetL) (bl:Int) (e:En) (K:List En):n.tryF bl e (2*n.tanks.length) K=n.growF bl e n.tanks.length 0 K:=by
 have:=tryF_grow n bl e n.tanks.length 0 K
 rw [Nat.zero_add] at this
 exact this.symm
theorem tryF_app (n:NetL) (bl:Int) (e:En):∀ (k:Nat) (K:List En),∃ L,n.tryF bl e k K=K++L
 | 0,K=>⟨[],by simp [NetL.tryF]⟩
 | k+1,K=>by
  obtain ⟨L,hL⟩:=tryF_app n bl e k K
  unfold NetL.tryF NetL.tryK
  rw [hL]
  split
  ·exact ⟨L,rfl⟩
  ·split
   ·exact ⟨L++[_],by rw [List.append_assoc]⟩
   ·exact ⟨L,rfl⟩
theorem Known.tryK {n:NetL} (hn:n.Ok) {K:List En} (h:Known K) {bl:Int} {e:En} (he:∃ j,idx K e.f e.b=some j) (hf:e.f<2^7) (hb:e.b<2^7) {k:Nat} (hk:k<2*n.tanks.length):Known (n.tryK bl e k K):=by
 have h7:=hn.t7
 unfold NetL.tryK
 have hlt:=n.stepR_lt (i:=k / 2) (off:=k % 2==1) hf hb (by omega)
 obtain ⟨⟨⟨f',b'⟩,is_⟩,hs⟩:∃ y,n.stepR e.f e.b (k / 2) (k % 2==1)=y:=⟨_,rfl⟩
 rw [hs] at hlt ⊢
 cases is_ with
 | false=>exact h
 | true =>
  simp only
  split
  ·rename_i hc
   obtain ⟨j,hj⟩:=he
   refine h.snoc hlt.1 hlt.2 ?_ hj
   cases hi:idx K f' b' with
   | none=>rfl
   | some _=>rw [hi] at hc;cases hc.1
  ·exact h
theorem Known.tryF {n:NetL} (hn:n.Ok) {K:List En} (h:Known K) {bl:Int} {e:En} (he:∃ j,idx K e.f e.b=some j) (hf:e.f<2^7) (hb:e.b<2^7):∀ k,k≤2*n.tanks.length→Known (n.tryF bl e k K)
 | 0,_=>h
 | k+1,hk=>by
  obtain ⟨L,hL⟩:=tryF_app n bl e k K
  obtain ⟨j,hj⟩:=he
  refine (Known.tryF hn h ⟨j,hj⟩ hf hb k (by omega)).tryK hn ⟨j,?_⟩ hf hb (by omega)
  rw [hL];exact idx_app L hj

def NetL.reachF (n:NetL) (bl:Int):Nat→Nat→List En→List En
 | 0,_,K=>K
 | r+1,h,K=>match K[h]? with
  | none=>K
  | some e=>n.reachF bl r (h+1) (n.growF bl e n.tanks.length 0 K)
theorem reachF_app (n:NetL) (bl:Int):∀ (r h:Nat) (K:List En),∃ L,n.reachF bl r h K=K++L
 | 0,_,K=>⟨[],by simp [NetL.reachF]⟩
 | r+1,h,K=>by
  unfold NetL.reachF
  cases K[h]? with
  | none=>exact ⟨[],by simp⟩
  | some e =>
   obtain ⟨L1,h1⟩:=growF_app n bl e n.tanks.length 0 K
   obtain ⟨L2,h2⟩:=reachF_app n bl r (h+1) (n.growF bl e n.tanks.length 0 K)
   exact ⟨L1++L2,by simp only;rw [h2,h1,List.append_assoc]⟩
def NetL.reach (n:NetL) (bl:Int):List En:=n.reachF bl 20000 0 [root]

theorem pathF_app {K:List En} (h:Known K) (L:List En):∀ (q f b i:Nat),idx K f b=some i→pathF (K++L) q f b=pathF K q f b
 | 0,_,_,_,_=>rfl
 | q+1,f,b,i,hi=>by
  unfold pathF
  by_cases h0:f=0∧b=0
  ·rw [if_pos h0,if_pos h0]
  ·rw [if_neg h0,if_neg h0,idx_app L hi,hi]
   obtain ⟨e,e1,e2,e3⟩:=idx_get hi
   have hil:=(List.getElem?_eq_some_iff.1 e1).1
   simp only
   rw [List.getElem?_append_left hil,e1]
   simp only
   have hpos:0<i:=by
    rcases Nat.eq_zero_or_pos i with e0 | e0
    ·subst e0
     rw [h.ne] at e1
     cases e1
     exact absurd ⟨e2.symm,e3.symm⟩ h0
    ·exact e0
   obtain ⟨j,hj,_⟩:=h.par i e e1 hpos
   rw [pathF_app h L q e.pf e.pb j hj]

theorem planF_reach {n:NetL} (hn:n.Ok) (bl:Int):∀ (r h:Nat) (K:List En),Known K→16384<h+r→(∀ j e,j<h→K[j]?=some e→n.goal e=false) →
    Known (n.reachF bl r h K)∧match n.planF bl r h K with
    | none=>∀ e∈n.reachF bl r h K,n.goal e=false
    | some l=>∃ (i:Nat) (e:En),(n.reachF bl r h K)[i]?=some e∧n.goal e=true∧(∀ (j:Nat) (d:En),j<i→(n.reachF bl r h K)[j]?=some d→n.goal d=false)∧l=(pathF (n.reachF bl r h K) 20000 e.f e.b).reverse
  | 0,h,K,hK,hr,hg=>by
   have:=hK.len
   refine ⟨hK,fun e he=>?_⟩
   obtain ⟨j,hj⟩:=List.mem_iff_getElem?.1 he
   have hj:K[j]?=some e:=hj
   exact hg j e (by have:=(List.getElem?_eq_some_iff.1 hj).1;omega) hj
  | r+1,h,K,hK,hr,hg=>by
   unfold NetL.reachF NetL.planF
   cases he:K[h]? with
   | none =>
    simp only
    refine ⟨hK,fun e hm=>?_⟩
    obtain ⟨j,hj⟩:=List.mem_iff_getElem?.1 hm
    exact hg j e (by have:=(List.getElem?_eq_some_iff.1 hj).1;have:=List.getElem?_eq_none_iff.1 he;omega) hj
   | some e =>
    simp only
    have hlt:=hK.lt e (List.mem_of_getElem? he)
    have hK2:Known (n.growF bl e n.tanks.length 0 K):=growFK hlt.1 hlt.2 n.tanks.length 0 K hK ⟨h,idx_at hK he⟩ (by have:=hn.t7;omega)
    obtain ⟨L,hL⟩:=growF_app n bl e n.tanks.length 0 K
    have hkeep:∀ j d,j<K.length→(n.growF bl e n.tanks.length 0 K)[j]?=some d→K[j]?=some d:=fun j d hj hd=>by
     rw [hL,List.getElem?_append_left hj] at hd;exact hd
    have hhl:=(List.getElem?_eq_some_iff.1 he).1
    cases hge:n.goal e with
    | true =>
     simp only
     have key:∀ (r h:Nat) (K:List En),Known K→h≤K.length→Known (n.reachF bl r h K):=by
      intro r
      induction r with
      | zero=>intro h K hK _;exact hK
      | succ r ih =>
       intro h K hK hh
       unfold NetL.reachF
       cases he:K[h]? with
       | none=>exact hK
       | some e =>
        have hlt:=hK.lt e (List.mem_of_getElem? he)
        obtain ⟨L,hL⟩:=growF_app n bl e n.tanks.length 0 K
        have hhl:=(List.getElem?_eq_some_iff.1 he).1
        exact ih (h+1) _ (growFK hlt.1 hlt.2 n.tanks.length 0 K hK ⟨h,idx_at hK he⟩ (by have:=hn.t7;omega)) (by rw [hL,List.length_append];omega)
     refine ⟨key r (h+1) _ hK2 (by rw [hL,List.length_append];omega),?_⟩
     obtain ⟨L2,hL2⟩:=reachF_app n bl r (h+1) (n.growF bl e n.tanks.length 0 K)
     rw [hL2,hL,List.append_assoc]
     refine ⟨h,e,by rw [List.getElem?_append_left hhl];exact he,hge,fun j d hj hd=>?_,?_⟩
     ·rw [List.getElem?_append_left (by omega)] at hd
      exact hg j d hj hd
     ·rw [pathF_app hK _ 20000 e.f e.b h (idx_at hK he)]
    | false =>
     simp only
     exact planF_reach hn bl r (h+1) _ hK2 (by omega) fun j d hj hd=>by
      have hd:=hkeep j d (by omega) hd
      by_cases e0:j=h
      ·subst e0;rw [he] at hd;cases hd;exact hge
      ·exact hg j d (by omega) hd
theorem plan_reach {n:NetL} (hn:n.Ok) (bl:Int):Known (n.reach bl)∧match n.plan bl with
    | none=>∀ e∈n.reach bl,n.goal e=false
    | some l=>∃ (i:Nat) (e:En),(n.reach bl)[i]?=some e∧n.goal e=true∧(∀ (j:Nat) (d:En),j<i→(n.reach bl)[j]?=some d→n.goal d=false)∧l=(pathF (n.reach bl) 20000 e.f e.b).reverse :=
  planF_reach hn bl 20000 0 [root] Known.root (by omega) fun j e h=>by omega

def codeF (f b:Nat):Nat→Nat
 | 0=>0
 | i+1=>4*codeF f b i+(if f.testBit i=true then 1 else 0)+(if b.testBit i=true then 2 else 0)
theorem codeF_lt (f b:Nat):∀ i,codeF f b i<4^i
 | 0=>Nat.zero_lt_one
 | i+1=>by
  have:=codeF_lt f b i
  simp only [codeF,Nat.pow_succ]
  split <;> split <;> omega
theorem codeF_inj {f b f' b':Nat}:∀ i,codeF f b i=codeF f' b' i→∀ j,j<i→f.testBit j=f'.testBit j∧b.testBit j=b'.testBit j
 | 0,_,j,hj=>by omega
 | i+1,h,j,hj=>by
  simp only [codeF] at h
  have h1:codeF f b i=codeF f' b' i∧f.testBit i=f'.testBit i∧b.testBit i=b'.testBit i:=by
   cases hf:f.testBit i <;> cases hb:b.testBit i <;> cases hf':f'.testBit i <;> cases hb':b'.testBit i <;> rw [hf,hb,hf',hb'] at h <;> simp at h <;> first | (exact ⟨by omega,rfl,rfl⟩) | (exfalso;omega)
  by_cases e:j=i
  ·subst e;exact h1.2
  ·exact codeF_inj i h1.1 j (by omega)
def codeN (f b:Nat):Nat:=codeF f b 7
theorem codeN_lt (f b:Nat):codeN f b<16384:=codeF_lt f b 7
theorem codeN_inj {f b f' b':Nat} (hf:f<2^7) (hb:b<2^7) (hf':f'<2^7) (hb':b'<2^7) (h:codeN f b=codeN f' b'):f=f'∧b=b':=by
 have key:=codeF_inj 7 h
 constructor
 ·refine Nat.eq_of_testBit_eq fun i=>?_
  by_cases hi:i<7
  ·exact (key i hi).1
  ·rw [show f.testBit i=false from ?_,show f'.testBit i=false from ?_]
   ·cases h:f'.testBit i with
    | false=>rfl
    | true=>exact absurd (bit_lt hf' h) hi
   ·cases h:f.testBit i with
    | false=>rfl
    | true=>exact absurd (bit_lt hf h) hi
 ·refine Nat.eq_of_testBit_eq fun i=>?_
  by_cases hi:i<7
  ·exact (key i hi).2
  ·rw [show b.testBit i=false from ?_,show b'.testBit i=false from ?_]
   ·cases h:b'.testBit i with
    | false=>rfl
    | true=>exact absurd (bit_lt hb' h) hi
   ·cases h:b.testBit i with
    | false=>rfl
    | true=>exact absurd (bit_lt hb h) hi

end Go.Proofs.Vent
