/- Any steps with so many blowers: what they lead to. No condition. -/
import Derived.Test.YtfdflbdnjimfaaaPackTY
import Derived.Test.YtfdflbdnjimfaaaPackTO
import Derived.Test.YtfdflbdnjimfaaaPackTS

namespace Go.Proofs.Vent
open Go.V Go.Proofs

theorem pop_on {b k:Nat} (hk:k<7) (h:b.testBit k=false):pop (b ||| 2^k)=pop b+1:=by
 rw [pop_cnt,pop_cnt]
 have h1:cnt 7 (fun v=>(b ||| 2^k).testBit v)≤cnt 7 (fun v=>b.testBit v)+1:=by
  have h2:=cnt4 7 (p:=fun v=>(b ||| 2^k).testBit v) (q:=fun _=>false) (r:=fun v=>b.testBit v) (s:=fun v=>decide (v=k)) fun v _=>by
   rw [or_at]
   by_cases e:v=k
   ·subst e;rw [if_pos rfl];simp
   ·rw [if_neg e];simp
  have h3:cnt 7 (fun v=>decide (v=k))≤1:=cnt_one_of (v:=k) fun u _ hu=>of_decide_eq_true hu
  omega
 have h2:cnt 7 (fun v=>b.testBit v)<cnt 7 (fun v=>(b ||| 2^k).testBit v):=cnt_lt 7 (fun v _ hv=>by rw [or_bit,hv];rfl) k hk (by rw [or_at,if_pos rfl]) h
 omega
theorem pop_off {b k:Nat} (hk:k<7) (h:b.testBit k=true):pop (diff b (2^k))+1=pop b:=by
 have h1:=pop_on (b:=diff b (2^k)) hk (by rw [diff_at,if_pos rfl])
 have e:diff b (2^k) ||| 2^k=b:=Nat.eq_of_testBit_eq fun i=>by
  rw [or_at,diff_at]
  by_cases e:i=k
  ·subst e;rw [if_pos rfl,h]
  ·rw [if_neg e,if_neg e]
 rw [e] at h1
 omega

theorem Leads.step2 {n:Nt} (hn:n.Ok) {bl wt:List Int} {out:List Vs} {op:List Bool} {f b k:Nat} (h:Leads (n.look bl wt) out op f b) (hop:op.length=7) (hk:k<n.tanks.length) (hkb:n.keptB k=false) :
    ∃ f' b',(n.look bl wt).stepR f b k (b.testBit k)=((f',b'),true)∧op.getD k false=b.testBit k∧Leads (n.look bl wt) (out++[⟨(k:Int),op.getD k false⟩]) (op.set k (!(op.getD k false))) f' b':=by
  have h7:=hn.t7
  obtain ⟨h1,h2,h3⟩:=h
  have hkk:(n.look bl wt).kept.testBit k=false:=by rw [kept_iff,hkb,Bool.and_false]
  have hob:=h3 k (by omega)
  obtain ⟨s1,s2,s3⟩:=h2.step (by omega) hkk (op.getD k false) hob.symm
  obtain ⟨⟨⟨f',b'⟩,is_⟩,hs⟩:∃ y,(n.look bl wt).stepR f b k (op.getD k false)=y:=⟨_,rfl⟩
  rw [hs] at s1 s2 s3
  have s1:is_=true:=s1
  subst s1
  refine ⟨f',b',by rw [← hob];exact hs,hob,?_,s2,fun j hj=>?_⟩
  ·rw [NetL.afterL_app,h1]
   simp only [if_true,NetL.afterL]
   have ho:offB ((n.look bl wt).tanks.length:Int) ((k:Nat):Int)=false:=by
    unfold offB
    have:((n.look bl wt).tanks.length:Int)=n.tanks.length:=rfl
    rw [this,decide_eq_false (by omega),decide_eq_false (by omega)]
    rfl
   rw [ho]
   simp only [Int.toNat_natCast]
   rw [hs]
  ·rw [getD_set (by omega),s3 j]
   by_cases e:j=k
   ·rw [if_pos e,if_pos e]
   ·rw [if_neg e,if_neg e,h3 j hj]

theorem anyL_q {n:Nt} (hn:n.Ok) {bl wt:List Int} (bw:Int) {Q:Int→Nat→Nat→Prop}
    (hQ:∀ (now:Int) (f b k f' b':Nat),StOK (n.look bl wt) f b→Q now f b→k<n.tanks.length→(b.testBit k=false→now<bw)→(n.look bl wt).stepR f b k (b.testBit k)=((f',b'),true)→Q (if b.testBit k=true then now - 1 else now+1) f' b') :
    ∀ (xs:List Nat) (out:List Vs) (op:List Bool) (now:Int) (f b:Nat),Leads (n.look bl wt) out op f b→op.length=7→out.length≤60→Q now f b →
    ∃ f' b' now',(n.look bl wt).afterL (anyL n bw xs (out,op,now)).1 0 0=(0,f',b')∧StOK (n.look bl wt) f' b'∧(anyL n bw xs (out,op,now)).1.length≤60∧Q now' f' b'
  | [],out,op,now,f,b,h,hop,hl,hq=>⟨f,b,now,h.1,h.2.1,hl,hq⟩
  | x::xs,out,op,now,f,b,h,hop,hl,hq=>by
   have h1:=hn.t1
   unfold anyL
   by_cases hlen:out.length<60
   ·rw [if_pos hlen]
    have hk:x % n.tanks.length<n.tanks.length:=Nat.mod_lt _ (by omega)
    unfold anyStep
    by_cases hc:(n.keptB (x % n.tanks.length) || (!(op.getD (x % n.tanks.length) false) && decide (now ≥ bw)))=true
    ·rw [if_pos hc]
     exact anyL_q hn bw hQ xs out op now f b h hop hl hq
    ·rw [if_neg hc]
     rw [Bool.not_eq_true,Bool.or_eq_false_iff] at hc
     obtain ⟨f',b',h2,h3,h4⟩:=h.step2 hn hop hk hc.1
     refine anyL_q hn bw hQ xs _ _ _ f' b' h4 (by rw [List.length_set];exact hop) (by simp;omega) ?_
     simp only
     rw [h3]
     refine hQ now f b _ f' b' h.2.1 hq hk (fun hb=>?_) h2
     have h5:=hc.2
     rw [h3,hb,Bool.not_false,Bool.true_and] at h5
     have:=of_decide_eq_false h5
     omega
   ·rw [if_neg hlen]
    exact ⟨f,b,now,h.1,h.2.1,hl,hq⟩

theorem any_rch {n:Nt} (hn:n.Ok) (bl wt:List Int) (xs:List Nat) {bw:Int} (hb:0≤bw):∃ m f b,(n.look bl wt).afterL (anyR n [] xs bw) 0 0=(0,f,b)∧(anyR n [] xs bw).length≤60∧(n.look bl wt).Rch bw m f b:=by
 have h7:=hn.t7
 obtain ⟨f,b,now,h1,_,h3,h4⟩:=anyL_q hn (bl:=bl) (wt:=wt) bw (Q:=fun now f b=>now=((pop b:Nat):Int)∧now≤bw∧∃ m,(n.look bl wt).Rch bw m f b) (fun now f b k f' b' hst ⟨q1,q2,m,q3⟩ hk hnow hs=>by
  obtain ⟨hkk,_⟩:=stepR_true hs
  have hk':k<(n.look bl wt).tanks.length:=hk
  cases hbk:b.testBit k with
  | true =>
   have hs2:=hs
   rw [hbk,stepR_off hkk hbk] at hs2
   cases hs2
   have:=pop_off (b:=b) (show k<7 by omega) hbk
   simp only [if_true]
   exact ⟨by omega,by omega,m+1,.step q3 hk' hs (by omega)⟩
  | false =>
   have hs2:=hs
   rw [hbk,stepR_on hkk hbk] at hs2
   cases hs2
   have:=pop_on (b:=b) (show k<7 by omega) hbk
   have:=hnow hbk
   simp only [Bool.false_eq_true,if_false]
   exact ⟨by omega,by omega,m+1,.step q3 hk' hs (by omega)⟩) xs [] [false,false,false,false,false,false,false] 0 0 0 (Leads.nil (n.look bl wt)) rfl (by decide) ⟨rfl,hb,0,.zero⟩
 obtain ⟨_,_,m,h5⟩:=h4
 exact ⟨m,f,b,h1,h3,h5⟩

theorem rch_zero {n:NetL} (hn:n.Ok) {m f b:Nat} (h:n.Rch 0 m f b):f=0∧b=0:=by
 have h7:=hn.t7
 induction h with
 | zero=>exact ⟨rfl,rfl⟩
 | @step m f b i f' b' _ hi hs hp ih =>
  exfalso
  obtain ⟨rfl,rfl⟩:=ih
  obtain ⟨hk,_⟩:=stepR_true hs
  have hz:(0:Nat).testBit i=false:=Nat.zero_testBit i
  rw [hz,stepR_on hk hz] at hs
  cases hs
  have:=pop_on (b:=0) (show i<7 by omega) hz
  omega

theorem all_iff {n:Nt} {bl wt:List Int} (hn:n.Ok) (hin:inAll n.tanks.length wt) {f:Nat}:wt.all (hasI (tanks f))=true↔Sub (n.look bl wt).wanted f:=by
 have h7:=hn.t7
 rw [List.all_eq_true]
 constructor
 ·intro h v hv
  have h1:=(want_iff (bl:=bl) hin v).1 hv
  have h2:=h _ h1
  have h3:=hin _ h1
  rwa [hasI_tanks (by omega)] at h2
 ·intro h v hv
  have h3:=hin v hv
  obtain ⟨t,rfl⟩:∃ t:Nat,v=t:=⟨v.toNat,by omega⟩
  rw [hasI_tanks (by omega)]
  exact h t ((want_iff hin t).2 hv)
theorem tanks_nil {b:Nat} (hb:b<2^7):(tanks b).length=0↔b=0:=by
 rw [tanks_eq,List.length_map]
 constructor
 ·intro h
  refine Nat.eq_of_testBit_eq fun i=>?_
  rw [Nat.zero_testBit]
  cases hi:b.testBit i with
  | false=>rfl
  | true =>
   have:=mem_tanksU.2 ⟨bit_lt hb hi,hi⟩
   rw [List.length_eq_zero_iff.1 h] at this
   cases this
 ·rintro rfl;rfl
theorem want_ne {n:Nt} {bl wt:List Int} (hw:n.wantedE wt=none):¬ (n.look bl wt).wanted=0:=by
 intro h
 have hin:=Nt.wantedE_in hw
 cases wt with
 | nil=>unfold Nt.wantedE at hw;simp at hw
 | cons v r =>
  have h3:=hin v (by simp)
  have:=(want_iff (bl:=bl) hin v.toNat).2 (by rw [Int.toNat_of_nonneg h3.1];simp)
  rw [h,Nat.zero_testBit] at this
  cases this

theorem spN_want (n:Nt) (bl wt wt':List Int) (f b:Nat):∀ k,(n.look bl wt).spN f b k=(n.look bl wt').spN f b k
 | 0=>rfl
 | k+1=>by
  rw [NetL.spN_succ,NetL.spN_succ,spN_want n bl wt wt' f b k]
  rfl
theorem spreadF_want (n:Nt) (bl wt wt':List Int) (b:Nat):∀ r f,(n.look bl wt).spreadF r f b=(n.look bl wt').spreadF r f b
 | 0,f=>rfl
 | r+1,f=>by
  have hs:(n.look bl wt).sp f b=(n.look bl wt').sp f b:=spN_want n bl wt wt' f b _
  unfold NetL.spreadF
  rw [hs,spreadF_want n bl wt wt' b r]
theorem stepR_want (n:Nt) (bl wt wt':List Int) (f b i:Nat) (off:Bool):(n.look bl wt).stepR f b i off=(n.look bl wt').stepR f b i off:=by
 have hs:∀ f b,(n.look bl wt).spread f b=(n.look bl wt').spread f b:=fun f b=>spreadF_want n bl wt wt' b 128 f
 unfold NetL.stepR
 rw [hs,hs]
 rfl
theorem afterL_want (n:Nt) (bl wt wt':List Int):∀ (l:List Vs) (f b:Nat),(n.look bl wt).afterL l f b=(n.look bl wt').afterL l f b
 | [],f,b=>rfl
 | x::r,f,b=>by
  have h1:∀ wt,(n.look bl wt).afterL (x::r) f b=match offB n.tanks.length x.tank with
   | true=>(4,f,b)
   | false=>match (n.look bl wt).stepR f b x.tank.toNat x.off with
    | (_,false)=>(2,f,b)
    | ((f',b'),true)=>(n.look bl wt).afterL r f' b':=fun _=>rfl
  rw [h1,h1,stepR_want n bl wt wt' f b x.tank.toNat x.off]
  cases offB n.tanks.length x.tank with
  | true=>rfl
  | false =>
   obtain ⟨⟨⟨f',b'⟩,is_⟩,hs⟩:∃ y,(n.look bl wt').stepR f b x.tank.toNat x.off=y:=⟨_,rfl⟩
   rw [hs]
   cases is_ with
   | false=>rfl
   | true=>exact afterL_want n bl wt wt' r f' b'

end Go.Proofs.Vent
