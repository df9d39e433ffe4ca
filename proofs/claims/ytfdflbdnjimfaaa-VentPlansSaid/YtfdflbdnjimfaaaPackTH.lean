/- What steps lead to. No condition. -/
import Derived.Test.YtfdflbdnjimfaaaPackTC
import Derived.Test.YtfdflbdnjimfaaaPackTB

namespace Go.Proofs.Vent
open Go.V Go.Proofs

theorem xEq {x:Int} (h:(x==x)=false):False:=by rw [beq_self_eq_true] at h;cases h
theorem xNe {x:Int} (h:(x != x)=true):False:=by simp at h
theorem diff_at {b v:Nat}:∀ j,(diff b (2^v)).testBit j=if j=v then false else b.testBit j:=fun j=>by
 rw [diff_bit,pow_bit]
 by_cases e:j=v
 ·simp [e]
 ·simp [e]
theorem or_at {b v:Nat}:∀ j,(b ||| 2^v).testBit j=if j=v then true else b.testBit j:=fun j=>by
 rw [or_bit,pow_bit]
 by_cases e:j=v
 ·simp [e]
 ·simp [e]
theorem NetL.separate_iff {m:NetL} (hm:m.Ok):m.separate=true↔∀ k t,m.kept.testBit k=true→m.wanted.testBit t=true→¬ m.Con k t:=by
 have hiff:=fun v=>NetL.joined_iff hm (s:=m.wanted) hm.w v
 have h1:m.separate=true↔m.joined m.wanted &&& m.kept=0:=by
  unfold NetL.separate
  simp
 rw [h1]
 constructor
 ·intro h k t hk ht hc
  have h2:=(hiff k).2 ⟨t,ht,hc.symm⟩
  have h3:(m.joined m.wanted &&& m.kept).testBit k=true:=by rw [and_bit,h2,hk];rfl
  rw [h,Nat.zero_testBit] at h3
  cases h3
 ·intro h
  apply Nat.eq_of_testBit_eq
  intro i
  rw [Nat.zero_testBit,and_bit]
  cases hk:m.kept.testBit i with
  | false=>rw [Bool.and_false]
  | true =>
   cases hj:(m.joined m.wanted).testBit i with
   | false=>rfl
   | true =>
    obtain ⟨u,hu,hc⟩:=(hiff i).1 hj
    exact absurd hc.symm (h i u hk hu)
theorem NetL.afterL_app (m:NetL):∀ (a c:List Vs) (f b:Nat),m.afterL (a++c) f b=if (m.afterL a f b).1=0 then m.afterL c (m.afterL a f b).2.1 (m.afterL a f b).2.2 else m.afterL a f b
 | [],c,f,b=>rfl
 | x::a,c,f,b=>by
  have hst:∀ r,m.afterL (x::r) f b=match offB m.tanks.length x.tank with
   | true=>(4,f,b)
   | false=>match m.stepR f b x.tank.toNat x.off with
    | (_,false)=>(2,f,b)
    | ((f',b'),true)=>m.afterL r f' b':=fun _=>rfl
  rcases Bool.eq_false_or_eq_true (offB m.tanks.length x.tank) with ho | ho
  ·have h1:∀ r,m.afterL (x::r) f b=(4,f,b):=fun r=>by rw [hst r,ho]
   rw [List.cons_append,h1,h1];rfl
  ·obtain ⟨⟨⟨f',b'⟩,is_⟩,hs⟩:∃ y,m.stepR f b x.tank.toNat x.off=y:=⟨_,rfl⟩
   cases is_ with
   | false =>
    have h1:∀ r,m.afterL (x::r) f b=(2,f,b):=fun r=>by rw [hst r,ho];dsimp only;rw [hs]
    rw [List.cons_append,h1,h1];rfl
   | true =>
    have h1:∀ r,m.afterL (x::r) f b=m.afterL r f' b':=fun r=>by rw [hst r,ho];dsimp only;rw [hs]
    rw [List.cons_append,h1,h1];exact m.afterL_app a c f' b'
structure StOK (m:NetL) (f b:Nat):Prop where
 f7:f<2^7
 b7:b<2^7
 sub:Sub b f
 shut:m.Shut b f
theorem shut_self (m:NetL) (b:Nat):m.Shut b b:=fun u v hu hb _=>by rw [hu] at hb;cases hb
theorem StOK.zero (m:NetL):StOK m 0 0:=⟨by decide,by decide,.refl _,shut_self m 0⟩
theorem StOK.step {m:NetL} {f b i:Nat} (h:StOK m f b) (hi:i<7) (hk:m.kept.testBit i=false) (off:Bool) (hb:b.testBit i=off) :
    (m.stepR f b i off).2=true∧StOK m (m.stepR f b i off).1.1 (m.stepR f b i off).1.2∧∀ j,(m.stepR f b i off).1.2.testBit j=if j=i then !off else b.testBit j:=by
  have hc:(m.kept.testBit i || !(b.testBit i==off))=false:=by rw [hk,hb];simp
  have hlt:=m.stepR_lt (i:=i) (off:=off) h.f7 h.b7 hi
  unfold NetL.stepR at hlt ⊢
  rw [if_neg (by rw [hc];decide)] at hlt ⊢
  cases off with
  | true =>
   simp only at hlt ⊢
   refine ⟨trivial,⟨hlt.1,hlt.2,NetL.spread_most (shut_self m _) (fun j hj=>?_),NetL.spread_closed h.f7 _⟩,fun j=>diff_at j⟩
   rw [diff_bit,Bool.and_eq_true] at hj
   exact h.sub j hj.1
  | false =>
   simp only at hlt ⊢
   refine ⟨trivial,⟨hlt.1,hlt.2,NetL.spread_most (shut_self m _) (fun j hj=>?_),NetL.spread_closed (or_lt h.f7 (pow7 hi)) _⟩,fun j=>or_at j⟩
   rw [or_bit,Bool.or_eq_true] at hj ⊢
   exact hj.imp (h.sub j) id

theorem Nt.check_of {n:Nt} {bl wt:List Int} {a:Bool} (h:n.lookE bl wt a=0):n.check.2.2=0:=by
 unfold Nt.lookE at h
 split at h
 ·exact absurd h (by assumption)
 ·rename_i hc;simpa using hc

end Go.Proofs.Vent
