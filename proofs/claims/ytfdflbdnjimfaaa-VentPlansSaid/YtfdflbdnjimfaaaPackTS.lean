/- Plan and Fewest: when there are steps, and with how many blowers. No condition. -/
import Derived.Test.YtfdflbdnjimfaaaPackTO
import Derived.Test.YtfdflbdnjimfaaaPackTC
import Derived.Test.YtfdflbdnjimfaaaPackTK

namespace Go.Proofs.Vent
open Go.V Go.Proofs


theorem NetL.Rch.tanks {n:NetL} (hn:n.Ok) {bl:Int} {m f b:Nat} (h:n.Rch bl m f b):pop b≤n.tanks.length:=by
 obtain ⟨h1,h2⟩:=h.ok hn
 have h7:=hn.t7
 rw [pop_cnt]
 have key:∀ k,n.tanks.length≤k→cnt k (fun v=>b.testBit v)≤n.tanks.length:=by
  intro k
  induction k with
  | zero=>intro _;exact Nat.zero_le _
  | succ k ih =>
   intro hk
   by_cases e:n.tanks.length=k+1
   ·rw [e];exact cnt_le _ _
   ·have h3:=ih (by omega)
    simp only [cnt]
    cases hb:b.testBit k with
    | false=>simpa using h3
    | true=>have:=(h2 k (h1.sub k hb)).2;omega
 exact key 7 h7
theorem NetL.Rch.least {n:NetL} (hn:n.Ok) {bl:Int} {m f b:Nat} (h:n.Rch bl m f b):n.Rch n.tanks.length m f b:=by
 have key:∀ {m f b:Nat},n.Rch bl m f b→n.Rch n.tanks.length m f b:=by
  intro m f b h
  induction h with
  | zero=>exact .zero
  | @step m f b i f' b' h0 hi hs hp ih =>
   have h1:n.Rch bl (m+1) f' b':=.step h0 hi hs hp
   have:=h1.tanks hn
   exact .step ih hi hs (by omega)
 exact key h
theorem plan_none {n:NetL} (hn:n.Ok) {bl:Int}:n.plan bl=none↔∀ m f b,n.Rch bl m f b→n.goalS f b=false:=by
 have h:=NetL.plan_ok hn bl
 cases hp:n.plan bl with
 | none=>rw [hp] at h;exact ⟨fun _=>h,fun _=>rfl⟩
 | some l =>
  rw [hp] at h
  obtain ⟨⟨f,b,h1,h2⟩,_⟩:=h
  refine ⟨fun h=>(by cases h),fun h3=>?_⟩
  have h4:=NetL.runB_rch l 0 0 0 f b .zero h1
  rw [h3 _ _ _ h4] at h2
  cases h2
theorem plan_some {n:NetL} (hn:n.Ok) {bl:Int} {m f b:Nat} (h:n.Rch bl m f b) (hg:n.goalS f b=true):∃ l,n.plan bl=some l:=by
 cases hp:n.plan bl with
 | some l=>exact ⟨l,rfl⟩
 | none=>have:=plan_none hn |>.1 hp m f b h;rw [this] at hg;cases hg
theorem fewF_ok {n:NetL}:∀ (r many:Nat),(∃ k:Nat,n.fewF r many=(((k:Nat):Int),0)∧many≤k∧k<many+r∧(∃ l,n.plan k=some l)∧∀ j:Nat,many≤j→j<k→n.plan j=none)∨(n.fewF r many=(0,9)∧∀ j:Nat,many≤j→j<many+r→n.plan j=none)
 | 0,many=>.inr ⟨rfl,fun j h1 h2=>by omega⟩
 | r+1,many=>by
  unfold NetL.fewF
  cases hp:n.plan many with
  | some l=>exact .inl ⟨many,rfl,Nat.le_refl _,by omega,⟨l,hp⟩,fun j h1 h2=>by omega⟩
  | none =>
   rcases fewF_ok r (many+1) with ⟨k,h1,h2,h3,h4,h5⟩ | ⟨h1,h2⟩
   ·refine .inl ⟨k,h1,by omega,by omega,h4,fun j a c=>?_⟩
    by_cases e:j=many
    ·subst e;exact hp
    ·exact h5 j (by omega) c
   ·refine .inr ⟨h1,fun j a c=>?_⟩
    by_cases e:j=many
    ·subst e;exact hp
    ·exact h2 j (by omega) (by omega)
theorem few_ok {n:NetL} (hn:n.Ok) (hw:∀ v,n.wanted.testBit v=true→v<n.tanks.length) (hs:n.separate=true):∃ k:Nat,n.fewF n.tanks.length 1=(((k:Nat):Int),0)∧1≤k∧k≤n.tanks.length∧(∃ l,n.plan k=some l)∧∀ j:Nat,1≤j→j<k→n.plan j=none:=by
 have h1:=hn.t1
 rcases fewF_ok (n:=n) n.tanks.length 1 with ⟨k,h2,h3,h4,h5,h6⟩ | ⟨_,h3⟩
 ·exact ⟨k,h2,h3,by omega,h5,h6⟩
 ·exfalso
  obtain ⟨m,f,h4,h5⟩:=NetL.free_sep hn hw hs
  obtain ⟨l,hl⟩:=plan_some hn (h4.least hn) h5
  rw [h3 n.tanks.length h1 (by omega)] at hl
  cases hl

theorem want_in {n:Nt} {bl wt:List Int} (hin:inAll n.tanks.length wt):∀ v,(n.look bl wt).wanted.testBit v=true→v<(n.look bl wt).tanks.length:=fun v hv=>by
 have h1:=(want_iff (bl:=bl) hin v).1 hv
 have h2:=hin _ h1
 have h3:(n.look bl wt).tanks.length=n.tanks.length:=rfl
 omega
theorem fewN_sep {n:Nt} {bl wt:List Int} (he:n.lookE bl wt true=0) (hs:(n.look bl wt).separate=true):n.fewN bl wt=(n.look bl wt).fewF (n.look bl wt).tanks.length 1:=by
 unfold Nt.fewN
 rw [if_pos he,hs]
 rfl
theorem fewN_not {n:Nt} {bl wt:List Int} (he:n.lookE bl wt true=0) (hs:(n.look bl wt).separate=false):n.fewN bl wt=(0,9):=by
 unfold Nt.fewN
 rw [if_pos he,hs]
theorem planN_of {n:Nt} {bl wt:List Int} {k:Int} (he:n.lookE bl wt true=0) (h1:1≤k) (h7:k≤7):n.planN bl wt k=match (n.look bl wt).plan k with
    | none=>([],9)
    | some l=>(l,0):=by
  unfold Nt.planN
  rw [if_pos he,if_neg (by omega)]
  cases (n.look bl wt).plan k <;> rfl

end Go.Proofs.Vent
