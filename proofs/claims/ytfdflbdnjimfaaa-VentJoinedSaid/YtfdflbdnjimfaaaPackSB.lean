/- One more blank: no more tanks are joined, and no more blowers are needed. No condition. -/
import Derived.Test.YtfdflbdnjimfaaaPackTS
import Derived.Test.YtfdflbdnjimfaaaPackTV

namespace Go.Proofs.Vent
open Go.V Go.Proofs

theorem NetL.Rch.less {n m:NetL} (hn:n.Ok) (ht:m.tanks=n.tanks) (hk:m.kept=n.kept) (hadj:∀ u v,m.adj u v→n.adj u v) {bl:Int} {k f b:Nat} (h:n.Rch bl k f b):∃ f',m.Rch bl k f' b∧Sub f f':=by
  induction h with
  | zero=>exact ⟨0,.zero,Sub.refl 0⟩
  | @step k f b i f1 b1 hr hi hs hp ih =>
    obtain ⟨f',hr',hsub⟩:=ih
    obtain ⟨kk,_⟩:=stepR_true hs
    have kk':m.kept.testBit i=false:=by rw [hk];exact kk
    have hi':i<m.tanks.length:=by rw [ht];exact hi
    have h7:=hn.t7
    have hf7:=(hr.ok hn).1.f7
    have hsh:∀ {b X:Nat},n.Shut b X→m.Shut b X:=fun h u v hu hb ha=>h u v hu hb (hadj u v ha)
    cases hb:b.testBit i with
    | true =>
      rw [hb,stepR_off kk hb] at hs
      cases hs
      refine ⟨m.spread f' (diff b (2^i)),.step hr' hi' (by rw [hb];exact stepR_off kk' hb) hp,?_⟩
      exact NetL.spread_most (hsh (NetL.spread_closed hf7 _)) fun j hj=>hsub j (n.spread_sub _ _ j hj)
    | false =>
      rw [hb,stepR_on kk hb] at hs
      cases hs
      refine ⟨m.spread (f' ||| 2^i) (b ||| 2^i),.step hr' hi' (by rw [hb];exact stepR_on kk' hb) hp,?_⟩
      refine NetL.spread_most (hsh (NetL.spread_closed (or_lt hf7 (pow7 (by omega))) _)) fun j hj=>?_
      have h1:=n.spread_sub _ _ j hj
      rw [or_bit,Bool.or_eq_true] at h1 ⊢
      exact h1.imp (hsub j) id
theorem plan_less {n m:NetL} (hn:n.Ok) (hm:m.Ok) (ht:m.tanks=n.tanks) (hk:m.kept=n.kept) (hw:m.wanted=n.wanted) (hadj:∀ u v,m.adj u v→n.adj u v) {bl:Int} {l:List Vs} (h:n.plan bl=some l):∃ l',m.plan bl=some l':=by
  have h1:=NetL.plan_ok hn bl
  rw [h] at h1
  obtain ⟨⟨f,b,h2,h3⟩,_⟩:=h1
  obtain ⟨f',h4,h5⟩:=(NetL.runB_rch l 0 0 0 f b .zero h2).less hn ht hk hadj
  obtain ⟨h6,h7⟩:=goalS_iff.1 h3
  exact plan_some hm h4 (goalS_iff.2 ⟨h6,fun i hi=>h5 i (h7 i (by rw [← hw];exact hi))⟩)
theorem con_less {n m:NetL} (hadj:∀ u v,m.adj u v→n.adj u v) {u v:Nat} (h:m.Con u v):n.Con u v:=h.map hadj
theorem sep_less {n m:NetL} (hn:n.Ok) (hm:m.Ok) (hk:m.kept=n.kept) (hw:m.wanted=n.wanted) (hadj:∀ u v,m.adj u v→n.adj u v) (h:n.separate=true):m.separate=true:=by
  rw [NetL.separate_iff hm]
  intro k t h1 h2 hc
  rw [hk] at h1
  rw [hw] at h2
  exact (NetL.separate_iff hn).1 h k t h1 h2 (con_less hadj hc)

def moreB (n:Nt) (bl:List Int) (p i:Nat):Bool:=hasI bl i || (decide (i=p) && !(n.weldB i))
def moreN (n:Nt) (bl:List Int) (p k:Nat):List Nat:=(List.range k).filter (moreB n bl p)
theorem moreN_succ (n:Nt) (bl:List Int) (p k:Nat):moreN n bl p (k+1)=if moreB n bl p k=true then moreN n bl p k++[k] else moreN n bl p k:=by
  unfold moreN
  rw [List.range_succ,List.filter_append]
  cases h:moreB n bl p k <;> simp [h]
theorem moreN_len (n:Nt) (bl:List Int) (p k:Nat):(moreN n bl p k).length≤k:=by
  have:=List.length_filter_le (moreB n bl p) (List.range k)
  rw [List.length_range] at this
  exact this
theorem blanks_flange {n:Nt} {bl:List Int} (h:n.blanksE bl=none) {i:Nat} (hi:hasI bl i=true):n.weldB i=false:=by
  unfold hasI at hi
  rw [List.any_eq_true] at hi
  obtain ⟨x,hx,he⟩:=hi
  obtain ⟨j,hj,rfl⟩:=List.getElem_of_mem hx
  have h1:=(eachF_in _ _ _ _ _ h (by omega) j (Nat.zero_le _) hj).2.1
  rw [dAt_get hj] at h1
  have h2:(i:Int)=bl[j]:=beq_iff_eq.1 he
  rw [h2];exact h1
theorem more_weld {n:Nt} {bl:List Int} (h:n.blanksE bl=none) {p i:Nat} (hi:moreB n bl p i=true):n.weldB i=false:=by
  unfold moreB at hi
  rw [Bool.or_eq_true] at hi
  rcases hi with hi | hi
  · exact blanks_flange h hi
  · rw [Bool.and_eq_true] at hi
    simpa using hi.2
theorem more_ok {n:Nt} {bl:List Int} (h:n.lookE bl [] false=0) (p:Nat):n.lookE (castL (moreN n bl p n.pipes.length)) [] false=0:=by
  have hc:=Nt.check_of h
  have hb:=(Nt.lookE_ok h).2.1
  refine blanks_ok hc (List.Pairwise.filter _ List.pairwise_lt_range) (fun j hj=>List.mem_range.1 (List.mem_filter.1 hj).1) fun j hj=>more_weld hb (List.mem_filter.1 hj).2
theorem more_has {n:Nt} {bl:List Int} {p i:Nat} (hi:i<n.pipes.length):hasI (castL (moreN n bl p n.pipes.length)) i=moreB n bl p i:=by
  rw [hasI_cast]
  apply Bool.eq_iff_iff.2
  rw [bset_iff]
  unfold moreN
  rw [List.mem_filter,List.mem_range]
  exact ⟨fun h=>h.2,fun h=>⟨hi,h⟩⟩
theorem more_adj {n:Nt} (hn:n.Ok) {bl wt:List Int} {p:Nat} {u v:Nat} (h:(n.look (castL (moreN n bl p n.pipes.length)) wt).adj u v):(n.look bl wt).adj u v:=by
  rw [look_adj hn] at h ⊢
  obtain ⟨i,q,hq,ho,he⟩:=h
  refine ⟨i,q,hq,?_,he⟩
  rw [more_has (List.getElem?_eq_some_iff.1 hq).1] at ho
  unfold moreB at ho
  rw [Bool.or_eq_false_iff] at ho
  exact ho.1

theorem more_few {n:Nt} {bl wt:List Int} (he:n.lookE bl wt true=0) {p:Nat} (h:(n.fewN bl wt).2=0) :
    (n.fewN (castL (moreN n bl p n.pipes.length)) wt).2=0∧(n.fewN (castL (moreN n bl p n.pipes.length)) wt).1≤(n.fewN bl wt).1:=by
  obtain ⟨hn,hb,hw⟩:=Nt.lookE_ok he
  have hw:=hw rfl
  have hin:=Nt.wantedE_in hw
  have hok:=Nt.look_ok hn bl hin
  have hc:=Nt.check_of he
  have he1:n.lookE bl [] false=0:=by
    unfold Nt.lookE
    rw [if_neg (by simpa using hc),hb]
  have hm1:=more_ok he1 p
  obtain ⟨bl2,hbl2⟩:∃ x,castL (moreN n bl p n.pipes.length)=x:=⟨_,rfl⟩
  have hadj:∀ u v,(n.look bl2 wt).adj u v→(n.look bl wt).adj u v:=fun u v h=>by rw [← hbl2] at h;exact more_adj hn h
  rw [hbl2] at hm1 ⊢
  have hok2:=Nt.look_ok hn bl2 hin
  have he2:n.lookE bl2 wt true=0:=by
    have h3:=(Nt.lookE_ok hm1).2.1
    unfold Nt.lookE
    rw [if_neg (by simpa using hc),h3,hw]
  cases hs:(n.look bl wt).separate with
  | false=>rw [fewN_not he hs] at h;cases h
  | true =>
    have hs2:=sep_less hok hok2 rfl rfl hadj hs
    obtain ⟨k,f1,k1,k2,⟨l,hl⟩,_⟩:=few_ok hok (want_in hin) hs
    obtain ⟨k',f2,_,_,_,hmin⟩:=few_ok hok2 (want_in hin) hs2
    rw [fewN_sep he hs,f1,fewN_sep he2 hs2,f2]
    refine ⟨rfl,?_⟩
    show ((k':Nat):Int)≤((k:Nat):Int)
    obtain ⟨l',hl'⟩:=plan_less hok hok2 rfl rfl rfl hadj hl
    by_cases hlt:k<k'
    · have:=hmin k k1 hlt
      rw [hl'] at this
      cases this
    · omega

end Go.Proofs.Vent
