/- VentBlowers: with as many blowers as Fewest says there is a plan; any steps with fewer do not free the wanted tanks. No condition. -/
import Derived.Test.YtfdflbdnjimfaaaPackTZ
import Derived.Test.YtfdflbdnjimfaaaPackTG
import Derived.Test.YtfdflbdnjimfaaaPackTK
import Derived.Test.YtfdflbdnjimfaaaPackTF

namespace Go.Proofs.Vent
open Go.V Go.Proofs

theorem blow_none {n:Nt} {bl wt:List Int} (he:n.lookE bl wt true=0) {bw:Int} (h0:0≤bw) (hno:∀ m f b,(n.look bl wt).Rch bw m f b→(n.look bl wt).goalS f b=false) (xs:List Nat) :
    ∃ f b,n.afterR bl (anyR n [] xs bw)=(0,f,b)∧(wt.all (hasI (tanks f))=true→(((tanks b).map encI).length:Int)=0→False):=by
  obtain ⟨hn,hb,hw⟩:=Nt.lookE_ok he
  have hin:=Nt.wantedE_in (hw rfl)
  have hc:=Nt.check_of he
  have hok:=Nt.look_ok hn bl hin
  obtain ⟨m,f,b,h1,h2,h3⟩:=any_rch hn bl wt xs h0
  have he0:n.lookE bl [] false=0:=by
    unfold Nt.lookE
    rw [if_neg (by simpa using hc),hb]
  have hR:n.afterR bl (anyR n [] xs bw)=(0,f,b):=by
    unfold Nt.afterR
    rw [if_pos he0,if_neg (by omega),← h1]
    exact afterL_want n bl [] wt _ 0 0
  refine ⟨f,b,hR,fun a1 a2=>?_⟩
  have hs:=(h3.ok hok).1
  have hb0:b=0:=(tanks_nil hs.b7).1 (by rw [List.length_map] at a2;omega)
  have:=hno m f b h3
  rw [goalS_iff.2 ⟨hb0,(all_iff hn hin).1 a1⟩] at this
  cases this

set_option maxRecDepth 10000 in
set_option maxHeartbeats 8000000 in
theorem den10 (n:Nt) (bl wt:List Int) (k:Int) (xs:List Nat) (hbl:bl.length<9223372036854775808) (hwl:wt.length<9223372036854775808) (hxs:xs.length<9223372036854775808) (hx8:∀ b∈xs,b<256) :
    DN 10 [.agg n.enc,askD bl wt k,.list 1 (xs.map encB)] (.bool true):=by
  have h34:=den34 n bl wt hbl hwl
  have h39:=den39 n bl wt hbl hwl
  refine mk Try.func10 Try.call10 rfl rfl ?_
  by_cases he:n.lookE bl wt true=0
  rotate_left
  · have r2:n.fewN bl wt=(0,n.lookE bl wt true):=by unfold Nt.fewN;rw [if_neg he]
    rw [r2] at h34
    refine ⟨_,rfl,_,h34,?_⟩
    refine ⟨_,rfl,_,h39,?_⟩
    refine ⟨fun _=>?_,fun h=>?_⟩
    · refine ⟨fun _=>?_,fun h=>(xEq h).elim⟩
      refine ⟨fun _=>?_,fun h=>Bool.noConfusion (show true=false from h)⟩
      exact ⟨_,rfl,_,den23,rfl⟩
    · have h:(n.lookE bl wt true != 0)=false:=h
      exact absurd (by simpa using h) he
  obtain ⟨hn,_,hw⟩:=Nt.lookE_ok he
  have hw:=hw rfl
  have hin:=Nt.wantedE_in hw
  have hok:=Nt.look_ok hn bl hin
  have h7:=hn.t7
  have htl:(n.look bl wt).tanks.length=n.tanks.length:=rfl
  have h44:=fun bw=>(den44 n hn [] xs bw (by decide) (fun x h=>by cases h) hxs hx8).wkargs (args:=[.agg n.enc,.list 0 [],.list 1 (xs.map encB),.int .i64 bw]) (.cons (.refl _) (.cons (.of (.nil 0 2)) (.cons (.refl _) (.cons (.refl _) .nil))))
  rw [he] at h39
  cases hs:(n.look bl wt).separate with
  | true =>
    obtain ⟨c,f1,c1,c2,⟨l,hl⟩,hmin⟩:=few_ok hok (want_in hin) hs
    have r3:=planN_of (n:=n) (bl:=bl) (wt:=wt) (k:=(c:Int)) he (by omega) (by omega)
    rw [hl] at r3
    have h31:=den31 n bl wt c hbl hwl
    rw [r3] at h31
    rw [fewN_sep he hs,f1] at h34
    have hno:∀ m f b,(n.look bl wt).Rch ((c:Int) - 1) m f b→(n.look bl wt).goalS f b=false:=by
      by_cases h1:c=1
      · subst h1
        intro m f b hr
        have hr:(n.look bl wt).Rch 0 m f b:=hr
        obtain ⟨rfl,rfl⟩:=rch_zero hok hr
        cases hg:(n.look bl wt).goalS 0 0 with
        | false=>rfl
        | true =>
          have h2:=(goalS_iff.1 hg).2
          refine absurd (Nat.eq_of_testBit_eq fun i=>?_) (want_ne (bl:=bl) hw)
          rw [Nat.zero_testBit]
          cases hi:(n.look bl wt).wanted.testBit i with
          | false=>rfl
          | true=>have:=h2 i hi;rw [Nat.zero_testBit] at this;cases this
      · have:=hmin (c - 1) (by omega) (by omega)
        rw [show ((c:Int) - 1)=((c - 1:Nat):Int) by omega]
        exact (plan_none hok).1 this
    obtain ⟨f,b,hR,hfin⟩:=blow_none he (show 0≤(c:Int) - 1 by omega) hno xs
    have h44:=h44 ((c:Int) - 1)
    obtain ⟨A,hA⟩:∃ A,anyR n [] xs ((c:Int) - 1)=A:=⟨_,rfl⟩
    rw [hA] at h44 hR
    have h20:=den20 n bl A hbl
    rw [hR] at h20
    have h20:DN 20 [.agg n.enc,.list 1 (bl.map encI),.list 2 (A.map Vs.enc)] (.tup [.agg [.list 1 ((tanks f).map encI),.list 1 ((tanks b).map encI)],.int .i64 0]):=h20
    have h45:=den45 (tanks f) (tanks b) wt (tanks_len f) hwl
    refine ⟨_,rfl,_,h34,?_⟩
    refine ⟨_,rfl,_,h39,?_⟩
    refine ⟨fun h=>Bool.noConfusion (show false=true from h),fun _=>?_⟩
    refine ⟨fun _=>?_,fun h=>Bool.noConfusion (show true=false from h)⟩
    refine ⟨_,rfl,_,h31,?_⟩
    refine ⟨fun h=>Bool.noConfusion (show false=true from h),fun _=>?_⟩
    refine ⟨fun q=>?_,fun _=>?_⟩
    · have q:(c:Int)<1:=of_decide_eq_true q
      omega
    refine ⟨fun q=>?_,fun _=>?_⟩
    · have q:(c:Int) > 7:=of_decide_eq_true q
      omega
    refine ⟨(c:Int) - 1,wrap64 (by omega) (by omega),?_⟩
    refine ⟨_,rfl,_,h44,?_⟩
    refine ⟨_,rfl,_,h20,?_⟩
    refine ⟨fun _=>?_,fun h=>Bool.noConfusion (show true=false from h)⟩
    refine ⟨fun _=>?_,fun h=>Bool.noConfusion (show true=false from h)⟩
    refine ⟨_,rfl,_,h45,?_⟩
    refine ⟨fun a1=>?_,fun a1=>?_⟩
    · have a1:wt.all (hasI (tanks f))=true:=a1
      refine ⟨fun a2=>?_,fun a2=>?_⟩
      · exact ⟨_,rfl,_,den23,rfl⟩
      · have a2:(!((((tanks b).map encI).length:Int)==0))=false:=a2
        exact (hfin a1 (by simpa using a2)).elim
    · have a1:wt.all (hasI (tanks f))=false:=a1
      exact ⟨_,rfl,_,den23,rfl⟩
  | false =>
    rw [fewN_not he hs] at h34
    have hno:∀ m f b,(n.look bl wt).Rch 7 m f b→(n.look bl wt).goalS f b=false:=fun m f b hr=>by
      cases hg:(n.look bl wt).goalS f b with
      | false=>rfl
      | true=>have:=hr.sep hok hg;rw [hs] at this;cases this
    obtain ⟨f,b,hR,hfin⟩:=blow_none he (show (0:Int)≤7 by decide) hno xs
    have h44:=h44 7
    obtain ⟨A,hA⟩:∃ A,anyR n [] xs 7=A:=⟨_,rfl⟩
    rw [hA] at h44 hR
    have h20:=den20 n bl A hbl
    rw [hR] at h20
    have h20:DN 20 [.agg n.enc,.list 1 (bl.map encI),.list 2 (A.map Vs.enc)] (.tup [.agg [.list 1 ((tanks f).map encI),.list 1 ((tanks b).map encI)],.int .i64 0]):=h20
    have h45:=den45 (tanks f) (tanks b) wt (tanks_len f) hwl
    refine ⟨_,rfl,_,h34,?_⟩
    refine ⟨_,rfl,_,h39,?_⟩
    refine ⟨fun h=>Bool.noConfusion (show false=true from h),fun _=>?_⟩
    refine ⟨fun h=>Bool.noConfusion (show false=true from h),fun _=>?_⟩
    refine ⟨_,rfl,_,h44,?_⟩
    refine ⟨_,rfl,_,h20,?_⟩
    refine ⟨fun h=>Bool.noConfusion (show false=true from h),fun _=>?_⟩
    refine ⟨fun _=>?_,fun h=>Bool.noConfusion (show true=false from h)⟩
    refine ⟨fun _=>?_,fun h=>Bool.noConfusion (show true=false from h)⟩
    refine ⟨_,rfl,_,h45,?_⟩
    refine ⟨fun a1=>?_,fun a1=>?_⟩
    · have a1:wt.all (hasI (tanks f))=true:=a1
      refine ⟨fun a2=>?_,fun a2=>?_⟩
      · exact ⟨_,rfl,_,den23,rfl⟩
      · have a2:(!((((tanks b).map encI).length:Int)==0))=false:=a2
        exact (hfin a1 (by simpa using a2)).elim
    · have a1:wt.all (hasI (tanks f))=false:=a1
      exact ⟨_,rfl,_,den23,rfl⟩

end Go.Proofs.Vent
