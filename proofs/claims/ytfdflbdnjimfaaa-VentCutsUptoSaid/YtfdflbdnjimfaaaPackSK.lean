/- VentCuts: Way, Blanks, Ways and Proves return what the document says. No condition. -/
import Derived.Test.YtfdflbdnjimfaaaPackSJ
import Derived.Test.YtfdflbdnjimfaaaPackSG
import Derived.Test.YtfdflbdnjimfaaaPackSI
import Derived.Test.YtfdflbdnjimfaaaPackTW
import Derived.Test.YtfdflbdnjimfaaaPackTC

namespace Go.Proofs.Vent
open Go.V Go.Proofs

theorem eqInts_self (a:List Int):eqInts a a=true:=eqInts_eq.2 rfl
theorem wayN_len (n:Nt) (bl wt:List Int):(n.wayN bl wt).1.length<9223372036854775808:=by
 unfold Nt.wayN
 by_cases he:n.lookE bl wt true=0
 ·rw [if_pos he]
  obtain ⟨hn,_,hw⟩:=Nt.lookE_ok he
  have hin:=Nt.wantedE_in (hw rfl)
  have hok:=Nt.look_ok hn bl hin
  cases hs:(n.look bl wt).separate with
  | true=>exact (by decide:(0:Nat)<9223372036854775808)
  | false =>
   obtain ⟨_,h1,h2,_⟩:=NetL.way_ok hok (want_in hin) hs
   have h3:(n.look bl wt).tanks.length=n.tanks.length:=rfl
   have:=hn.t7
   simp only [List.length_map]
   omega
 ·rw [if_neg he]
  exact (by decide:(0:Nat)<9223372036854775808)
theorem blanksR_len (n:Nt) (wt:List Int):(n.blanksR wt).1.length<9223372036854775808:=by
 by_cases he:n.lookE [] wt true=0
 ·obtain ⟨_,L,E,WS,h1,_,h3,h4,_⟩:=proved_facts he
  rw [h1]
  simp only [castL_len]
  omega
 ·unfold Nt.blanksR
  rw [if_neg he]
  exact (by decide:(0:Nat)<9223372036854775808)
theorem ways_err (n:Nt) (wt:List Int):(n.waysN wt).2=(n.blanksR wt).2:=by
 by_cases he:n.lookE [] wt true=0
 ·obtain ⟨_,L,E,WS,h1,h2,_⟩:=proved_facts he
  rw [h1,h2]
 ·unfold Nt.blanksR Nt.waysN
  rw [if_neg he,if_neg he]

set_option maxRecDepth 10000 in
set_option maxHeartbeats 8000000 in
theorem den4 (n:Nt) (bl wt:List Int) (k:Int) (ways:List (List Int)) (hbl:bl.length<9223372036854775808) (hwl:wt.length<9223372036854775808) (hyl:ways.length≤1048576) (hy1:∀ w∈ways,w.length<9223372036854775808) :
    DN 4 [.agg n.enc,askD bl wt k,.list 1 (ways.map encW)] (.bool true):=by
  have h24:=den24 n bl wt hbl hwl
  have h25:=den25 n bl wt hbl hwl
  rw [wayR_eq] at h25
  have h26:=den26 n wt hwl
  have h27:=den27 n wt hwl
  have h28:=den28 n wt hwl fun he=>(proved_facts he).1
  have h29:=den29 n wt ways hwl (by omega) hy1
  have h30:=den30 n wt ways hwl hyl hy1
  have hl1:=wayN_len n bl wt
  have hl2:=blanksR_len n wt
  have hwe:=ways_err n wt
  obtain ⟨⟨L1,E1⟩,h1⟩:∃ y,n.wayN bl wt=y:=⟨_,rfl⟩
  obtain ⟨⟨L2,E2⟩,h2⟩:∃ y,n.blanksR wt=y:=⟨_,rfl⟩
  obtain ⟨⟨L3,E3⟩,h3⟩:∃ y,n.waysN wt=y:=⟨_,rfl⟩
  obtain ⟨⟨b,E4⟩,h4⟩:∃ y,n.provesN wt ways=y:=⟨_,rfl⟩
  rw [h1] at h24 h25 hl1
  rw [h2] at h26 h27 hl2 hwe
  rw [h3] at h28 hwe
  rw [h4] at h29 h30
  have hwe:E3=E2:=hwe
  subst hwe
  have h19a:=den19 L1 L1 hl1
  have h19b:=den19 L2 L2 hl2
  rw [eqInts_self] at h19a h19b
  refine mk Try.func4 Try.call4 rfl rfl ?_
  refine ⟨_,rfl,_,h24,?_⟩
  refine ⟨_,rfl,_,h25,?_⟩
  refine ⟨_,rfl,_,h19a,?_⟩
  refine ⟨fun h=>Bool.noConfusion (show false=true from h),fun _=>?_⟩
  refine ⟨fun q=>(xNe q).elim,fun _=>?_⟩
  refine ⟨_,rfl,_,h26,?_⟩
  refine ⟨_,rfl,_,h27,?_⟩
  refine ⟨_,rfl,_,h28,?_⟩
  refine ⟨_,rfl,_,h19b,?_⟩
  refine ⟨fun h=>Bool.noConfusion (show false=true from h),fun _=>?_⟩
  refine ⟨fun q=>(xNe q).elim,fun _=>?_⟩
  refine ⟨fun q=>(xNe q).elim,fun _=>?_⟩
  refine ⟨_,rfl,_,h29,?_⟩
  refine ⟨_,rfl,_,h30,?_⟩
  refine ⟨fun _=>?_,fun h=>?_⟩
  ·refine ⟨fun _=>?_,fun h=>(xEq h).elim⟩
   exact ⟨_,rfl,_,den23,rfl⟩
  ·have h:(b==b)=false:=h
   exact absurd h (by simp)

end Go.Proofs.Vent
