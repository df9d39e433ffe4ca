/- VentGas: steps can free wanted tanks just if there is no way of gas. No condition. -/
import Derived.Test.YtfdflbdnjimfaaaPackTS
import Derived.Test.YtfdflbdnjimfaaaPackTP
import Derived.Test.YtfdflbdnjimfaaaPackTQ
import Derived.Test.YtfdflbdnjimfaaaPackTG
import Derived.Test.YtfdflbdnjimfaaaPackTK
import Derived.Test.YtfdflbdnjimfaaaPackTF

namespace Go.Proofs.Vent
open Go.V Go.Proofs

theorem occ_nodup {v:Int}:∀ {l:List Int},l.Nodup→occ v l≤1
  | [],_=>(by decide:(0:Int)≤1)
  | x::r,h=>by
    have h1:=List.nodup_cons.1 h
    have ih:=occ_nodup (v:=v) h1.2
    simp only [occ]
    by_cases e:x=v
    · have:occ v r=0:=by
        have key:∀ l:List Int,v ∉ l→occ v l=0:=by
          intro l
          induction l with
          | nil=>intro _;rfl
          | cons y l ih =>
            intro hn
            simp only [occ]
            rw [if_neg (fun e=>hn (by simp [e])),ih (fun h=>hn (by simp [h]))]
            rfl
        exact key r (e ▸ h1.1)
      rw [if_pos e];omega
    · rw [if_neg e];omega
theorem cast_nodup {l:List Nat} (h:l.Nodup):(l.map fun i=>((i:Nat):Int)).Nodup:=by
  unfold List.Nodup at h ⊢
  rw [List.pairwise_map]
  exact h.imp fun h=>by omega
theorem wayN_sep {n:Nt} {bl wt:List Int} (he:n.lookE bl wt true=0) (hs:(n.look bl wt).separate=true):n.wayN bl wt=([],4):=by unfold Nt.wayN;rw [if_pos he,hs]
theorem wayN_not {n:Nt} {bl wt:List Int} (he:n.lookE bl wt true=0) (hs:(n.look bl wt).separate=false):n.wayN bl wt=((n.look bl wt).way.map fun i=>((i:Nat):Int),0):=by unfold Nt.wayN;rw [if_pos he,hs]
theorem lookE_drop {n:Nt} {bl wt:List Int} (he:n.lookE bl wt true=0):n.lookE [] wt true=0:=by
  obtain ⟨_,_,hw⟩:=Nt.lookE_ok he
  have hc:=Nt.check_of he
  have hw:=hw rfl
  unfold Nt.lookE
  rw [if_neg (by simpa using hc)]
  have:n.blanksE []=none:=rfl
  rw [this]
  simp [hw]
theorem way_proved {n:Nt} {bl wt:List Int} (he:n.lookE bl wt true=0) (hs:(n.look bl wt).separate=false):n.provesN wt [(n.look bl wt).way.map fun i=>((i:Nat):Int)]=(true,0)∧∀ i∈(n.look bl wt).way,hasI bl (i:Nat)=false:=by
  obtain ⟨hn,_,hw⟩:=Nt.lookE_ok he
  have hin:=Nt.wantedE_in (hw rfl)
  have hok:=Nt.look_ok hn bl hin
  have hok0:=Nt.look_ok hn [] hin
  obtain ⟨⟨k,hk,hp⟩,_⟩:=NetL.way_ok hok (want_in hin) hs
  have hg:=NetL.way_gas (n:=n.look bl wt) (m:=n.look [] wt) hok rfl rfl rfl (bit_lt hok.k hk) hp
  refine ⟨?_,fun i hi=>?_⟩
  · unfold Nt.provesN
    rw [if_pos (lookE_drop he)]
    rw [NetL.proves_ok hok0 _ [] (fun w hw=>?_) (fun v=>Int.le_refl _) (fun i p _ _=>?_)]
    · rw [List.mem_singleton.1 hw]
      exact ⟨k,hk,hg⟩
    · have h1:=occ_nodup (v:=(i:Nat)) (cast_nodup (Pth.nodup hok hp).1)
      have h2:countU [] (i:Nat)=0:=rfl
      simp only [List.flatten_cons,List.flatten_nil,List.append_nil]
      omega
  · obtain ⟨h1,h2⟩:=Pth.open_ hp i hi
    rw [look_op hn.p,Bool.and_eq_true] at h2
    simpa using h2.2

set_option maxRecDepth 10000 in
set_option maxHeartbeats 8000000 in
theorem den11 (n:Nt) (bl wt:List Int) (k:Int) (hbl:bl.length<9223372036854775808) (hwl:wt.length<9223372036854775808):DN 11 [.agg n.enc,askD bl wt k] (.bool true):=by
  have h24:=den24 n bl wt hbl hwl
  have h34:=den34 n bl wt hbl hwl
  have h31:=den31 n bl wt 7 hbl hwl
  have h39:=den39 n bl wt hbl hwl
  refine mk Try.func11 Try.call11 rfl rfl ?_
  by_cases he:n.lookE bl wt true=0
  rotate_left
  · have r1:n.wayN bl wt=([],n.lookE bl wt true):=by unfold Nt.wayN;rw [if_neg he]
    have r2:n.fewN bl wt=(0,n.lookE bl wt true):=by unfold Nt.fewN;rw [if_neg he]
    have r3:n.planN bl wt 7=([],n.lookE bl wt true):=by unfold Nt.planN;rw [if_neg he]
    rw [r1] at h24
    rw [r2] at h34
    rw [r3] at h31
    refine ⟨_,rfl,_,h24,?_⟩
    refine ⟨_,rfl,_,h34,?_⟩
    refine ⟨_,rfl,_,h31,?_⟩
    refine ⟨_,rfl,_,h39,?_⟩
    refine ⟨fun _=>?_,fun h=>?_⟩
    · refine ⟨fun _=>?_,fun h=>(xEq h).elim⟩
      refine ⟨fun _=>?_,fun h=>(xEq h).elim⟩
      refine ⟨fun _=>?_,fun h=>(xEq h).elim⟩
      exact ⟨_,rfl,_,den23,rfl⟩
    · have h:(n.lookE bl wt true != 0)=false:=h
      exact absurd (by simpa using h) he
  obtain ⟨hn,_,hw⟩:=Nt.lookE_ok he
  have hin:=Nt.wantedE_in (hw rfl)
  have hok:=Nt.look_ok hn bl hin
  rw [he] at h39
  have r3:=planN_of (k:=7) he (by decide) (by decide)
  cases hs:(n.look bl wt).separate with
  | true =>
    obtain ⟨c,f1,_,_,⟨l,hl⟩,_⟩:=few_ok hok (want_in hin) hs
    have hc7:(c:Int)≤7:=by
      have:=hn.t7
      have h3:(n.look bl wt).tanks.length=n.tanks.length:=rfl
      omega
    obtain ⟨l',hl'⟩:=plan_more hok hc7 hl
    rw [hl'] at r3
    rw [wayN_sep he hs] at h24
    rw [fewN_sep he hs,f1] at h34
    rw [r3] at h31
    refine ⟨_,rfl,_,h24,?_⟩
    refine ⟨_,rfl,_,h34,?_⟩
    refine ⟨_,rfl,_,h31,?_⟩
    refine ⟨_,rfl,_,h39,?_⟩
    refine ⟨fun h=>absurd h (by decide),fun _=>?_⟩
    refine ⟨fun _=>?_,fun h=>absurd h (by decide)⟩
    refine ⟨fun _=>?_,fun h=>Bool.noConfusion (show true=false from h)⟩
    refine ⟨fun _=>?_,fun h=>Bool.noConfusion (show true=false from h)⟩
    refine ⟨fun _=>?_,fun h=>Bool.noConfusion (show true=false from h)⟩
    exact ⟨_,rfl,_,den23,rfl⟩
  | false =>
    have hpn:(n.look bl wt).plan 7=none:=by
      cases hp:(n.look bl wt).plan 7 with
      | none=>rfl
      | some l=>have:=plan_sep hok hp;rw [hs] at this;cases this
    rw [hpn] at r3
    obtain ⟨w1,w2⟩:=way_proved he hs
    rw [wayN_not he hs] at h24
    rw [fewN_not he hs] at h34
    rw [r3] at h31
    have hlen:((n.look bl wt).way.length:Int)<7:=by
      obtain ⟨_,h1,h2,_⟩:=NetL.way_ok hok (want_in hin) hs
      have h3:(n.look bl wt).tanks.length=n.tanks.length:=rfl
      have:=hn.t7
      omega
    have h29:=den29 n wt [(n.look bl wt).way.map fun i=>((i:Nat):Int)] hwl (show 1<9223372036854775808 by decide) (fun w hw=>by rw [List.mem_singleton.1 hw,List.length_map];omega)
    rw [w1] at h29
    obtain ⟨W,hW⟩:∃ W,(n.look bl wt).way=W:=⟨_,rfl⟩
    rw [hW] at h24 h29 hlen w2
    have hWl:(((W.map fun i=>((i:Nat):Int)).map encI).length:Int)=W.length:=by simp
    refine ⟨_,rfl,_,h24,?_⟩
    refine ⟨_,rfl,_,h34,?_⟩
    refine ⟨_,rfl,_,h31,?_⟩
    refine ⟨_,rfl,_,h39,?_⟩
    refine ⟨fun h=>absurd h (by decide),fun _=>?_⟩
    refine ⟨fun h=>Bool.noConfusion (show false=true from h),fun _=>?_⟩
    refine ⟨_,rfl,_,h29,?_⟩
    refine ⟨[3,5,6,8,10,12,13,14],2,[],fun σ=>∃ i:Nat,i≤W.length ∧
      σ=⟨[(3,.loc 1 0),(5,.list 1 ((W.map fun i=>((i:Nat):Int)).map encI)),(6,.int .i64 0),(8,.int .i64 9),(10,.int .i64 9),(12,.bool true),(13,.int .i64 0),(14,.int .i64 i)],[.flat false n.enc,.flat false [.list 1 (bl.map encI),.list 1 (wt.map encI),.int .i64 k]],.non⟩,
      fun σ=>(1000 - slotI 14 σ).toNat,rfl,⟨rfl,rfl⟩,⟨0,Nat.zero_le _,rfl⟩,?_⟩
    rintro σ ⟨i,hi,rfl⟩
    refine ⟨fun q1=>?_,fun q1=>?_⟩
    · have q1:=of_decide_eq_true q1
      rw [hWl] at q1
      have hi':i<W.length:=by omega
      have less:(1000 - ((i:Int)+1)).toNat<(1000 - (i:Int)).toNat:=by omega
      have hrow:=encI_get (l:=W.map fun i=>((i:Nat):Int)) (i:=i) (by simpa using hi')
      have hv:(W.map fun i=>((i:Nat):Int))[i]'(by simpa using hi')=((W[i]:Nat):Int):=by simp
      rw [hv] at hrow
      have h46:=den46 bl ((W[i]:Nat):Int) hbl
      rw [w2 _ (List.getElem_mem hi')] at h46
      refine Or.inl ⟨by kernel_rfl,?_⟩
      refine ⟨fun _=>?_,fun h=>absurd h (by decide)⟩
      refine ⟨by omega,_,hrow,?_⟩
      refine ⟨_,rfl,_,h46,?_⟩
      refine ⟨(i:Int)+1,wrap64 (by omega) (by omega),?_⟩
      exact ⟨⟨rfl,rfl⟩,⟨i+1,hi',rfl⟩,less⟩
    · refine ⟨fun _=>?_,fun h=>absurd h (by decide)⟩
      refine ⟨fun _=>?_,fun h=>absurd h (by decide)⟩
      refine ⟨fun _=>?_,fun h=>absurd h (by decide)⟩
      refine ⟨fun _=>?_,fun h=>absurd h (by decide)⟩
      refine ⟨fun _=>?_,fun h=>absurd h (by decide)⟩
      exact ⟨_,rfl,_,den23,rfl⟩

end Go.Proofs.Vent
