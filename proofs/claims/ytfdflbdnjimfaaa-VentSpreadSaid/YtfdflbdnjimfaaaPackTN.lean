/- VentSpread: how gas has spread after steps. No condition. -/
import Derived.Test.YtfdflbdnjimfaaaPackTY
import Derived.Test.YtfdflbdnjimfaaaPackTJ
import Derived.Test.YtfdflbdnjimfaaaPackTF

namespace Go.Proofs.Vent
open Go.V Go.Proofs

set_option maxHeartbeats 16000000 in
theorem den13 (n:Nt) (bl:List Int) (xs:List Nat) (hbl:bl.length<9223372036854775808) (hxs:xs.length<9223372036854775808) (hx8:∀ b∈xs,b<256):DN 13 [.agg n.enc,.list 1 (bl.map encI),.list 1 (xs.map encB)] (.bool true):=by
  refine mk Try.func13 Try.call13 rfl rfl ?_
  refine ⟨_,rfl,_,den42 n bl hbl,?_⟩
  by_cases he:n.lookE bl [] false=0
  rotate_left
  · have hR:n.afterR bl []=(n.lookE bl [] false,0,0):=by unfold Nt.afterR;rw [if_neg he]
    have h20:DN 20 [.agg n.enc,.list 1 (bl.map encI),.list 0 []] (.tup [.agg [.list 0 [],.list 0 []],.int .i64 (n.lookE bl [] false)]):=by
      have h:=den20 n bl [] hbl
      rw [hR,afterD_bad he] at h
      exact h.wkargs (.cons (.refl _) (.cons (.refl _) (.cons (.of (.nil 0 2)) .nil)))
    have hne:(n.lookE bl [] false != 0)=true:=by simpa using he
    refine ⟨fun _=>?_,fun h=>?_⟩
    · refine ⟨_,rfl,_,h20,?_⟩
      refine ⟨fun _=>?_,fun h=>?_⟩
      · exact ⟨_,rfl,_,den23,rfl⟩
      · rw [hne] at h;cases h
    · rw [hne] at h;cases h
  rw [he]
  have hn:=(Nt.lookE_ok he).1
  have h7:=hn.t7
  have h12:=hn.p
  have hpl:((n.pipes.map Rp.enc).length:Int)=n.pipes.length:=by simp
  refine ⟨fun h=>absurd h (by decide),fun _=>?_⟩
  have h44:=(den44 n hn [] xs 7 (by decide) (fun x h=>by cases h) hxs hx8).wkargs (args:=[.agg n.enc,.list 0 [],.list 1 (xs.map encB),.int .i64 7]) (.cons (.refl _) (.cons (.of (.nil 0 2)) (.cons (.refl _) (.cons (.refl _) .nil))))
  obtain ⟨f,b,h1,h2,h3⟩:=anyR_nil hn bl [] xs 7
  obtain ⟨l,hl⟩:∃ l,anyR n [] xs 7=l:=⟨_,rfl⟩
  rw [hl] at h44 h1 h3
  have hR:n.afterR bl l=(0,f,b):=by unfold Nt.afterR;rw [if_pos he,if_neg (by omega),h1]
  have h20:=den20 n bl l hbl
  rw [hR] at h20
  have h20:DN 20 [.agg n.enc,.list 1 (bl.map encI),.list 2 (l.map Vs.enc)] (.tup [.agg [.list 1 ((tanks f).map encI),.list 1 ((tanks b).map encI)],.int .i64 0]):=h20
  have hsh:=(shutN_iff hn bl []).1 h2.shut
  have hfl:=tanks_len f
  have hbl2:=tanks_len b
  have hbi:(((tanks b).map encI).length:Int)=(tanks b).length:=by simp
  refine ⟨_,rfl,_,h44,?_⟩
  refine ⟨_,rfl,_,h20,?_⟩
  refine ⟨fun h=>absurd h (by decide),fun _=>?_⟩
  have hb7:(tanks b).length≤7:=tanksN_le b 7
  refine ⟨[1,3,6,10,12],2,[],fun σ=>∃ i:Nat,i≤(tanks b).length ∧
    σ=⟨[(1,.list 1 (bl.map encI)),(3,.loc 0 0),(6,.ff),(10,.loc 1 0),(12,.int .i64 i)],[.flat false n.enc,.flat false [.list 1 ((tanks f).map encI),.list 1 ((tanks b).map encI)]],.non⟩,
    fun σ=>(1000 - slotI 12 σ).toNat,rfl,⟨rfl,rfl⟩,⟨0,Nat.zero_le _,rfl⟩,?_⟩
  rintro σ ⟨i,hi,rfl⟩
  refine ⟨fun q1=>?_,fun q1=>?_⟩
  · have q1:=of_decide_eq_true q1
    rw [hbi] at q1
    have hi':i<(tanks b).length:=by omega
    have hmem:=tanks_mem hi'
    obtain ⟨v,hv7,hvb,hve⟩:=hmem
    have h46:=den46 (tanks f) (tanks b)[i] hfl
    have hhas:hasI (tanks f) (tanks b)[i]=true:=by
      rw [hve,hasI_tanks hv7]
      exact h2.sub v hvb
    rw [hhas] at h46
    refine Or.inl ⟨by kernel_rfl,?_⟩
    refine ⟨by omega,_,encI_get hi',?_⟩
    refine ⟨_,rfl,_,h46,?_⟩
    refine ⟨fun h=>absurd h (by decide),fun _=>?_⟩
    refine ⟨(i:Int)+1,wrap64 (by omega) (by omega),?_⟩
    refine ⟨⟨rfl,rfl⟩,⟨i+1,hi',rfl⟩,?_⟩
    show (1000 - ((i:Int)+1)).toNat<(1000 - (i:Int)).toNat
    omega
  refine ⟨[1,3,10,13],2,[],fun σ=>∃ i:Nat,i≤n.pipes.length ∧
    σ=⟨[(1,.list 1 (bl.map encI)),(3,.loc 0 0),(10,.loc 1 0),(13,.int .i64 i)],[.flat false n.enc,.flat false [.list 1 ((tanks f).map encI),.list 1 ((tanks b).map encI)]],.non⟩,
    fun σ=>(1000 - slotI 13 σ).toNat,rfl,⟨rfl,rfl⟩,⟨0,Nat.zero_le _,rfl⟩,?_⟩
  rintro σ ⟨i,hi,rfl⟩
  refine ⟨fun r1=>?_,fun r1=>?_⟩
  rotate_left
  · exact ⟨_,rfl,_,den23,rfl⟩
  have r1:=of_decide_eq_true r1
  rw [hpl] at r1
  have hi':i<n.pipes.length:=by omega
  have less:(1000 - ((i:Int)+1)).toNat<(1000 - (i:Int)).toNat:=by omega
  obtain ⟨p,hp⟩:∃ p,n.pipes[i]?=some p:=⟨_,List.getElem?_eq_getElem hi'⟩
  have hprow:(n.pipes.map Rp.enc)[((i:Int)).toNat]?=some p.enc:=by rw [Int.toNat_natCast,List.getElem?_map,hp];rfl
  have hpe:=hn.pe p (List.mem_of_getElem? hp)
  obtain ⟨u,hu⟩:∃ u:Nat,p.fr=u:=⟨p.fr.toNat,by omega⟩
  obtain ⟨v,hv⟩:∃ v:Nat,p.to=v:=⟨p.to.toNat,by omega⟩
  have hfu:=den46 (tanks f) p.fr hfl
  have hfv:=den46 (tanks f) p.to hfl
  have hbu:=den46 (tanks b) p.fr hbl2
  have hbv:=den46 (tanks b) p.to hbl2
  have eu:p.fr.toNat=u:=by omega
  have ev:p.to.toNat=v:=by omega
  have hsp:=hsh i p hp
  rw [eu,ev] at hsp
  have huF:hasI (tanks f) p.fr=f.testBit u:=by rw [hu,hasI_tanks (by omega)]
  have hvF:hasI (tanks f) p.to=f.testBit v:=by rw [hv,hasI_tanks (by omega)]
  have huB:hasI (tanks b) p.fr=b.testBit u:=by rw [hu,hasI_tanks (by omega)]
  have hvB:hasI (tanks b) p.to=b.testBit v:=by rw [hv,hasI_tanks (by omega)]
  rw [huF] at hfu
  rw [hvF] at hfv
  rw [huB] at hbu
  rw [hvB] at hbv
  refine ⟨by omega,_,hprow,?_⟩
  refine Or.inl ⟨by kernel_rfl,?_⟩
  refine ⟨_,rfl,_,den46 bl i hbl,?_⟩
  refine ⟨fun r2=>?_,fun r2=>?_⟩
  · refine ⟨(i:Int)+1,wrap64 (by omega) (by omega),?_⟩
    exact ⟨⟨rfl,rfl⟩,⟨i+1,hi',rfl⟩,less⟩
  have r2:hasI bl i=false:=r2
  obtain ⟨hs1,hs2⟩:=hsp r2
  refine ⟨_,rfl,_,hfu,?_⟩
  refine ⟨_,rfl,_,hfv,?_⟩
  refine ⟨fun r3=>?_,fun r3=>?_⟩
  · refine ⟨(i:Int)+1,wrap64 (by omega) (by omega),?_⟩
    exact ⟨⟨rfl,rfl⟩,⟨i+1,hi',rfl⟩,less⟩
  have r3:(f.testBit u==f.testBit v)=false:=r3
  refine ⟨_,rfl,_,hfv,?_⟩
  refine ⟨fun r4=>?_,fun r4=>?_⟩
  · have r4:f.testBit v=true:=r4
    have hbt:b.testBit v=true:=by
      cases hb:b.testBit v with
      | true=>rfl
      | false=>rw [hs1 r4 hb,r4] at r3;cases r3
    rw [hbt] at hbv
    refine ⟨_,rfl,_,hbv,?_⟩
    refine ⟨fun h=>absurd h (by decide),fun _=>?_⟩
    refine ⟨(i:Int)+1,wrap64 (by omega) (by omega),?_⟩
    exact ⟨⟨rfl,rfl⟩,⟨i+1,hi',rfl⟩,less⟩
  · have r4:f.testBit v=false:=r4
    have hfu':f.testBit u=true:=by
      cases h:f.testBit u with
      | true=>rfl
      | false=>rw [h,r4] at r3;cases r3
    have hbt:b.testBit u=true:=by
      cases hb:b.testBit u with
      | true=>rfl
      | false=>rw [hs2 hfu' hb] at r4;cases r4
    rw [hbt] at hbu
    refine ⟨_,rfl,_,hbu,?_⟩
    refine ⟨fun h=>absurd h (by decide),fun _=>?_⟩
    refine ⟨(i:Int)+1,wrap64 (by omega) (by omega),?_⟩
    exact ⟨⟨rfl,rfl⟩,⟨i+1,hi',rfl⟩,less⟩

end Go.Proofs.Vent
