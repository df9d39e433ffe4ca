/- VentJoined: two tanks are joined just if Joined says the same of them; with one more blank no more are joined, and no more blowers are needed. No condition. -/
import Derived.Test.YtfdflbdnjimfaaaPackSB
import Derived.Test.YtfdflbdnjimfaaaPackTG
import Derived.Test.YtfdflbdnjimfaaaPackTI
import Derived.Test.YtfdflbdnjimfaaaPackTF

namespace Go.Proofs.Vent
open Go.V Go.Proofs

theorem rowsJ_get {m:NetL} {many i:Nat} (hi:i<many):((rowsJ m many many).map encI)[((i:Nat):Int).toNat]?=some [.int .i64 (m.firstJ i)]:=by
  rw [Int.toNat_natCast]
  unfold rowsJ
  simp [hi,encI]
theorem wantZ_none {n:Nt} {bl wt:List Int} (he:n.lookE bl [] false=0) (h:n.wantZ wt=0):n.lookE bl wt true=0:=by
  have hc:=Nt.check_of he
  obtain ⟨_,hb,_⟩:=Nt.lookE_ok he
  unfold Nt.lookE
  rw [if_neg (by simpa using hc),hb]
  unfold Nt.wantZ at h
  exact h
theorem castL_snoc (l:List Nat) (i:Nat):(castL l).map encI++[[D.int .i64 i]]=(castL (l++[i])).map encI:=by simp [castL,encI]

set_option maxRecDepth 10000 in
set_option maxHeartbeats 16000000 in
theorem den12 (n:Nt) (bl wt:List Int) (k:Int) (a0 b0 c0:Nat) (hbl:bl.length<9223372036854775808) (hwl:wt.length<9223372036854775808) (ha8:a0<256) (hb8:b0<256) (hc8:c0<256) :
    DN 12 [.agg n.enc,askD bl wt k,.agg [.int .u8 a0,.int .u8 b0,.int .u8 c0]] (.bool true):=by
  have h17:=den17 n bl hbl
  have h42:=den42 n bl hbl
  refine mk Try.func12 Try.call12 rfl rfl ?_
  by_cases he:n.lookE bl [] false=0
  rotate_left
  · have r1:n.joinedR bl=([],n.lookE bl [] false):=by unfold Nt.joinedR;rw [if_neg he]
    rw [r1] at h17
    refine ⟨_,rfl,_,h17,?_⟩
    refine ⟨_,rfl,_,h42,?_⟩
    refine ⟨fun _=>?_,fun h=>?_⟩
    · refine ⟨fun _=>?_,fun h=>(xEq h).elim⟩
      refine ⟨fun _=>?_,fun h=>Bool.noConfusion (show true=false from h)⟩
      exact ⟨_,rfl,_,den23,rfl⟩
    · have h:(n.lookE bl [] false != 0)=false:=h
      exact absurd (by simpa using h) he
  have r1:n.joinedR bl=(rowsJ (n.look bl []) n.tanks.length n.tanks.length,0):=by unfold Nt.joinedR;rw [if_pos he]
  rw [r1] at h17
  have hE:=he
  rw [he] at h42
  have hn:=(Nt.lookE_ok he).1
  have hok:=Nt.look_okn he
  have h7:=hn.t7
  have h1t:=hn.t1
  have h12:=hn.p
  have htl:((n.tanks.map Tk.enc).length:Int)=n.tanks.length:=by simp
  have hpl:((n.pipes.map Rp.enc).length:Int)=n.pipes.length:=by simp
  have hJl:(((rowsJ (n.look bl []) n.tanks.length n.tanks.length).map encI).length:Int)=n.tanks.length:=by simp [rowsJ]
  have hmod:∀ x:Nat,((x:Nat):Int).tmod ((n.tanks.map Tk.enc).length:Int)=((x % n.tanks.length:Nat):Int):=fun x=>by
    rw [htl,Int.tmod_eq_emod_of_nonneg (Int.natCast_nonneg _)]
    exact (Int.natCast_emod _ _).symm
  have hmodp:∀ x:Nat,((x:Nat):Int).tmod ((n.pipes.map Rp.enc).length:Int)=((x % n.pipes.length:Nat):Int):=fun x=>by
    rw [hpl,Int.tmod_eq_emod_of_nonneg (Int.natCast_nonneg _)]
    exact (Int.natCast_emod _ _).symm
  obtain ⟨a,hax⟩:∃ a,a0 % n.tanks.length=a:=⟨_,rfl⟩
  obtain ⟨b,hbx⟩:∃ b,b0 % n.tanks.length=b:=⟨_,rfl⟩
  have ha:a<n.tanks.length:=by rw [← hax];exact Nat.mod_lt _ (by omega)
  have hb:b<n.tanks.length:=by rw [← hbx];exact Nat.mod_lt _ (by omega)
  have hma0:=hmod a0
  have hmb0:=hmod b0
  rw [hax] at hma0
  rw [hbx] at hmb0
  clear hmod
  have h47:=den47 n hn bl hbl a ha (joined_jn hn bl [] hok ha)
  have hbit:((n.look bl []).joined (2^a)).testBit b=((n.look bl []).firstJ a==(n.look bl []).firstJ b):=by
    apply Bool.eq_iff_iff.2
    rw [NetL.joined_one hok (by omega),beq_iff_eq,NetL.firstJ_iff hok (by omega) (by omega)]
  have hla:=rowsJ_get (m:=n.look bl []) ha
  have hlb:=rowsJ_get (m:=n.look bl []) hb
  have h48:=den48 n wt hwl
  have h34:=den34 n bl wt hbl hwl
  have hrT:=rowsT_get (s:=(n.look bl []).joined (2^a)) hb
  have facts:∀ B:List Int,n.lookE B [] false=0→B.length<9223372036854775808→(∀ u v,(n.look B []).adj u v→(n.look bl []).adj u v) →
      DN 17 [.agg n.enc,.list 1 (B.map encI)] (.tup [.list 1 ((rowsJ (n.look B []) n.tanks.length n.tanks.length).map encI),.int .i64 0]) ∧
      (((((rowsJ (n.look B []) n.tanks.length n.tanks.length).map encI).length:Int) != (((rowsJ (n.look bl []) n.tanks.length n.tanks.length).map encI).length:Int))=true→False) ∧
      (((n.look B []).firstJ a==(n.look B []).firstJ b)=true→((n.look bl []).firstJ a != (n.look bl []).firstJ b)=true→False)∧DN 34 [.agg n.enc,.list 1 (B.map encI),.list 1 (wt.map encI)] (tupII (n.fewN B wt)):=fun B hB hBl hadj=>by
    have h:=den17 n B hBl
    have r:n.joinedR B=(rowsJ (n.look B []) n.tanks.length n.tanks.length,0):=by unfold Nt.joinedR;rw [if_pos hB]
    rw [r] at h
    refine ⟨h,fun q=>?_,fun q1 q2=>?_,den34 n B wt hBl hwl⟩
    · simp [rowsJ] at q
    · have hokB:=Nt.look_okn hB
      rw [beq_iff_eq,NetL.firstJ_iff hokB (by omega) (by omega)] at q1
      have:=(NetL.firstJ_iff hok (by omega) (by omega)).2 (con_less hadj q1)
      rw [this] at q2
      simp at q2
  refine ⟨_,rfl,_,h17,?_⟩
  refine ⟨_,rfl,_,h42,?_⟩
  refine ⟨fun h=>Bool.noConfusion (show false=true from h),fun _=>?_⟩
  refine ⟨fun h=>Bool.noConfusion (show false=true from h),fun _=>?_⟩
  refine ⟨fun q=>?_,fun _=>?_⟩
  · have q:((((rowsJ (n.look bl []) n.tanks.length n.tanks.length).map encI).length:Int) != ((n.tanks.map Tk.enc).length:Int))=true:=q
    rw [hJl,htl] at q
    exact (xNe q).elim
  refine Or.inl ⟨by kernel_rfl,?_⟩
  refine ⟨⟨by decide,by decide⟩,(a0:Int),wrap64 (by omega) (by omega),?_⟩
  refine ⟨by omega,_,hma0,?_⟩
  refine ⟨⟨by decide,by decide⟩,(b0:Int),wrap64 (by omega) (by omega),?_⟩
  refine ⟨by omega,_,hmb0,?_⟩
  refine Or.inr (Or.inr (Or.inl ⟨[0,1,2,3,5,8,9,10,11,12,13,14,15,16,4,6,7,17],14,[4,5,6,7,8,9,10,11,12,13],by kernel_rfl,?_⟩))
  refine ⟨by omega,_,hla,?_⟩
  refine ⟨by omega,_,hlb,?_⟩
  refine ⟨_,rfl,_,h47,?_⟩
  refine ⟨⟨rfl,rfl,rfl,⟨by omega,_,hla,rfl⟩,rfl,rfl,rfl,⟨by omega,_,hlb,rfl⟩,rfl,rfl,trivial⟩,?_⟩
  refine ⟨by omega,_,hrT,?_⟩
  refine ⟨⟨rfl,rfl,⟨by omega,_,hla,rfl⟩,rfl,rfl,rfl,⟨by omega,_,hlb,rfl⟩,rfl,rfl,trivial⟩,?_⟩
  refine ⟨⟨rfl,rfl,⟨by omega,_,hla,rfl⟩,rfl,rfl,rfl,⟨by omega,_,hlb,rfl⟩,rfl,rfl,trivial⟩,?_⟩
  refine ⟨⟨rfl,rfl,⟨by omega,_,hla,rfl⟩,rfl,rfl,rfl,⟨by omega,_,hlb,rfl⟩,rfl,trivial⟩,?_⟩
  refine ⟨fun q=>?_,fun _=>?_⟩
  · have q:(((n.look bl []).joined (2^a)).testBit b != ((n.look bl []).firstJ a==(n.look bl []).firstJ b))=true:=q
    rw [hbit] at q
    exact absurd q (by simp)
  refine ⟨fun qp=>?_,fun qp=>?_⟩
  · have qp:((n.pipes.map Rp.enc).length:Int) > 0:=of_decide_eq_true qp
    rw [hpl] at qp
    obtain ⟨p,hpx⟩:∃ p,c0 % n.pipes.length=p:=⟨_,rfl⟩
    have hmp0:=hmodp c0
    rw [hpx] at hmp0
    have hpP:p<n.pipes.length:=by rw [← hpx];exact Nat.mod_lt _ (by omega)
    have hfew:n.wantZ wt=0→(n.fewN bl wt).2=0→(n.fewN (castL (moreN n bl p n.pipes.length)) wt).2=0∧(n.fewN (castL (moreN n bl p n.pipes.length)) wt).1≤(n.fewN bl wt).1:=fun hz h=>more_few (wantZ_none hE hz) h
    have hBl:=moreN_len n bl p n.pipes.length
    obtain ⟨h17m,hlen2,hmj,h34m⟩:=facts (castL (moreN n bl p n.pipes.length)) (more_ok hE p) (by rw [castL_len];omega) (fun u v h=>more_adj hn h)
    have hma:=rowsJ_get (m:=n.look (castL (moreN n bl p n.pipes.length)) []) ha
    have hmb:=rowsJ_get (m:=n.look (castL (moreN n bl p n.pipes.length)) []) hb
    clear hmodp facts
    refine ⟨⟨by decide,by decide⟩,(c0:Int),wrap64 (by omega) (by omega),?_⟩
    refine ⟨by omega,_,hmp0,?_⟩
    refine ⟨[3,4,7,10,11,12,13,14],3,[(.slot 12,1)],fun σ=>∃ (i g:Nat),i≤n.pipes.length ∧
      σ=⟨[(3,.loc 0 0),(4,.loc 1 0),(7,.list 1 ((rowsJ (n.look bl []) n.tanks.length n.tanks.length).map encI)),(10,.int .i64 a),(11,.int .i64 b),(12,.sl 3 g 0 ((castL (moreN n bl p i)).map encI).length),(13,.int .i64 p),(14,.int .i64 i)],
        [.flat false n.enc,.flat false [.list 1 (bl.map encI),.list 1 (wt.map encI),.int .i64 k],.flat false [.int .u8 a0,.int .u8 b0,.int .u8 c0],.rows false g 1 ((castL (moreN n bl p i)).map encI)],.non⟩,
      fun σ=>(1000 - slotI 14 σ).toNat,rfl,⟨rfl,rfl⟩,⟨0,0,Nat.zero_le _,rfl⟩,?_⟩
    rintro σ ⟨i,g,hi,rfl⟩
    have hle:=moreN_len n bl p i
    have hsucc:=moreN_succ n bl p i
    refine ⟨fun q1=>?_,fun q1=>?_⟩
    · have q1:=of_decide_eq_true q1
      rw [hpl] at q1
      have hi':i<n.pipes.length:=by omega
      have less:(1000 - ((i:Int)+1)).toNat<(1000 - (i:Int)).toNat:=by omega
      obtain ⟨P,hP⟩:∃ P,n.pipes[p]?=some P:=⟨_,List.getElem?_eq_getElem hpP⟩
      have hProw:(n.pipes.map Rp.enc)[((p:Nat):Int).toNat]?=some P.enc:=by rw [Int.toNat_natCast,List.getElem?_map,hP];rfl
      have hPw:n.weldB p=P.welded:=pipe_weld (by rw [Int.toNat_natCast];exact hP)
      have hcat:moreB n bl p i=true→(castL (moreN n bl p i)).map encI++[[D.int .i64 (i:Int)]]=(castL (moreN n bl p (i+1))).map encI:=fun h=>by rw [hsucc,if_pos h,castL_snoc]
      have hskip:moreB n bl p i=false→moreN n bl p (i+1)=moreN n bl p i:=fun h=>by rw [hsucc,if_neg (by rw [h];decide)]
      refine ⟨_,rfl,_,den46 bl i hbl,?_⟩
      refine ⟨fun r1=>?_,fun r1=>?_⟩
      · have r1:hasI bl i=true:=r1
        have hc:=hcat (by unfold moreB;rw [r1];rfl)
        refine ⟨trivial,iff' (by rw [beq_self];rfl) ⟨Nat.le_of_eq (Nat.zero_add _),?_,_,old_all rfl,_,hc,trivial,?_⟩⟩
        · rw [List.length_map,castL_len];show (_+1)*8≤mostBytes;unfold mostBytes;omega
        refine ⟨(i:Int)+1,wrap64 (by omega) (by omega),?_⟩
        exact ⟨⟨rfl,rfl⟩,⟨i+1,g+1,hi',rfl⟩,less⟩
      have r1:hasI bl i=false:=r1
      refine ⟨fun r2=>?_,fun r2=>?_⟩
      rotate_left
      · have r2:((i:Int)==(p:Int))=false:=r2
        have hs:=hskip (by unfold moreB;rw [r1,decide_eq_false (by simp at r2;omega)];rfl)
        refine ⟨(i:Int)+1,wrap64 (by omega) (by omega),?_⟩
        exact ⟨⟨rfl,rfl⟩,⟨i+1,g,hi',by rw [hs];rfl⟩,less⟩
      have r2:((i:Int)==(p:Int))=true:=r2
      obtain rfl:i=p:=by simp at r2;omega
      refine ⟨by omega,_,hProw,?_⟩
      refine ⟨fun r3=>?_,fun r3=>?_⟩
      · have r3:(!P.welded)=true:=r3
        have hc:=hcat (by unfold moreB;rw [hPw,r3];simp)
        refine ⟨trivial,iff' (by rw [beq_self];rfl) ⟨Nat.le_of_eq (Nat.zero_add _),?_,_,old_all rfl,_,hc,trivial,?_⟩⟩
        · rw [List.length_map,castL_len];show (_+1)*8≤mostBytes;unfold mostBytes;omega
        refine ⟨(i:Int)+1,wrap64 (by omega) (by omega),?_⟩
        exact ⟨⟨rfl,rfl⟩,⟨i+1,g+1,hi',rfl⟩,less⟩
      · have r3:(!P.welded)=false:=r3
        have hs:=hskip (by unfold moreB;rw [r1,hPw,r3];simp)
        refine ⟨(i:Int)+1,wrap64 (by omega) (by omega),?_⟩
        exact ⟨⟨rfl,rfl⟩,⟨i+1,g,hi',by rw [hs];rfl⟩,less⟩
    · have q1:=of_decide_eq_false q1
      rw [hpl] at q1
      obtain rfl:i=n.pipes.length:=by omega
      refine ⟨_,mapO_cons rfl (mapO_cons (reify_sl rfl rfl) rfl),_,h17m,?_⟩
      refine Or.inl ⟨by kernel_rfl,?_⟩
      refine ⟨fun h=>Bool.noConfusion (show false=true from h),fun _=>?_⟩
      refine ⟨fun q=>?_,fun _=>?_⟩
      · exact (hlen2 q).elim
      refine ⟨by omega,_,hma,?_⟩
      refine ⟨by omega,_,hmb,?_⟩
      refine ⟨fun q=>?_,fun q=>?_⟩
      · have q:((n.look (castL (moreN n bl p n.pipes.length)) []).firstJ a==(n.look (castL (moreN n bl p n.pipes.length)) []).firstJ b)=true:=q
        refine ⟨by omega,_,hla,?_⟩
        refine ⟨by omega,_,hlb,?_⟩
        refine ⟨fun q2=>?_,fun _=>?_⟩
        · have q2:((n.look bl []).firstJ a != (n.look bl []).firstJ b)=true:=q2
          exact (hmj q q2).elim
        refine ⟨_,rfl,_,h48,?_⟩
        refine ⟨fun q3=>?_,fun q3=>?_⟩
        · exact ⟨_,rfl,_,den23,rfl⟩
        have q3:(n.wantZ wt != 0)=false:=q3
        have hfew:=hfew (by simpa using q3)
        refine ⟨_,rfl,_,h34,?_⟩
        refine ⟨_,mapO_cons rfl (mapO_cons (reify_sl rfl rfl) (mapO_cons rfl rfl)),_,h34m,?_⟩
        refine ⟨fun q4=>?_,fun q4=>?_⟩
        · exact ⟨_,rfl,_,den23,rfl⟩
        have q4:((n.fewN bl wt).2 != 0)=false:=q4
        obtain ⟨e1,e2⟩:=hfew (by simpa using q4)
        refine ⟨fun _=>?_,fun q5=>?_⟩
        · refine ⟨fun _=>?_,fun q6=>?_⟩
          · exact ⟨_,rfl,_,den23,rfl⟩
          · exact absurd e2 (of_decide_eq_false q6)
        · have q5:((n.fewN (castL (moreN n bl p n.pipes.length)) wt).2==0)=false:=q5
          rw [e1] at q5;cases q5
      · have q:((n.look (castL (moreN n bl p n.pipes.length)) []).firstJ a==(n.look (castL (moreN n bl p n.pipes.length)) []).firstJ b)=false:=q
        refine ⟨_,rfl,_,h48,?_⟩
        refine ⟨fun q3=>?_,fun q3=>?_⟩
        · exact ⟨_,rfl,_,den23,rfl⟩
        have q3:(n.wantZ wt != 0)=false:=q3
        have hfew:=hfew (by simpa using q3)
        refine ⟨_,rfl,_,h34,?_⟩
        refine ⟨_,mapO_cons rfl (mapO_cons (reify_sl rfl rfl) (mapO_cons rfl rfl)),_,h34m,?_⟩
        refine ⟨fun q4=>?_,fun q4=>?_⟩
        · exact ⟨_,rfl,_,den23,rfl⟩
        have q4:((n.fewN bl wt).2 != 0)=false:=q4
        obtain ⟨e1,e2⟩:=hfew (by simpa using q4)
        refine ⟨fun _=>?_,fun q5=>?_⟩
        · refine ⟨fun _=>?_,fun q6=>?_⟩
          · exact ⟨_,rfl,_,den23,rfl⟩
          · exact absurd e2 (of_decide_eq_false q6)
        · have q5:((n.fewN (castL (moreN n bl p n.pipes.length)) wt).2==0)=false:=q5
          rw [e1] at q5;cases q5
  · have qp:¬ ((n.pipes.map Rp.enc).length:Int) > 0:=of_decide_eq_false qp
    rw [hpl] at qp
    have hP0:n.pipes.length=0:=by omega
    have hB0:castL (moreN n bl 0 n.pipes.length)=[]:=by rw [hP0];rfl
    have hfew:n.wantZ wt=0→(n.fewN bl wt).2=0→(n.fewN [] wt).2=0∧(n.fewN [] wt).1≤(n.fewN bl wt).1:=fun hz h=>by
      have:=more_few (wantZ_none hE hz) (p:=0) h
      rwa [hB0] at this
    have hok0:=more_ok hE 0
    rw [hB0] at hok0
    obtain ⟨h17m,hlen2,hmj,h34m⟩:=facts [] hok0 (by decide) (fun u v h=>by rw [← hB0] at h;exact more_adj hn h)
    have h17m:=h17m.wkargs (args:=[.agg n.enc,.list 0 []]) (.cons (.refl _) (.cons (.of (.nil 0 1)) .nil))
    have h34m:=h34m.wkargs (args:=[.agg n.enc,.list 0 [],.list 1 (wt.map encI)]) (.cons (.refl _) (.cons (.of (.nil 0 1)) (.cons (.refl _) .nil)))
    have hma:=rowsJ_get (m:=n.look [] []) ha
    have hmb:=rowsJ_get (m:=n.look [] []) hb
    refine ⟨_,rfl,_,h17m,?_⟩
    refine Or.inl ⟨by kernel_rfl,?_⟩
    refine ⟨fun h=>Bool.noConfusion (show false=true from h),fun _=>?_⟩
    refine ⟨fun q=>?_,fun _=>?_⟩
    · exact (hlen2 q).elim
    refine ⟨by omega,_,hma,?_⟩
    refine ⟨by omega,_,hmb,?_⟩
    refine ⟨fun q=>?_,fun q=>?_⟩
    · have q:((n.look [] []).firstJ a==(n.look [] []).firstJ b)=true:=q
      refine ⟨by omega,_,hla,?_⟩
      refine ⟨by omega,_,hlb,?_⟩
      refine ⟨fun q2=>?_,fun _=>?_⟩
      · have q2:((n.look bl []).firstJ a != (n.look bl []).firstJ b)=true:=q2
        exact (hmj q q2).elim
      refine ⟨_,rfl,_,h48,?_⟩
      refine ⟨fun q3=>?_,fun q3=>?_⟩
      · exact ⟨_,rfl,_,den23,rfl⟩
      have q3:(n.wantZ wt != 0)=false:=q3
      have hfew:=hfew (by simpa using q3)
      refine ⟨_,rfl,_,h34,?_⟩
      refine ⟨_,rfl,_,h34m,?_⟩
      refine ⟨fun q4=>?_,fun q4=>?_⟩
      · exact ⟨_,rfl,_,den23,rfl⟩
      have q4:((n.fewN bl wt).2 != 0)=false:=q4
      obtain ⟨e1,e2⟩:=hfew (by simpa using q4)
      refine ⟨fun _=>?_,fun q5=>?_⟩
      · refine ⟨fun _=>?_,fun q6=>?_⟩
        · exact ⟨_,rfl,_,den23,rfl⟩
        · exact absurd e2 (of_decide_eq_false q6)
      · have q5:((n.fewN [] wt).2==0)=false:=q5
        rw [e1] at q5;cases q5
    · have q:((n.look [] []).firstJ a==(n.look [] []).firstJ b)=false:=q
      refine ⟨_,rfl,_,h48,?_⟩
      refine ⟨fun q3=>?_,fun q3=>?_⟩
      · exact ⟨_,rfl,_,den23,rfl⟩
      have q3:(n.wantZ wt != 0)=false:=q3
      have hfew:=hfew (by simpa using q3)
      refine ⟨_,rfl,_,h34,?_⟩
      refine ⟨_,rfl,_,h34m,?_⟩
      refine ⟨fun q4=>?_,fun q4=>?_⟩
      · exact ⟨_,rfl,_,den23,rfl⟩
      have q4:((n.fewN bl wt).2 != 0)=false:=q4
      obtain ⟨e1,e2⟩:=hfew (by simpa using q4)
      refine ⟨fun _=>?_,fun q5=>?_⟩
      · refine ⟨fun _=>?_,fun q6=>?_⟩
        · exact ⟨_,rfl,_,den23,rfl⟩
        · exact absurd e2 (of_decide_eq_false q6)
      · have q5:((n.fewN [] wt).2==0)=false:=q5
        rw [e1] at q5;cases q5

end Go.Proofs.Vent
