/- VentTurned: pipes turned round, and tanks and pipes in another order. No condition. -/
import Derived.Test.YtfdflbdnjimfaaaPackSM
import Derived.Test.YtfdflbdnjimfaaaPackSB
import Derived.Test.YtfdflbdnjimfaaaPackTG
import Derived.Test.YtfdflbdnjimfaaaPackTC
import Derived.Test.YtfdflbdnjimfaaaPackTF
import Derived.Test.YtfdflbdnjimfaaaPackSC
import Derived.Test.YtfdflbdnjimfaaaPackSK
import Derived.Test.YtfdflbdnjimfaaaPackSL

namespace Go.Proofs.Vent
open Go.V Go.Proofs

theorem reify_agg2 {bs:List Box} {n:Nat} {ds es:List D} (h:mapO (reify bs n) ds=some es):reify bs (n+1) (.agg ds)=some (.agg es):=by simp only [reify,h]
theorem wtArr {P:Program} {n k:Nat} {t e:TypeId} {ds:List D} (hu:P.underlying t=some (.array k e)) (h:WT P (n+1) t ds):WTA (WT P n e) (P.cellsOf e) k ds:=by
 unfold WT at h;rw [hu] at h;exact h
theorem waArr {P:Program} {n k:Nat} {t e:TypeId} {d:D} (hu:P.underlying t=some (.array k e)) (h:WA P n t d):∃ ds,d=.agg ds∧WT P n t ds:=by
 unfold WA at h;rw [hu] at h;exact h
set_option maxRecDepth 100000 in
theorem x2of {n:Nat} {d:D} (h:WA Try.prog (n+5) 82 d):∃ a b:Nat,d=.agg [.int .u8 a,.int .u8 b]∧a<256∧b<256:=by
 obtain ⟨ds,rfl,g⟩:=waArr Try.underlying82 h
 obtain ⟨a,r,rfl,_,ha,c,r2,rfl,_,hc,rfl⟩:=wtArr Try.underlying82 g
 obtain ⟨x,rfl,h1⟩:=wt_int Try.underlying5 ha
 obtain ⟨y,rfl,h2⟩:=wt_int Try.underlying5 hc
 obtain ⟨x,rfl,k1⟩:=u8_of h1
 obtain ⟨y,rfl,k2⟩:=u8_of h2
 exact ⟨x,y,rfl,k1,k2⟩

theorem planN_len2 (n:Nt) (bl wt:List Int) (k:Int):(n.planN bl wt k).1.length<9223372036854775808:=by
 have h0:(0:Nat)<9223372036854775808:=by decide
 by_cases he:n.lookE bl wt true=0
 ·by_cases hk:k<1∨k > 7
  ·unfold Nt.planN;rw [if_pos he,if_pos hk];exact h0
  ·rw [planN_of he (by omega) (by omega)]
   obtain ⟨hn,_,hw⟩:=Nt.lookE_ok he
   have hok:=Nt.look_ok hn bl (Nt.wantedE_in (hw rfl))
   cases hp:(n.look bl wt).plan k with
   | none=>exact h0
   | some l =>
    obtain ⟨_,hR⟩:=plan_reach hok k
    rw [hp] at hR
    obtain ⟨i,e,_,_,_,hl⟩:=hR
    have key:∀ (K:List En) (q f b:Nat),(pathF K q f b).length≤q:=by
     intro K q
     induction q with
     | zero=>intro f b;exact Nat.le_refl _
     | succ q ih =>
      intro f b
      unfold pathF
      split
      ·exact Nat.zero_le _
      ·split
       ·exact Nat.zero_le _
       ·split
        ·exact Nat.zero_le _
        ·rename_i e he
         rw [List.length_cons];have:=ih e.pf e.pb;omega
    show l.length<_
    rw [hl,List.length_reverse]
    have:=key ((n.look bl wt).reach k) 20000 e.f e.b
    omega
 ·unfold Nt.planN;rw [if_neg he];exact h0

set_option maxRecDepth 10000 in
set_option maxHeartbeats 64000000 in
theorem den14 (n:Nt) (bl wt:List Int) (k:Int) (a0 b0:Nat) (hbl:bl.length<9223372036854775808) (hwl:wt.length<9223372036854775808) (ha8:a0<256) (hb8:b0<256) :
    DN 14 [.agg n.enc,askD bl wt k,.agg [.int .u8 a0,.int .u8 b0]] (.bool true):=by
  have h26:=den26 n wt hwl
  have h39:=(den39 n [] wt (by decide) hwl).wkargs (args:=[.agg n.enc,.list 0 [],.list 1 (wt.map encI)]) (.cons (.refl _) (.cons (.of (.nil 0 1)) (.cons (.refl _) .nil)))
  have h42:=den42 n bl hbl
  refine mk Try.func14 Try.call14 rfl rfl ?_
  by_cases he:n.lookE [] wt true=0
  rotate_left
  ·have r1:n.blanksR wt=([],n.lookE [] wt true):=by unfold Nt.blanksR;rw [if_neg he]
   rw [r1] at h26
   refine ⟨_,rfl,_,h26,?_⟩
   refine ⟨_,rfl,_,h39,?_⟩
   refine ⟨fun _=>?_,fun h=>?_⟩
   ·refine ⟨fun _=>?_,fun h=>(xEq h).elim⟩
    refine ⟨fun _=>?_,fun h=>Bool.noConfusion (show true=false from h)⟩
    exact ⟨_,rfl,_,den23,rfl⟩
   ·have h:(n.lookE [] wt true != 0)=false:=h
    exact absurd (by simpa using h) he
  rw [he] at h39
  have hE9:(n.blanksR wt).2=0∨(n.blanksR wt).2=9:=by
   unfold Nt.blanksR
   rw [if_pos he]
   cases (n.look [] wt).cut with
   | none=>exact .inr rfl
   | some l=>exact .inl rfl
  have hl1:=blanksR_len n wt
  obtain ⟨⟨L1,E1⟩,hL1⟩:∃ y,n.blanksR wt=y:=⟨_,rfl⟩
  rw [hL1] at h26 hE9 hl1
  have hE9:E1=0∨E1=9:=hE9
  by_cases hb0:n.lookE bl [] false=0
  rotate_left
  ·refine ⟨_,rfl,_,h26,?_⟩
   refine ⟨_,rfl,_,h39,?_⟩
   refine ⟨fun h=>Bool.noConfusion (show false=true from h),fun _=>?_⟩
   refine ⟨_,rfl,_,h42,?_⟩
   refine ⟨fun _=>?_,fun h=>?_⟩
   ·refine ⟨fun _=>?_,fun h=>?_⟩
    ·exact ⟨_,rfl,_,den23,rfl⟩
    ·have h:(E1==0)=false:=h
     have h9:E1=9:=hE9.resolve_left (by simpa using h)
     refine ⟨fun _=>?_,fun h2=>?_⟩
     ·exact ⟨_,rfl,_,den23,rfl⟩
     ·have h2:(E1==9)=false:=h2
      rw [h9] at h2;cases h2
   ·have h:(n.lookE bl [] false != 0)=false:=h
    exact absurd (by simpa using h) hb0
  rw [hb0] at h42
  obtain ⟨hn,_,hw⟩:=Nt.lookE_ok he
  have hw:=hw rfl
  have he2:n.lookE bl wt true=0:=by
   have hc:=Nt.check_of he
   have h3:=(Nt.lookE_ok hb0).2.1
   unfold Nt.lookE
   rw [if_neg (by simpa using hc),h3,hw]
  have h7:=hn.t7
  have h1t:=hn.t1
  have h12:=hn.p
  have htl:((n.tanks.map Tk.enc).length:Int)=n.tanks.length:=by simp
  have hpl:((n.pipes.map Rp.enc).length:Int)=n.pipes.length:=by simp
  have h31:=den31 n bl wt 3 hbl hwl
  have hl3:=planN_len2 n bl wt 3
  have h34:=den34 n bl wt hbl hwl
  obtain ⟨bk,hbk⟩:∃ bk:Nat→List (List D),bk=fun i=>((n.pipes.take i).map backP).map Rp.enc:=⟨_,rfl⟩
  have hbkP:bk n.pipes.length=(n.pipes.map backP).map Rp.enc:=by rw [hbk];simp
  have hbks:∀ i p,n.pipes[i]?=some p→bk i++[[D.int .i64 p.to,.int .i64 p.fr,.bool p.welded]]=bk (i+1):=fun i p hp=>by
   have hi:=(List.getElem?_eq_some_iff.1 hp).1
   rw [hbk]
   simp only
   rw [List.take_succ_eq_append_getElem hi,List.map_append,List.map_append]
   rw [(List.getElem?_eq_some_iff.1 hp).2]
   rfl
  have hbkl:∀ i,(bk i).length≤i:=fun i=>by rw [hbk];simp;omega
  have hbk0:bk 0=[]:=by rw [hbk];rfl
  have h26b:DN 26 [.agg [.list 2 (n.tanks.map Tk.enc),.list 3 (bk n.pipes.length)],.list 1 (wt.map encI)] (tupLI (n.blanksR wt)):=by
   rw [hbkP,← (back_blanks he).2]
   exact den26 (backN n) wt hwl
  have h31b:DN 31 [.agg [.list 2 (n.tanks.map Tk.enc),.list 3 (bk n.pipes.length)],.list 1 (bl.map encI),.list 1 (wt.map encI),.int .i64 3] (tupVI (n.planN bl wt 3)):=by
   rw [hbkP,← back_plan he2 3]
   exact den31 (backN n) bl wt 3 hbl hwl
  rw [hL1] at h26b
  clear hbkP hbk
  obtain ⟨⟨V1,E3⟩,hV1⟩:∃ y,n.planN bl wt 3=y:=⟨_,rfl⟩
  rw [hV1] at h31 h31b hl3
  obtain ⟨⟨c,E4⟩,hc4⟩:∃ y,n.fewN bl wt=y:=⟨_,rfl⟩
  have h19:=den19 L1 L1 hl1
  rw [eqInts_self] at h19
  have h33:=den33 V1 V1 hl3
  rw [eqVs_eq.2 rfl] at h33
  obtain ⟨t,htx⟩:∃ t,a0 % n.tanks.length=t:=⟨_,rfl⟩
  have ht:t<n.tanks.length:=by rw [← htx];exact Nat.mod_lt _ (by omega)
  have hma0:((a0:Nat):Int).tmod ((n.tanks.map Tk.enc).length:Int)=((t:Nat):Int):=by
   rw [htl,Int.tmod_eq_emod_of_nonneg (Int.natCast_nonneg _),← htx]
   exact (Int.natCast_emod _ _).symm
  refine ⟨_,rfl,_,h26,?_⟩
  refine ⟨_,rfl,_,h39,?_⟩
  refine ⟨fun h=>Bool.noConfusion (show false=true from h),fun _=>?_⟩
  refine ⟨_,rfl,_,h42,?_⟩
  refine ⟨fun h=>Bool.noConfusion (show false=true from h),fun _=>?_⟩
  refine ⟨[3,4,5,7,8,10,11],4,[(.cell 3 1,3)],fun σ=>∃ (i g1:Nat),i≤n.pipes.length ∧
   σ=⟨[(3,.loc 0 0),(4,.loc 1 0),(5,.loc 2 0),(7,.list 1 (L1.map encI)),(8,.int .i64 E1),(10,.loc 3 0),(11,.int .i64 (i:Int))],
    [.flat false n.enc,.flat false [.list 1 (bl.map encI),.list 1 (wt.map encI),.int .i64 k],.flat false [.int .u8 a0,.int .u8 b0],.flat false [.list 2 (n.tanks.map Tk.enc),.sl 4 g1 0 (bk i).length],.rows false g1 3 (bk i)],.non⟩,
   fun σ=>(1000 - slotI 11 σ).toNat,rfl,⟨rfl,rfl⟩,⟨0,0,Nat.zero_le _,by rw [hbk0];rfl⟩,?_⟩
  rintro σ ⟨i,g1,hi,rfl⟩
  have less:(1000 - ((i:Int)+1)).toNat<(1000 - (i:Int)).toNat:=by omega
  refine ⟨fun q0=>?_,fun q0=>?_⟩
  ·have q0:=of_decide_eq_true q0
   rw [hpl] at q0
   have hi':i<n.pipes.length:=by omega
   obtain ⟨p,hp⟩:∃ p,n.pipes[i]?=some p:=⟨_,List.getElem?_eq_getElem hi'⟩
   have hprow:(n.pipes.map Rp.enc)[((i:Int)).toNat]?=some p.enc:=by rw [Int.toNat_natCast,List.getElem?_map,hp];rfl
   have hll:=hbkl i
   refine ⟨by omega,_,hprow,?_⟩
   refine ⟨trivial,iff' (by rw [beq_self];rfl) ⟨Nat.le_of_eq (Nat.zero_add _),?_,_,old_all rfl,_,hbks i p hp,trivial,?_⟩⟩
   ·show (_+1)*24≤mostBytes;unfold mostBytes;omega
   refine ⟨(i:Int)+1,wrap64 (by omega) (by omega),?_⟩
   exact ⟨⟨rfl,rfl⟩,⟨i+1,g1+1,hi',rfl⟩,less⟩
  have q0:=of_decide_eq_false q0
  rw [hpl] at q0
  obtain rfl:i=n.pipes.length:=by omega
  clear less
  refine ⟨_,mapO_cons (reify_agg2 (mapO_cons rfl (mapO_cons (reify_sl rfl rfl) rfl))) (mapO_cons rfl rfl),_,h26b,?_⟩
  refine ⟨_,rfl,_,h31,?_⟩
  refine ⟨_,mapO_cons (reify_agg2 (mapO_cons rfl (mapO_cons (reify_sl rfl rfl) rfl))) (mapO_cons rfl (mapO_cons rfl (mapO_cons rfl rfl))),_,h31b,?_⟩
  refine ⟨_,rfl,_,h19,?_⟩
  refine ⟨fun h=>Bool.noConfusion (show false=true from h),fun _=>?_⟩
  refine ⟨fun q=>(xNe q).elim,fun _=>?_⟩
  refine ⟨_,rfl,_,h33,?_⟩
  refine ⟨fun h=>Bool.noConfusion (show false=true from h),fun _=>?_⟩
  refine ⟨fun q=>(xNe q).elim,fun _=>?_⟩
  refine Or.inl ⟨by kernel_rfl,?_⟩
  refine ⟨⟨by decide,by decide⟩,(a0:Int),wrap64 (by omega) (by omega),?_⟩
  refine ⟨by omega,_,hma0,?_⟩
  refine ⟨fun qp=>?_,fun qp=>?_⟩
  ·have qp:((n.pipes.map Rp.enc).length:Int) > 0:=of_decide_eq_true qp
   rw [hpl] at qp
   obtain ⟨q,hqx⟩:∃ q,b0 % n.pipes.length=q:=⟨_,rfl⟩
   have hq:q<n.pipes.length:=by rw [← hqx];exact Nat.mod_lt _ (by omega)
   have hmb0:((b0:Nat):Int).tmod ((n.pipes.map Rp.enc).length:Int)=((q:Nat):Int):=by
    rw [hpl,Int.tmod_eq_emod_of_nonneg (Int.natCast_nonneg _),← hqx]
    exact (Int.natCast_emod _ _).symm
   refine ⟨⟨by decide,by decide⟩,(b0:Int),wrap64 (by omega) (by omega),?_⟩
   refine ⟨by omega,_,hmb0,?_⟩
   have hql:∀ {i},i<n.pipes.length→q<n.pipes.length:=fun {i} h=>hq
   have hqP:q<n.pipes.length∨n.pipes.length=0:=by
    rcases Nat.eq_zero_or_pos n.pipes.length with h | h
    ·exact .inr h
    ·exact .inl (hql h)
   have hfew:=rot_few he2 (t:=t) (q:=q) ht hqP
   have hbls:=rot_blanks he (t:=t) (q:=q) ht hqP
   have h26r:=den26 (rotN n t q) (castL (rotL wt n.tanks.length t n.tanks.length)) (by rw [castL_len];have:=rotL_len wt n.tanks.length t n.tanks.length;omega)
   have h34r:=den34 (rotN n t q) (castL (rotL bl n.pipes.length q n.pipes.length)) (castL (rotL wt n.tanks.length t n.tanks.length)) (by rw [castL_len];have:=rotL_len bl n.pipes.length q n.pipes.length;omega) (by rw [castL_len];have:=rotL_len wt n.tanks.length t n.tanks.length;omega)
   rw [hfew] at h34r
   obtain ⟨⟨L2,E2⟩,hL2⟩:∃ y,(rotN n t q).blanksR (castL (rotL wt n.tanks.length t n.tanks.length))=y:=⟨_,rfl⟩
   rw [hL2] at h26r hbls
   rw [hL1] at hbls
   obtain ⟨hb1,hb2⟩:=hbls
   have hb2:E1=E2:=hb2.symm
   have hb1:L2.length=L1.length:=hb1
   subst hb2
   clear hfew
   refine ⟨[3,4,7,8,19,20,21,22,23,24],6,[(.cell 5 0,2)],fun σ=>∃ (i g:Nat),i≤n.tanks.length ∧
    σ=⟨[(3,.loc 0 0),(4,.loc 1 0),(7,.list 1 (L1.map encI)),(8,.int .i64 E1),(19,.loc 5 0),(20,.int .i64 ((n.tanks.map Tk.enc).length:Int)),(21,.int .i64 ((n.pipes.map Rp.enc).length:Int)),(22,.int .i64 (t:Int)),(23,.int .i64 ((q:Nat):Int)),(24,.int .i64 (i:Int))],
     [.flat false n.enc,.flat false [.list 1 (bl.map encI),.list 1 (wt.map encI),.int .i64 k],.flat false [.int .u8 a0,.int .u8 b0],.flat false [.list 2 (n.tanks.map Tk.enc),.sl 4 g1 0 (bk n.pipes.length).length],.rows true g1 3 (bk n.pipes.length),.flat false [.sl 6 g 0 ((rotT n t i).map Tk.enc).length,.nils],.rows false g 2 ((rotT n t i).map Tk.enc)],.non⟩,
    fun σ=>(1000 - slotI 24 σ).toNat,rfl,⟨rfl,rfl⟩,⟨0,0,Nat.zero_le _,rfl⟩,?_⟩
   rintro σ ⟨i,g,hi,rfl⟩
   have less:(1000 - ((i:Int)+1)).toNat<(1000 - (i:Int)).toNat:=by omega
   refine ⟨fun q1=>?_,fun q1=>?_⟩
   ·have q1:=of_decide_eq_true q1
    rw [htl] at q1
    have hi':i<n.tanks.length:=by omega
    obtain ⟨x,hx⟩:∃ x,n.tanks[(i+n.tanks.length - t) % n.tanks.length]?=some x:=⟨_,List.getElem?_eq_getElem (rot_law ht hi').2.1⟩
    have hxrow:(n.tanks.map Tk.enc)[(((i+n.tanks.length - t) % n.tanks.length:Nat):Int).toNat]?=some x.enc:=by rw [Int.toNat_natCast,List.getElem?_map,hx];rfl
    have hmod:((i:Int)+((n.tanks.map Tk.enc).length:Int) - (t:Int)).tmod ((n.tanks.map Tk.enc).length:Int)=(((i+n.tanks.length - t) % n.tanks.length:Nat):Int):=by
     rw [htl,show (i:Int)+(n.tanks.length:Int) - (t:Int)=((i+n.tanks.length - t:Nat):Int) by omega,Int.tmod_eq_emod_of_nonneg (Int.natCast_nonneg _)]
     exact (Int.natCast_emod _ _).symm
    have hcat:(rotT n t i).map Tk.enc++[x.enc]=(rotT n t (i+1)).map Tk.enc:=by
     unfold rotT
     rw [List.range_succ,List.map_append,List.map_append]
     simp only [List.map_cons,List.map_nil]
     rw [List.getD_eq_getElem?_getD,hx];rfl
    have hml:=(rot_law ht hi').2.1
    have hrl:=rotT_len n t i
    refine Or.inr (Or.inl ⟨14,[],by kernel_rfl,?_⟩)
    refine ⟨(i:Int)+((n.tanks.map Tk.enc).length:Int),wrap64 (by omega) (by omega),?_⟩
    refine ⟨(i:Int)+((n.tanks.map Tk.enc).length:Int) - (t:Int),wrap64 (by omega) (by omega),?_⟩
    refine ⟨by omega,_,hmod,?_⟩
    refine ⟨by omega,_,hxrow,?_⟩
    refine ⟨trivial,iff' (by rw [beq_self];rfl) ⟨Nat.le_of_eq (Nat.zero_add _),?_,_,old_all rfl,_,hcat,trivial,?_⟩⟩
    ·rw [List.length_map,hrl];show (_+1)*24≤mostBytes;unfold mostBytes;omega
    refine ⟨trivial,?_⟩
    refine ⟨trivial,?_⟩
    refine ⟨trivial,?_⟩
    refine ⟨(i:Int)+1,wrap64 (by omega) (by omega),?_⟩
    exact ⟨⟨rfl,rfl⟩,⟨i+1,g+1,hi',rfl⟩,less⟩
   have q1:=of_decide_eq_false q1
   rw [htl] at q1
   obtain rfl:i=n.tanks.length:=by omega
   clear less
   refine ⟨[3,4,7,8,19,20,21,22,23,25,26,27],7,[(.cell 5 1,3),(.slot 25,1)],fun σ=>∃ (i g2 g3:Nat),i≤n.pipes.length ∧
    σ=⟨[(3,.loc 0 0),(4,.loc 1 0),(7,.list 1 (L1.map encI)),(8,.int .i64 E1),(19,.loc 5 0),(20,.int .i64 ((n.tanks.map Tk.enc).length:Int)),(21,.int .i64 ((n.pipes.map Rp.enc).length:Int)),(22,.int .i64 (t:Int)),(23,.int .i64 ((q:Nat):Int)),(25,.sl 8 g3 0 ((castL (rotL bl n.pipes.length q i)).map encI).length),(26,.nils),(27,.int .i64 (i:Int))],
     [.flat false n.enc,.flat false [.list 1 (bl.map encI),.list 1 (wt.map encI),.int .i64 k],.flat false [.int .u8 a0,.int .u8 b0],.flat false [.list 2 (n.tanks.map Tk.enc),.sl 4 g1 0 (bk n.pipes.length).length],.rows true g1 3 (bk n.pipes.length),.flat false [.sl 6 g 0 ((rotT n t n.tanks.length).map Tk.enc).length,.sl 7 g2 0 ((rotP n t q i).map Rp.enc).length],.rows false g 2 ((rotT n t n.tanks.length).map Tk.enc),.rows false g2 3 ((rotP n t q i).map Rp.enc),.rows false g3 1 ((castL (rotL bl n.pipes.length q i)).map encI)],.non⟩,
    fun σ=>(1000 - slotI 27 σ).toNat,rfl,⟨rfl,rfl⟩,⟨0,0,0,Nat.zero_le _,rfl⟩,?_⟩
   rintro σ ⟨i,g2,g3,hi,rfl⟩
   have less:(1000 - ((i:Int)+1)).toNat<(1000 - (i:Int)).toNat:=by omega
   refine ⟨fun q2=>?_,fun q2=>?_⟩
   ·have q2:=of_decide_eq_true q2
    rw [hpl] at q2
    have hi':i<n.pipes.length:=by omega
    have hql':=hql hi'
    obtain ⟨old,hold⟩:∃ j,(i+n.pipes.length - q) % n.pipes.length=j:=⟨_,rfl⟩
    have holt:old<n.pipes.length:=by rw [← hold];exact (rot_law hql' hi').2.1
    obtain ⟨r,hr⟩:∃ r,n.pipes[old]?=some r:=⟨_,List.getElem?_eq_getElem holt⟩
    have hrrow:(n.pipes.map Rp.enc)[((old:Nat):Int).toNat]?=some r.enc:=by rw [Int.toNat_natCast,List.getElem?_map,hr];rfl
    have hre:=hn.pe r (List.mem_of_getElem? hr)
    have hmod:((i:Int)+((n.pipes.map Rp.enc).length:Int) - ((q:Nat):Int)).tmod ((n.pipes.map Rp.enc).length:Int)=((old:Nat):Int):=by
     rw [hpl,← hold,show (i:Int)+(n.pipes.length:Int) - ((q:Nat):Int)=((i+n.pipes.length - q:Nat):Int) by omega,Int.tmod_eq_emod_of_nonneg (Int.natCast_nonneg _)]
     exact (Int.natCast_emod _ _).symm
    obtain ⟨fr2,hfr2⟩:∃ v,(r.fr+(t:Int)).tmod ((n.tanks.map Tk.enc).length:Int)=v:=⟨_,rfl⟩
    obtain ⟨to2,hto2⟩:∃ v,(r.to+(t:Int)).tmod ((n.tanks.map Tk.enc).length:Int)=v:=⟨_,rfl⟩
    have hcat:(rotP n t q i).map Rp.enc++[[D.int .i64 fr2,D.int .i64 to2,D.bool r.welded]]=(rotP n t q (i+1)).map Rp.enc:=by
     unfold rotP
     rw [List.range_succ,List.map_append,List.map_append]
     simp only [List.map_cons,List.map_nil]
     rw [List.getD_eq_getElem?_getD,hold,hr]
     show _=_++[[D.int .i64 ((r.fr+(t:Int)).tmod n.tanks.length),D.int .i64 ((r.to+(t:Int)).tmod n.tanks.length),D.bool r.welded]]
     rw [← hfr2,← hto2,htl]
    have hrl:=rotP_len n t q i
    have hll:=rotL_len bl n.pipes.length q i
    have hsucc:rotL bl n.pipes.length q (i+1)=if hasI bl ((old:Nat):Int)=true then rotL bl n.pipes.length q i++[i] else rotL bl n.pipes.length q i:=by
     unfold rotL
     rw [List.range_succ,List.filter_append,List.filter_cons,hold,List.filter_nil]
     cases hasI bl ((old:Nat):Int) <;> simp
    refine ⟨(i:Int)+((n.pipes.map Rp.enc).length:Int),wrap64 (by omega) (by omega),?_⟩
    refine ⟨(i:Int)+((n.pipes.map Rp.enc).length:Int) - ((q:Nat):Int),wrap64 (by omega) (by omega),?_⟩
    refine ⟨by omega,_,hmod,?_⟩
    refine ⟨by omega,_,hrrow,?_⟩
    refine Or.inr (Or.inl ⟨18,[],by kernel_rfl,?_⟩)
    refine ⟨r.fr+(t:Int),wrap64 (by omega) (by omega),?_⟩
    refine ⟨by omega,_,hfr2,?_⟩
    refine ⟨r.to+(t:Int),wrap64 (by omega) (by omega),?_⟩
    refine ⟨by omega,_,hto2,?_⟩
    refine ⟨trivial,iff' (by rw [beq_self];rfl) ⟨Nat.le_of_eq (Nat.zero_add _),?_,_,old_all rfl,_,hcat,trivial,?_⟩⟩
    ·rw [List.length_map,hrl];show (_+1)*24≤mostBytes;unfold mostBytes;omega
    refine ⟨trivial,?_⟩
    refine ⟨trivial,?_⟩
    refine ⟨trivial,?_⟩
    refine ⟨_,rfl,_,den46 bl old hbl,?_⟩
    refine ⟨fun q3=>?_,fun q3=>?_⟩
    ·have q3:hasI bl ((old:Nat):Int)=true:=q3
     rw [if_pos q3] at hsucc
     have hcat2:(castL (rotL bl n.pipes.length q i)).map encI++[[D.int .i64 (i:Int)]]=(castL (rotL bl n.pipes.length q (i+1))).map encI:=by rw [hsucc,castL_snoc]
     refine ⟨trivial,iff' (by rw [beq_self];rfl) ⟨Nat.le_of_eq (Nat.zero_add _),?_,_,old_all rfl,_,hcat2,trivial,?_⟩⟩
     ·rw [List.length_map,castL_len];show (_+1)*8≤mostBytes;unfold mostBytes;omega
     refine ⟨(i:Int)+1,wrap64 (by omega) (by omega),?_⟩
     exact ⟨⟨rfl,rfl⟩,⟨i+1,g2+1,g3+1,hi',rfl⟩,less⟩
    ·have q3:hasI bl ((old:Nat):Int)=false:=q3
     rw [if_neg (by rw [q3];decide)] at hsucc
     refine ⟨(i:Int)+1,wrap64 (by omega) (by omega),?_⟩
     exact ⟨⟨rfl,rfl⟩,⟨i+1,g2+1,g3,hi',by rw [hsucc];rfl⟩,less⟩
   have q2:=of_decide_eq_false q2
   rw [hpl] at q2
   obtain rfl:i=n.pipes.length:=by omega
   clear less
   refine ⟨[3,4,7,8,19,20,22,25,26,30],9,[(.slot 26,1)],fun σ=>∃ (i g4:Nat),i≤n.tanks.length ∧
    σ=⟨[(3,.loc 0 0),(4,.loc 1 0),(7,.list 1 (L1.map encI)),(8,.int .i64 E1),(19,.loc 5 0),(20,.int .i64 ((n.tanks.map Tk.enc).length:Int)),(22,.int .i64 (t:Int)),(25,.sl 8 g3 0 ((castL (rotL bl n.pipes.length q n.pipes.length)).map encI).length),(26,.sl 9 g4 0 ((castL (rotL wt n.tanks.length t i)).map encI).length),(30,.int .i64 (i:Int))],
     [.flat false n.enc,.flat false [.list 1 (bl.map encI),.list 1 (wt.map encI),.int .i64 k],.flat false [.int .u8 a0,.int .u8 b0],.flat false [.list 2 (n.tanks.map Tk.enc),.sl 4 g1 0 (bk n.pipes.length).length],.rows true g1 3 (bk n.pipes.length),.flat false [.sl 6 g 0 ((rotT n t n.tanks.length).map Tk.enc).length,.sl 7 g2 0 ((rotP n t q n.pipes.length).map Rp.enc).length],.rows false g 2 ((rotT n t n.tanks.length).map Tk.enc),.rows false g2 3 ((rotP n t q n.pipes.length).map Rp.enc),.rows false g3 1 ((castL (rotL bl n.pipes.length q n.pipes.length)).map encI),.rows false g4 1 ((castL (rotL wt n.tanks.length t i)).map encI)],.non⟩,
    fun σ=>(1000 - slotI 30 σ).toNat,rfl,⟨rfl,rfl⟩,⟨0,0,Nat.zero_le _,rfl⟩,?_⟩
   rintro σ ⟨i,g4,hi,rfl⟩
   have less:(1000 - ((i:Int)+1)).toNat<(1000 - (i:Int)).toNat:=by omega
   refine ⟨fun q3=>?_,fun q3=>?_⟩
   ·have q3:=of_decide_eq_true q3
    rw [htl] at q3
    have hi':i<n.tanks.length:=by omega
    obtain ⟨old,hold⟩:∃ j,(i+n.tanks.length - t) % n.tanks.length=j:=⟨_,rfl⟩
    have hmod:((i:Int)+((n.tanks.map Tk.enc).length:Int) - (t:Int)).tmod ((n.tanks.map Tk.enc).length:Int)=((old:Nat):Int):=by
     rw [htl,← hold,show (i:Int)+(n.tanks.length:Int) - (t:Int)=((i+n.tanks.length - t:Nat):Int) by omega,Int.tmod_eq_emod_of_nonneg (Int.natCast_nonneg _)]
     exact (Int.natCast_emod _ _).symm
    have hll:=rotL_len wt n.tanks.length t i
    have hsucc:rotL wt n.tanks.length t (i+1)=if hasI wt ((old:Nat):Int)=true then rotL wt n.tanks.length t i++[i] else rotL wt n.tanks.length t i:=by
     unfold rotL
     rw [List.range_succ,List.filter_append,List.filter_cons,hold,List.filter_nil]
     cases hasI wt ((old:Nat):Int) <;> simp
    refine Or.inl ⟨by kernel_rfl,?_⟩
    refine ⟨(i:Int)+((n.tanks.map Tk.enc).length:Int),wrap64 (by omega) (by omega),?_⟩
    refine ⟨(i:Int)+((n.tanks.map Tk.enc).length:Int) - (t:Int),wrap64 (by omega) (by omega),?_⟩
    refine ⟨by omega,_,hmod,?_⟩
    refine ⟨_,rfl,_,den46 wt old hwl,?_⟩
    refine ⟨fun q4=>?_,fun q4=>?_⟩
    ·have q4:hasI wt ((old:Nat):Int)=true:=q4
     rw [if_pos q4] at hsucc
     have hcat2:(castL (rotL wt n.tanks.length t i)).map encI++[[D.int .i64 (i:Int)]]=(castL (rotL wt n.tanks.length t (i+1))).map encI:=by rw [hsucc,castL_snoc]
     refine ⟨trivial,iff' (by rw [beq_self];rfl) ⟨Nat.le_of_eq (Nat.zero_add _),?_,_,old_all rfl,_,hcat2,trivial,?_⟩⟩
     ·rw [List.length_map,castL_len];show (_+1)*8≤mostBytes;unfold mostBytes;omega
     refine ⟨(i:Int)+1,wrap64 (by omega) (by omega),?_⟩
     exact ⟨⟨rfl,rfl⟩,⟨i+1,g4+1,hi',rfl⟩,less⟩
    ·have q4:hasI wt ((old:Nat):Int)=false:=q4
     rw [if_neg (by rw [q4];decide)] at hsucc
     refine ⟨(i:Int)+1,wrap64 (by omega) (by omega),?_⟩
     exact ⟨⟨rfl,rfl⟩,⟨i+1,g4,hi',by rw [hsucc];rfl⟩,less⟩
   have q3:=of_decide_eq_false q3
   rw [htl] at q3
   obtain rfl:i=n.tanks.length:=by omega
   refine ⟨_,mapO_cons (reify_agg2 (mapO_cons (reify_sl rfl rfl) (mapO_cons (reify_sl rfl rfl) rfl))) (mapO_cons (reify_sl rfl rfl) rfl),_,h26r,?_⟩
   refine ⟨_,rfl,_,h34,?_⟩
   refine ⟨_,mapO_cons (reify_agg2 (mapO_cons (reify_sl rfl rfl) (mapO_cons (reify_sl rfl rfl) rfl))) (mapO_cons (reify_sl rfl rfl) (mapO_cons (reify_sl rfl rfl) rfl)),_,h34r,?_⟩
   refine ⟨fun _=>?_,fun h=>?_⟩
   rotate_left
   ·have h:(((L1.map encI).length:Int)==((L2.map encI).length:Int))=false:=h
    rw [List.length_map,List.length_map,hb1] at h
    exact (xEq h).elim
   refine ⟨fun _=>?_,fun h=>(xEq h).elim⟩
   refine ⟨fun _=>?_,fun h=>(xEq h).elim⟩
   refine ⟨fun _=>?_,fun h=>(xEq h).elim⟩
   exact ⟨_,rfl,_,den23,rfl⟩
  ·have qp:¬ ((n.pipes.map Rp.enc).length:Int) > 0:=of_decide_eq_false qp
   rw [hpl] at qp
   have hql:∀ {i},i<n.pipes.length→0<n.pipes.length:=fun {i} h=>by omega
   have hqP:0<n.pipes.length∨n.pipes.length=0:=by
    rcases Nat.eq_zero_or_pos n.pipes.length with h | h
    ·exact .inr h
    ·exact .inl (hql h)
   have hfew:=rot_few he2 (t:=t) (q:=0) ht hqP
   have hbls:=rot_blanks he (t:=t) (q:=0) ht hqP
   have h26r:=den26 (rotN n t 0) (castL (rotL wt n.tanks.length t n.tanks.length)) (by rw [castL_len];have:=rotL_len wt n.tanks.length t n.tanks.length;omega)
   have h34r:=den34 (rotN n t 0) (castL (rotL bl n.pipes.length 0 n.pipes.length)) (castL (rotL wt n.tanks.length t n.tanks.length)) (by rw [castL_len];have:=rotL_len bl n.pipes.length 0 n.pipes.length;omega) (by rw [castL_len];have:=rotL_len wt n.tanks.length t n.tanks.length;omega)
   rw [hfew] at h34r
   obtain ⟨⟨L2,E2⟩,hL2⟩:∃ y,(rotN n t 0).blanksR (castL (rotL wt n.tanks.length t n.tanks.length))=y:=⟨_,rfl⟩
   rw [hL2] at h26r hbls
   rw [hL1] at hbls
   obtain ⟨hb1,hb2⟩:=hbls
   have hb2:E1=E2:=hb2.symm
   have hb1:L2.length=L1.length:=hb1
   subst hb2
   clear hfew
   refine ⟨[3,4,7,8,19,20,21,22,23,24],6,[(.cell 5 0,2)],fun σ=>∃ (i g:Nat),i≤n.tanks.length ∧
    σ=⟨[(3,.loc 0 0),(4,.loc 1 0),(7,.list 1 (L1.map encI)),(8,.int .i64 E1),(19,.loc 5 0),(20,.int .i64 ((n.tanks.map Tk.enc).length:Int)),(21,.int .i64 ((n.pipes.map Rp.enc).length:Int)),(22,.int .i64 (t:Int)),(23,.int .i64 ((0:Nat):Int)),(24,.int .i64 (i:Int))],
     [.flat false n.enc,.flat false [.list 1 (bl.map encI),.list 1 (wt.map encI),.int .i64 k],.flat false [.int .u8 a0,.int .u8 b0],.flat false [.list 2 (n.tanks.map Tk.enc),.sl 4 g1 0 (bk n.pipes.length).length],.rows true g1 3 (bk n.pipes.length),.flat false [.sl 6 g 0 ((rotT n t i).map Tk.enc).length,.nils],.rows false g 2 ((rotT n t i).map Tk.enc)],.non⟩,
    fun σ=>(1000 - slotI 24 σ).toNat,rfl,⟨rfl,rfl⟩,⟨0,0,Nat.zero_le _,rfl⟩,?_⟩
   rintro σ ⟨i,g,hi,rfl⟩
   have less:(1000 - ((i:Int)+1)).toNat<(1000 - (i:Int)).toNat:=by omega
   refine ⟨fun q1=>?_,fun q1=>?_⟩
   ·have q1:=of_decide_eq_true q1
    rw [htl] at q1
    have hi':i<n.tanks.length:=by omega
    obtain ⟨x,hx⟩:∃ x,n.tanks[(i+n.tanks.length - t) % n.tanks.length]?=some x:=⟨_,List.getElem?_eq_getElem (rot_law ht hi').2.1⟩
    have hxrow:(n.tanks.map Tk.enc)[(((i+n.tanks.length - t) % n.tanks.length:Nat):Int).toNat]?=some x.enc:=by rw [Int.toNat_natCast,List.getElem?_map,hx];rfl
    have hmod:((i:Int)+((n.tanks.map Tk.enc).length:Int) - (t:Int)).tmod ((n.tanks.map Tk.enc).length:Int)=(((i+n.tanks.length - t) % n.tanks.length:Nat):Int):=by
     rw [htl,show (i:Int)+(n.tanks.length:Int) - (t:Int)=((i+n.tanks.length - t:Nat):Int) by omega,Int.tmod_eq_emod_of_nonneg (Int.natCast_nonneg _)]
     exact (Int.natCast_emod _ _).symm
    have hcat:(rotT n t i).map Tk.enc++[x.enc]=(rotT n t (i+1)).map Tk.enc:=by
     unfold rotT
     rw [List.range_succ,List.map_append,List.map_append]
     simp only [List.map_cons,List.map_nil]
     rw [List.getD_eq_getElem?_getD,hx];rfl
    have hml:=(rot_law ht hi').2.1
    have hrl:=rotT_len n t i
    refine Or.inr (Or.inl ⟨14,[],by kernel_rfl,?_⟩)
    refine ⟨(i:Int)+((n.tanks.map Tk.enc).length:Int),wrap64 (by omega) (by omega),?_⟩
    refine ⟨(i:Int)+((n.tanks.map Tk.enc).length:Int) - (t:Int),wrap64 (by omega) (by omega),?_⟩
    refine ⟨by omega,_,hmod,?_⟩
    refine ⟨by omega,_,hxrow,?_⟩
    refine ⟨trivial,iff' (by rw [beq_self];rfl) ⟨Nat.le_of_eq (Nat.zero_add _),?_,_,old_all rfl,_,hcat,trivial,?_⟩⟩
    ·rw [List.length_map,hrl];show (_+1)*24≤mostBytes;unfold mostBytes;omega
    refine ⟨trivial,?_⟩
    refine ⟨trivial,?_⟩
    refine ⟨trivial,?_⟩
    refine ⟨(i:Int)+1,wrap64 (by omega) (by omega),?_⟩
    exact ⟨⟨rfl,rfl⟩,⟨i+1,g+1,hi',rfl⟩,less⟩
   have q1:=of_decide_eq_false q1
   rw [htl] at q1
   obtain rfl:i=n.tanks.length:=by omega
   clear less
   refine ⟨[3,4,7,8,19,20,21,22,23,25,26,27],7,[(.cell 5 1,3),(.slot 25,1)],fun σ=>∃ (i g2 g3:Nat),i≤n.pipes.length ∧
    σ=⟨[(3,.loc 0 0),(4,.loc 1 0),(7,.list 1 (L1.map encI)),(8,.int .i64 E1),(19,.loc 5 0),(20,.int .i64 ((n.tanks.map Tk.enc).length:Int)),(21,.int .i64 ((n.pipes.map Rp.enc).length:Int)),(22,.int .i64 (t:Int)),(23,.int .i64 ((0:Nat):Int)),(25,.sl 8 g3 0 ((castL (rotL bl n.pipes.length 0 i)).map encI).length),(26,.nils),(27,.int .i64 (i:Int))],
     [.flat false n.enc,.flat false [.list 1 (bl.map encI),.list 1 (wt.map encI),.int .i64 k],.flat false [.int .u8 a0,.int .u8 b0],.flat false [.list 2 (n.tanks.map Tk.enc),.sl 4 g1 0 (bk n.pipes.length).length],.rows true g1 3 (bk n.pipes.length),.flat false [.sl 6 g 0 ((rotT n t n.tanks.length).map Tk.enc).length,.sl 7 g2 0 ((rotP n t 0 i).map Rp.enc).length],.rows false g 2 ((rotT n t n.tanks.length).map Tk.enc),.rows false g2 3 ((rotP n t 0 i).map Rp.enc),.rows false g3 1 ((castL (rotL bl n.pipes.length 0 i)).map encI)],.non⟩,
    fun σ=>(1000 - slotI 27 σ).toNat,rfl,⟨rfl,rfl⟩,⟨0,0,0,Nat.zero_le _,rfl⟩,?_⟩
   rintro σ ⟨i,g2,g3,hi,rfl⟩
   have less:(1000 - ((i:Int)+1)).toNat<(1000 - (i:Int)).toNat:=by omega
   refine ⟨fun q2=>?_,fun q2=>?_⟩
   ·have q2:=of_decide_eq_true q2
    rw [hpl] at q2
    have hi':i<n.pipes.length:=by omega
    have hql':=hql hi'
    obtain ⟨old,hold⟩:∃ j,(i+n.pipes.length - 0) % n.pipes.length=j:=⟨_,rfl⟩
    have holt:old<n.pipes.length:=by rw [← hold];exact (rot_law hql' hi').2.1
    obtain ⟨r,hr⟩:∃ r,n.pipes[old]?=some r:=⟨_,List.getElem?_eq_getElem holt⟩
    have hrrow:(n.pipes.map Rp.enc)[((old:Nat):Int).toNat]?=some r.enc:=by rw [Int.toNat_natCast,List.getElem?_map,hr];rfl
    have hre:=hn.pe r (List.mem_of_getElem? hr)
    have hmod:((i:Int)+((n.pipes.map Rp.enc).length:Int) - ((0:Nat):Int)).tmod ((n.pipes.map Rp.enc).length:Int)=((old:Nat):Int):=by
     rw [hpl,← hold,show (i:Int)+(n.pipes.length:Int) - ((0:Nat):Int)=((i+n.pipes.length - 0:Nat):Int) by omega,Int.tmod_eq_emod_of_nonneg (Int.natCast_nonneg _)]
     exact (Int.natCast_emod _ _).symm
    obtain ⟨fr2,hfr2⟩:∃ v,(r.fr+(t:Int)).tmod ((n.tanks.map Tk.enc).length:Int)=v:=⟨_,rfl⟩
    obtain ⟨to2,hto2⟩:∃ v,(r.to+(t:Int)).tmod ((n.tanks.map Tk.enc).length:Int)=v:=⟨_,rfl⟩
    have hcat:(rotP n t 0 i).map Rp.enc++[[D.int .i64 fr2,D.int .i64 to2,D.bool r.welded]]=(rotP n t 0 (i+1)).map Rp.enc:=by
     unfold rotP
     rw [List.range_succ,List.map_append,List.map_append]
     simp only [List.map_cons,List.map_nil]
     rw [List.getD_eq_getElem?_getD,hold,hr]
     show _=_++[[D.int .i64 ((r.fr+(t:Int)).tmod n.tanks.length),D.int .i64 ((r.to+(t:Int)).tmod n.tanks.length),D.bool r.welded]]
     rw [← hfr2,← hto2,htl]
    have hrl:=rotP_len n t 0 i
    have hll:=rotL_len bl n.pipes.length 0 i
    have hsucc:rotL bl n.pipes.length 0 (i+1)=if hasI bl ((old:Nat):Int)=true then rotL bl n.pipes.length 0 i++[i] else rotL bl n.pipes.length 0 i:=by
     unfold rotL
     rw [List.range_succ,List.filter_append,List.filter_cons,hold,List.filter_nil]
     cases hasI bl ((old:Nat):Int) <;> simp
    refine ⟨(i:Int)+((n.pipes.map Rp.enc).length:Int),wrap64 (by omega) (by omega),?_⟩
    refine ⟨(i:Int)+((n.pipes.map Rp.enc).length:Int) - ((0:Nat):Int),wrap64 (by omega) (by omega),?_⟩
    refine ⟨by omega,_,hmod,?_⟩
    refine ⟨by omega,_,hrrow,?_⟩
    refine Or.inr (Or.inl ⟨18,[],by kernel_rfl,?_⟩)
    refine ⟨r.fr+(t:Int),wrap64 (by omega) (by omega),?_⟩
    refine ⟨by omega,_,hfr2,?_⟩
    refine ⟨r.to+(t:Int),wrap64 (by omega) (by omega),?_⟩
    refine ⟨by omega,_,hto2,?_⟩
    refine ⟨trivial,iff' (by rw [beq_self];rfl) ⟨Nat.le_of_eq (Nat.zero_add _),?_,_,old_all rfl,_,hcat,trivial,?_⟩⟩
    ·rw [List.length_map,hrl];show (_+1)*24≤mostBytes;unfold mostBytes;omega
    refine ⟨trivial,?_⟩
    refine ⟨trivial,?_⟩
    refine ⟨trivial,?_⟩
    refine ⟨_,rfl,_,den46 bl old hbl,?_⟩
    refine ⟨fun q3=>?_,fun q3=>?_⟩
    ·have q3:hasI bl ((old:Nat):Int)=true:=q3
     rw [if_pos q3] at hsucc
     have hcat2:(castL (rotL bl n.pipes.length 0 i)).map encI++[[D.int .i64 (i:Int)]]=(castL (rotL bl n.pipes.length 0 (i+1))).map encI:=by rw [hsucc,castL_snoc]
     refine ⟨trivial,iff' (by rw [beq_self];rfl) ⟨Nat.le_of_eq (Nat.zero_add _),?_,_,old_all rfl,_,hcat2,trivial,?_⟩⟩
     ·rw [List.length_map,castL_len];show (_+1)*8≤mostBytes;unfold mostBytes;omega
     refine ⟨(i:Int)+1,wrap64 (by omega) (by omega),?_⟩
     exact ⟨⟨rfl,rfl⟩,⟨i+1,g2+1,g3+1,hi',rfl⟩,less⟩
    ·have q3:hasI bl ((old:Nat):Int)=false:=q3
     rw [if_neg (by rw [q3];decide)] at hsucc
     refine ⟨(i:Int)+1,wrap64 (by omega) (by omega),?_⟩
     exact ⟨⟨rfl,rfl⟩,⟨i+1,g2+1,g3,hi',by rw [hsucc];rfl⟩,less⟩
   have q2:=of_decide_eq_false q2
   rw [hpl] at q2
   obtain rfl:i=n.pipes.length:=by omega
   clear less
   refine ⟨[3,4,7,8,19,20,22,25,26,30],9,[(.slot 26,1)],fun σ=>∃ (i g4:Nat),i≤n.tanks.length ∧
    σ=⟨[(3,.loc 0 0),(4,.loc 1 0),(7,.list 1 (L1.map encI)),(8,.int .i64 E1),(19,.loc 5 0),(20,.int .i64 ((n.tanks.map Tk.enc).length:Int)),(22,.int .i64 (t:Int)),(25,.sl 8 g3 0 ((castL (rotL bl n.pipes.length 0 n.pipes.length)).map encI).length),(26,.sl 9 g4 0 ((castL (rotL wt n.tanks.length t i)).map encI).length),(30,.int .i64 (i:Int))],
     [.flat false n.enc,.flat false [.list 1 (bl.map encI),.list 1 (wt.map encI),.int .i64 k],.flat false [.int .u8 a0,.int .u8 b0],.flat false [.list 2 (n.tanks.map Tk.enc),.sl 4 g1 0 (bk n.pipes.length).length],.rows true g1 3 (bk n.pipes.length),.flat false [.sl 6 g 0 ((rotT n t n.tanks.length).map Tk.enc).length,.sl 7 g2 0 ((rotP n t 0 n.pipes.length).map Rp.enc).length],.rows false g 2 ((rotT n t n.tanks.length).map Tk.enc),.rows false g2 3 ((rotP n t 0 n.pipes.length).map Rp.enc),.rows false g3 1 ((castL (rotL bl n.pipes.length 0 n.pipes.length)).map encI),.rows false g4 1 ((castL (rotL wt n.tanks.length t i)).map encI)],.non⟩,
    fun σ=>(1000 - slotI 30 σ).toNat,rfl,⟨rfl,rfl⟩,⟨0,0,Nat.zero_le _,rfl⟩,?_⟩
   rintro σ ⟨i,g4,hi,rfl⟩
   have less:(1000 - ((i:Int)+1)).toNat<(1000 - (i:Int)).toNat:=by omega
   refine ⟨fun q3=>?_,fun q3=>?_⟩
   ·have q3:=of_decide_eq_true q3
    rw [htl] at q3
    have hi':i<n.tanks.length:=by omega
    obtain ⟨old,hold⟩:∃ j,(i+n.tanks.length - t) % n.tanks.length=j:=⟨_,rfl⟩
    have hmod:((i:Int)+((n.tanks.map Tk.enc).length:Int) - (t:Int)).tmod ((n.tanks.map Tk.enc).length:Int)=((old:Nat):Int):=by
     rw [htl,← hold,show (i:Int)+(n.tanks.length:Int) - (t:Int)=((i+n.tanks.length - t:Nat):Int) by omega,Int.tmod_eq_emod_of_nonneg (Int.natCast_nonneg _)]
     exact (Int.natCast_emod _ _).symm
    have hll:=rotL_len wt n.tanks.length t i
    have hsucc:rotL wt n.tanks.length t (i+1)=if hasI wt ((old:Nat):Int)=true then rotL wt n.tanks.length t i++[i] else rotL wt n.tanks.length t i:=by
     unfold rotL
     rw [List.range_succ,List.filter_append,List.filter_cons,hold,List.filter_nil]
     cases hasI wt ((old:Nat):Int) <;> simp
    refine Or.inl ⟨by kernel_rfl,?_⟩
    refine ⟨(i:Int)+((n.tanks.map Tk.enc).length:Int),wrap64 (by omega) (by omega),?_⟩
    refine ⟨(i:Int)+((n.tanks.map Tk.enc).length:Int) - (t:Int),wrap64 (by omega) (by omega),?_⟩
    refine ⟨by omega,_,hmod,?_⟩
    refine ⟨_,rfl,_,den46 wt old hwl,?_⟩
    refine ⟨fun q4=>?_,fun q4=>?_⟩
    ·have q4:hasI wt ((old:Nat):Int)=true:=q4
     rw [if_pos q4] at hsucc
     have hcat2:(castL (rotL wt n.tanks.length t i)).map encI++[[D.int .i64 (i:Int)]]=(castL (rotL wt n.tanks.length t (i+1))).map encI:=by rw [hsucc,castL_snoc]
     refine ⟨trivial,iff' (by rw [beq_self];rfl) ⟨Nat.le_of_eq (Nat.zero_add _),?_,_,old_all rfl,_,hcat2,trivial,?_⟩⟩
     ·rw [List.length_map,castL_len];show (_+1)*8≤mostBytes;unfold mostBytes;omega
     refine ⟨(i:Int)+1,wrap64 (by omega) (by omega),?_⟩
     exact ⟨⟨rfl,rfl⟩,⟨i+1,g4+1,hi',rfl⟩,less⟩
    ·have q4:hasI wt ((old:Nat):Int)=false:=q4
     rw [if_neg (by rw [q4];decide)] at hsucc
     refine ⟨(i:Int)+1,wrap64 (by omega) (by omega),?_⟩
     exact ⟨⟨rfl,rfl⟩,⟨i+1,g4,hi',by rw [hsucc];rfl⟩,less⟩
   have q3:=of_decide_eq_false q3
   rw [htl] at q3
   obtain rfl:i=n.tanks.length:=by omega
   refine ⟨_,mapO_cons (reify_agg2 (mapO_cons (reify_sl rfl rfl) (mapO_cons (reify_sl rfl rfl) rfl))) (mapO_cons (reify_sl rfl rfl) rfl),_,h26r,?_⟩
   refine ⟨_,rfl,_,h34,?_⟩
   refine ⟨_,mapO_cons (reify_agg2 (mapO_cons (reify_sl rfl rfl) (mapO_cons (reify_sl rfl rfl) rfl))) (mapO_cons (reify_sl rfl rfl) (mapO_cons (reify_sl rfl rfl) rfl)),_,h34r,?_⟩
   refine ⟨fun _=>?_,fun h=>?_⟩
   rotate_left
   ·have h:(((L1.map encI).length:Int)==((L2.map encI).length:Int))=false:=h
    rw [List.length_map,List.length_map,hb1] at h
    exact (xEq h).elim
   refine ⟨fun _=>?_,fun h=>(xEq h).elim⟩
   refine ⟨fun _=>?_,fun h=>(xEq h).elim⟩
   refine ⟨fun _=>?_,fun h=>(xEq h).elim⟩
   exact ⟨_,rfl,_,den23,rfl⟩

end Go.Proofs.Vent
