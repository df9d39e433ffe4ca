/- VentProved: the ways of Ways are as many as the blanks of Blanks, and accepted; accepted ways prove that no fewer blanks do. No condition. -/
import Derived.Test.YtfdflbdnjimfaaaPackTR
import Derived.Test.YtfdflbdnjimfaaaPackTV
import Derived.Test.YtfdflbdnjimfaaaPackTG
import Derived.Test.YtfdflbdnjimfaaaPackTF

namespace Go.Proofs.Vent
open Go.V Go.Proofs

theorem rowsW_cast (ws:List (List Nat)):rowsW ws=(ws.map castL).map encW:=by
  unfold rowsW castL
  rw [List.map_map]
  refine List.map_congr_left fun l _=>?_
  show [D.list 1 (intsN l)]=encW (l.map fun i=>((i:Nat):Int))
  unfold encW intsN
  rw [List.map_map]
theorem need_one {n:NetL} {a b:Nat} (ha:n.Need a) (hb:n.Need b):a=b:=by
  obtain ⟨A,a1,a2,a3⟩:=ha.some
  obtain ⟨B,b1,b2,b3⟩:=hb.some
  have h1:=ha.most B b1 b2
  have h2:=hb.most A a1 a2
  omega
theorem provesL_len {n:NetL} (hn:n.Ok):∀ (ways:List (List Int)) (K:List (Int × Int)),n.provesL ways K=true→∀ w∈ways,w.length≤7
  | [],_,_,w,h=>by cases h
  | x::r,K,h,w,hw=>by
    unfold NetL.provesL at h
    cases hany:(tanksU n.kept).any fun k=>n.gas k x with
    | false=>rw [hany] at h;cases h
    | true =>
      rw [hany] at h
      simp only at h
      obtain ⟨k,_,hg⟩:=List.any_eq_true.1 hany
      cases hu:n.useL x x.length 0 K with
      | none=>rw [hu] at h;cases h
      | some K' =>
        rw [hu] at h
        rcases List.mem_cons.1 hw with rfl | hw
        · exact (NetL.gas_len hn hg).1
        · exact provesL_len hn r K' h w hw
theorem proved_facts {n:Nt} {wt:List Int} (he:n.lookE [] wt true=0):(n.look [] wt).waysF≠none∧∃ (L:List Nat) (E:Int) (WS:List (List Nat)),n.blanksR wt=(castL L,E)∧n.waysN wt=(WS,E)∧WS.length=L.length∧WS.length≤12 ∧
    (∀ l∈WS.map castL,l.length≤7)∧n.provesN wt (WS.map castL)=(true,0):=by
  obtain ⟨hn,_,hw⟩:=Nt.lookE_ok he
  have hw:=hw rfl
  have hin:=Nt.wantedE_in hw
  have hok:=Nt.look_ok hn [] hin
  have hcut:=NetL.cut_ok hok (look_free hw) (look_open hn wt) (fun l=>sep_iff hn hin l)
  have hfl:=NetL.flow_ok hok (look_free hw)
  have hwy:=NetL.ways_ok hok (look_free (n:=n) (bl:=[]) hw)
  have hR:n.blanksR wt=(match (n.look [] wt).cut with | none=>([],9) | some l=>(castL l,0)):=by unfold Nt.blanksR;rw [if_pos he];cases (n.look [] wt).cut <;> rfl
  have hP:∀ ws,n.provesN wt ws=((n.look [] wt).provesL ws [],0):=fun ws=>by unfold Nt.provesN;rw [if_pos he]
  cases hx:(n.look [] wt).flow with
  | none =>
    rw [hx] at hwy
    have hz:(n.look [] wt).flowZ=-1:=by unfold NetL.flowZ;rw [hx]
    have hc:(n.look [] wt).cut=none:=by unfold NetL.cut;rw [hz,if_pos (by decide)]
    rw [hc] at hR
    have hwy:(n.look [] wt).waysF=some none:=hwy
    refine ⟨by rw [hwy];simp,[],9,[],hR,?_,rfl,by decide,fun l h=>(by cases h),by rw [hP];rfl⟩
    unfold Nt.waysN
    rw [if_pos he,hwy]
  | some x =>
    obtain ⟨w,T⟩:=x
    rw [hx] at hwy hfl
    obtain ⟨ws,h1,h2,h3⟩:=hwy
    have hz:(n.look [] wt).flowZ=T:=by unfold NetL.flowZ;rw [hx]
    cases hc:(n.look [] wt).cut with
    | none =>
      unfold NetL.cut at hc
      rw [hz,if_neg (by omega)] at hc
      cases hc
    | some l =>
      rw [hc] at hcut hR
      obtain ⟨T',hT,hfd,_⟩:=hcut
      have e:=need_one hT hfl.2
      have hml:=(NetL.flow_inv hok hx).2
      have h12:=hok.p
      have h3:(n.look [] wt).provesL (ws.map castL) []=true:=h3
      refine ⟨by rw [h1];simp,l,0,ws,hR,?_,by rw [h2,hfd.len];exact e.symm,by omega,provesL_len hok _ [] h3,by rw [hP,h3]⟩
      unfold Nt.waysN
      rw [if_pos he,h1]

set_option maxRecDepth 10000 in
set_option maxHeartbeats 8000000 in
theorem den8 (n:Nt) (wt:List Int) (ways:List (List Int)) (B:Nat) (hwl:wt.length<9223372036854775808) (hyl:ways.length<9223372036854775808) (hy1:∀ w∈ways,w.length<9223372036854775808) :
    DN 8 [.agg n.enc,.list 1 (wt.map encI),.agg [.list 1 (ways.map encW),.int .u16 B]] (.bool true):=by
  have h26:=den26 n wt hwl
  have h28:=den28 n wt hwl fun he=>(proved_facts he).1
  have h39:DN 39 [.agg n.enc,.list 0 [],.list 1 (wt.map encI)] (.int .i64 (n.lookE [] wt true)):=(den39 n [] wt (by decide) hwl).wkargs (.cons (.refl _) (.cons (.of (.nil 0 1)) (.cons (.refl _) .nil)))
  refine mk Try.func8 Try.call8 rfl rfl ?_
  by_cases he:n.lookE [] wt true=0
  rotate_left
  · have r1:n.blanksR wt=([],n.lookE [] wt true):=by unfold Nt.blanksR;rw [if_neg he]
    have r2:n.waysN wt=([],n.lookE [] wt true):=by unfold Nt.waysN;rw [if_neg he]
    rw [r1] at h26
    rw [r2] at h28
    refine ⟨_,rfl,_,h26,?_⟩
    refine ⟨_,rfl,_,h28,?_⟩
    refine ⟨_,rfl,_,h39,?_⟩
    refine ⟨fun _=>?_,fun h=>?_⟩
    · refine ⟨fun _=>?_,fun h=>(xEq h).elim⟩
      refine ⟨fun _=>?_,fun h=>(xEq h).elim⟩
      exact ⟨_,rfl,_,den23,rfl⟩
    · have h:(n.lookE [] wt true != 0)=false:=h
      exact absurd (by simpa using h) he
  obtain ⟨_,L,E,WS,f1,f2,f3,f4,f5,f6⟩:=proved_facts he
  obtain ⟨hn,_,hw⟩:=Nt.lookE_ok he
  have hw:=hw rfl
  have hc:=Nt.check_of he
  have hin:=Nt.wantedE_in hw
  have hok:=Nt.look_ok hn [] hin
  have h12:=hn.p
  have hflen:(flN n B).length≤n.pipes.length:=by unfold flN;exact Nat.le_trans (List.length_filter_le _ _) (by simp)
  have hother:=blanks_ok hc (flN_asc n B) (fun j hj=>flN_lt hj) (fun j hj=>flN_weld hj)
  have hother2:n.lookE (castL (flN n B)) wt true=0:=by
    have hb:=(Nt.lookE_ok hother).2.1
    unfold Nt.lookE
    rw [if_neg (by simpa using hc),hb]
    simp [hw]
  have h40:=den40 n hn B
  rw [flK_cast] at h40
  have hap:n.apartB (castL (flN n B)) wt=(n.look (castL (flN n B)) wt).separate:=by unfold Nt.apartB;rw [if_pos hother]
  have h41:=den41 n (castL (flN n B)) wt (by rw [castL_len];omega) hwl hin
  rw [hap] at h41
  have h24:=den24 n (castL (flN n B)) wt (by rw [castL_len];omega) hwl
  have h29:=den29 n wt (WS.map castL) hwl (by rw [List.length_map];omega) (fun w hw=>by have:=f5 w hw;omega)
  rw [f6,← rowsW_cast] at h29
  have h29b:=den29 n wt ways hwl hyl hy1
  have hP:n.provesN wt ways=((n.look [] wt).provesL ways [],0):=by unfold Nt.provesN;rw [if_pos he]
  rw [hP] at h29b
  have hol:(((castL (flN n B)).map encI).length:Int)=(flN n B).length:=by simp [castL]
  have hwyl:((ways.map encW).length:Int)=ways.length:=by simp
  have hfew:(n.look [] wt).provesL ways []=true→(flN n B).length<ways.length→(n.look (castL (flN n B)) wt).separate=false:=fun h1 h2=>by
    cases hs:(n.look (castL (flN n B)) wt).separate with
    | false=>rfl
    | true =>
      have h3:=NetL.proves_le hok (look_open hn wt) ((sep_iff hn hin _).1 hs) bset_fl ways [] h1 (fun i p _ _=>by
        have:countU [] (i:Nat)=0:=rfl
        omega)
      have h4:useS (n.look [] wt) (bset (flN n B)) []=0:=by
        unfold useS
        rw [sumS_congr (g:=fun _=>0) fun i _=>?_,sumS_zero]
        have:countU [] (i:Nat)=0:=rfl
        rw [this];simp
      rw [many_list (asc_nodup (flN_asc n B)) (fun j hj=>by rw [look_plen];exact flN_lt hj),h4] at h3
      omega
  obtain ⟨pv,hpv⟩:∃ v,(n.look [] wt).provesL ways []=v:=⟨_,rfl⟩
  rw [hpv] at h29b hfew
  obtain ⟨O,hO⟩:∃ O,castL (flN n B)=O:=⟨_,rfl⟩
  rw [hO] at h40 h41 h24 hol hfew hother2
  rw [he] at h39
  rw [f1] at h26
  rw [f2] at h28
  have hLl:(((castL L).map encI).length:Int)=L.length:=by simp [castL]
  have hWl:((rowsW WS).length:Int)=WS.length:=by rw [rowsW_len]
  obtain ⟨sp,hsp⟩:∃ v,(n.look O wt).separate=v:=⟨_,rfl⟩
  rw [hsp] at h41 hfew
  have h24:∃ W h,DN 24 [.agg n.enc,.list 1 (O.map encI),.list 1 (wt.map encI)] (tupLI (W,h))∧((sp=true∧W=[]∧h=4)∨(sp=false∧h=0)):=by
    cases sp with
    | true =>
      have:n.wayN O wt=([],4):=by unfold Nt.wayN;rw [if_pos hother2,hsp]
      rw [this] at h24
      exact ⟨[],4,h24,.inl ⟨rfl,rfl,rfl⟩⟩
    | false =>
      have:n.wayN O wt=((n.look O wt).way.map fun i=>((i:Nat):Int),0):=by unfold Nt.wayN;rw [if_pos hother2,hsp]
      rw [this] at h24
      exact ⟨_,0,h24,.inr ⟨rfl,rfl⟩⟩
  obtain ⟨W,h,h24,hcase⟩:=h24
  have hne:((WS.length:Int) != (L.length:Int))=false:=by rw [f3];simp
  rcases hcase with ⟨rfl,rfl,rfl⟩ | ⟨rfl,rfl⟩
  · refine ⟨_,rfl,_,h26,?_⟩
    refine ⟨_,rfl,_,h28,?_⟩
    refine ⟨_,rfl,_,h39,?_⟩
    refine ⟨fun h=>Bool.noConfusion (show false=true from h),fun _=>?_⟩
    refine ⟨fun h=>(xNe h).elim,fun _=>?_⟩
    refine ⟨fun h=>?_,fun _=>?_⟩
    · have h:((((rowsW WS).length:Nat):Int) != ((((castL L).map encI).length:Nat):Int))=true:=h
      rw [hWl,hLl,hne] at h;cases h
    refine ⟨_,rfl,_,h29,?_⟩
    refine ⟨fun h=>Bool.noConfusion (show false=true from h),fun _=>?_⟩
    refine ⟨fun h=>Bool.noConfusion (show false=true from h),fun _=>?_⟩
    refine ⟨_,rfl,_,h29b,?_⟩
    refine ⟨_,rfl,_,h40,?_⟩
    refine ⟨fun h=>Bool.noConfusion (show false=true from h),fun _=>?_⟩
    refine ⟨fun s1=>?_,fun s1=>?_⟩
    · have s1:pv=true:=s1
      refine ⟨fun s2=>?_,fun s2=>?_⟩
      · have s2:=of_decide_eq_true s2
        rw [hol,hwyl] at s2
        have:=hfew s1 (by omega)
        cases this
      · refine ⟨_,rfl,_,h24,?_⟩
        refine ⟨_,rfl,_,h41,?_⟩
        refine ⟨fun _=>?_,fun h=>Bool.noConfusion (show true=false from h)⟩
        refine ⟨fun h=>Bool.noConfusion (show false=true from h),fun _=>?_⟩
        refine ⟨fun _=>?_,fun h=>Bool.noConfusion (show true=false from h)⟩
        refine ⟨fun _=>?_,fun h=>Bool.noConfusion (show true=false from h)⟩
        exact ⟨_,rfl,_,den23,rfl⟩
    · refine ⟨_,rfl,_,h24,?_⟩
      refine ⟨_,rfl,_,h41,?_⟩
      refine ⟨fun _=>?_,fun h=>Bool.noConfusion (show true=false from h)⟩
      refine ⟨fun h=>Bool.noConfusion (show false=true from h),fun _=>?_⟩
      refine ⟨fun _=>?_,fun h=>Bool.noConfusion (show true=false from h)⟩
      refine ⟨fun _=>?_,fun h=>Bool.noConfusion (show true=false from h)⟩
      exact ⟨_,rfl,_,den23,rfl⟩
  · refine ⟨_,rfl,_,h26,?_⟩
    refine ⟨_,rfl,_,h28,?_⟩
    refine ⟨_,rfl,_,h39,?_⟩
    refine ⟨fun h=>Bool.noConfusion (show false=true from h),fun _=>?_⟩
    refine ⟨fun h=>(xNe h).elim,fun _=>?_⟩
    refine ⟨fun h=>?_,fun _=>?_⟩
    · have h:((((rowsW WS).length:Nat):Int) != ((((castL L).map encI).length:Nat):Int))=true:=h
      rw [hWl,hLl,hne] at h;cases h
    refine ⟨_,rfl,_,h29,?_⟩
    refine ⟨fun h=>Bool.noConfusion (show false=true from h),fun _=>?_⟩
    refine ⟨fun h=>Bool.noConfusion (show false=true from h),fun _=>?_⟩
    refine ⟨_,rfl,_,h29b,?_⟩
    refine ⟨_,rfl,_,h40,?_⟩
    refine ⟨fun h=>Bool.noConfusion (show false=true from h),fun _=>?_⟩
    refine ⟨fun s1=>?_,fun s1=>?_⟩
    · refine ⟨fun s2=>?_,fun s2=>?_⟩
      · refine ⟨_,rfl,_,h41,?_⟩
        refine ⟨fun h=>Bool.noConfusion (show false=true from h),fun _=>?_⟩
        refine ⟨_,rfl,_,h24,?_⟩
        refine ⟨_,rfl,_,h41,?_⟩
        refine ⟨fun _=>?_,fun h=>Bool.noConfusion (show true=false from h)⟩
        refine ⟨fun _=>?_,fun h=>Bool.noConfusion (show true=false from h)⟩
        exact ⟨_,rfl,_,den23,rfl⟩
      · refine ⟨_,rfl,_,h24,?_⟩
        refine ⟨_,rfl,_,h41,?_⟩
        refine ⟨fun _=>?_,fun h=>Bool.noConfusion (show true=false from h)⟩
        refine ⟨fun _=>?_,fun h=>Bool.noConfusion (show true=false from h)⟩
        exact ⟨_,rfl,_,den23,rfl⟩
    · refine ⟨_,rfl,_,h24,?_⟩
      refine ⟨_,rfl,_,h41,?_⟩
      refine ⟨fun _=>?_,fun h=>Bool.noConfusion (show true=false from h)⟩
      refine ⟨fun _=>?_,fun h=>Bool.noConfusion (show true=false from h)⟩
      exact ⟨_,rfl,_,den23,rfl⟩

end Go.Proofs.Vent
