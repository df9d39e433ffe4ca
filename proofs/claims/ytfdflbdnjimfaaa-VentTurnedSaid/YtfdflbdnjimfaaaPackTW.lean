/- VentProved: the ways of Ways are as many as the blanks of Blanks, and accepted; accepted ways prove that no fewer blanks do. No condition. -/
import Derived.Test.YtfdflbdnjimfaaaPackTR
import Derived.Test.YtfdflbdnjimfaaaPackTV
import Derived.Test.YtfdflbdnjimfaaaPackTG
import Derived.Test.YtfdflbdnjimfaaaPackTF

namespace Go.Proofs.Vent
open Go.V Go.Proofs

theorem need_one {n:NetL} {a b:Nat} (ha:n.Need a) (hb:n.Need b):a=b:=by
 obtain ⟨A,a1,a2,a3⟩:=ha.some
 obtain ⟨B,b1,b2,b3⟩:=hb.some
 have h1:=ha.most B b1 b2
 have h2:=hb.most A a1 a2
 omega
theorem provesL_len {n:NetL} (hn:n.Ok):∀ (ways:List (List Int)) (K:List (Int × Int)),n.provesL ways K=true→∀ w∈ways,w.length≤7
 | [],_,_,w,h=>by cases h
 | x::r,K,h,w,hw=>by
  unfold NetL.provesL at h
  cases hany:(tanksU n.kept).any fun k=>n.gas k x with
  | false=>rw [hany] at h;cases h
  | true =>
   rw [hany] at h
   simp only at h
   obtain ⟨k,_,hg⟩:=List.any_eq_true.1 hany
   cases hu:n.useL x x.length 0 K with
   | none=>rw [hu] at h;cases h
   | some K' =>
    rw [hu] at h
    rcases List.mem_cons.1 hw with rfl | hw
    ·exact (NetL.gas_len hn hg).1
    ·exact provesL_len hn r K' h w hw
theorem proved_facts {n:Nt} {wt:List Int} (he:n.lookE [] wt true=0):(n.look [] wt).waysF≠none∧∃ (L:List Nat) (E:Int) (WS:List (List Nat)),n.blanksR wt=(castL L,E)∧n.waysN wt=(WS,E)∧WS.length=L.length∧WS.length≤12 ∧
    (∀ l∈WS.map castL,l.length≤7)∧n.provesN wt (WS.map castL)=(true,0):=by
  obtain ⟨hn,_,hw⟩:=Nt.lookE_ok he
  have hw:=hw rfl
  have hin:=Nt.wantedE_in hw
  have hok:=Nt.look_ok hn [] hin
  have hcut:=NetL.cut_ok hok (look_free hw) (look_open hn wt) (fun l=>sep_iff hn hin l)
  have hfl:=NetL.flow_ok hok (look_free hw)
  have hwy:=NetL.ways_ok hok (look_free (n:=n) (bl:=[]) hw)
  have hR:n.blanksR wt=(match (n.look [] wt).cut with | none=>([],9) | some l=>(castL l,0)):=by unfold Nt.blanksR;rw [if_pos he];cases (n.look [] wt).cut <;> rfl
  have hP:∀ ws,n.provesN wt ws=((n.look [] wt).provesL ws [],0):=fun ws=>by unfold Nt.provesN;rw [if_pos he]
  cases hx:(n.look [] wt).flow with
  | none =>
   rw [hx] at hwy
   have hz:(n.look [] wt).flowZ=-1:=by unfold NetL.flowZ;rw [hx]
   have hc:(n.look [] wt).cut=none:=by unfold NetL.cut;rw [hz,if_pos (by decide)]
   rw [hc] at hR
   have hwy:(n.look [] wt).waysF=some none:=hwy
   refine ⟨by rw [hwy];simp,[],9,[],hR,?_,rfl,by decide,fun l h=>(by cases h),by rw [hP];rfl⟩
   unfold Nt.waysN
   rw [if_pos he,hwy]
  | some x =>
   obtain ⟨w,T⟩:=x
   rw [hx] at hwy hfl
   obtain ⟨ws,h1,h2,h3⟩:=hwy
   have hz:(n.look [] wt).flowZ=T:=by unfold NetL.flowZ;rw [hx]
   cases hc:(n.look [] wt).cut with
   | none =>
    unfold NetL.cut at hc
    rw [hz,if_neg (by omega)] at hc
    cases hc
   | some l =>
    rw [hc] at hcut hR
    obtain ⟨T',hT,hfd,_⟩:=hcut
    have e:=need_one hT hfl.2
    have hml:=(NetL.flow_inv hok hx).2
    have h12:=hok.p
    have h3:(n.look [] wt).provesL (ws.map castL) []=true:=h3
    refine ⟨by rw [h1];simp,l,0,ws,hR,?_,by rw [h2,hfd.len];exact e.symm,by omega,provesL_len hok _ [] h3,by rw [hP,h3]⟩
    unfold Nt.waysN
    rw [if_pos he,h1]


end Go.Proofs.Vent
