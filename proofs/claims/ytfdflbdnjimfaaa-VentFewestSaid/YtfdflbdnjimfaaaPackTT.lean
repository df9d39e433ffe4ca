/- VentFewest: behind the blanks of Blanks, and behind any fewer ones. No condition. -/
import Derived.Test.YtfdflbdnjimfaaaPackTV
import Derived.Test.YtfdflbdnjimfaaaPackTF

namespace Go.Proofs.Vent
open Go.V Go.Proofs

set_option maxHeartbeats 8000000 in
theorem den7 (n:Nt) (wt:List Int) (B:Nat) (hwl:wt.length<9223372036854775808):DN 7 [.agg n.enc,.list 1 (wt.map encI),.int .u16 B] (.bool true):=by
  refine mk Try.func7 Try.call7 rfl rfl ?_
  have h39:DN 39 [.agg n.enc,.list 0 [],.list 1 (wt.map encI)] (.int .i64 (n.lookE [] wt true)):=(den39 n [] wt (by decide) hwl).wkargs (.cons (.refl _) (.cons (.of (.nil 0 1)) (.cons (.refl _) .nil)))
  have h26:=den26 n wt hwl
  by_cases he:n.lookE [] wt true=0
  rotate_left
  · have hR:n.blanksR wt=([],n.lookE [] wt true):=by unfold Nt.blanksR;rw [if_neg he]
    rw [hR] at h26
    refine ⟨_,rfl,_,h26,?_⟩
    refine ⟨_,rfl,_,h39,?_⟩
    refine ⟨fun _=>?_,fun h=>?_⟩
    · refine ⟨fun _=>?_,fun h=>(xEq h).elim⟩
      refine ⟨fun _=>?_,fun h=>Bool.noConfusion (show true=false from h)⟩
      exact ⟨_,rfl,_,den23,rfl⟩
    · have h:(n.lookE [] wt true != 0)=false:=h
      exact absurd (by simpa using h) he
  obtain ⟨hn,_,hw⟩:=Nt.lookE_ok he
  have hw:=hw rfl
  have hc:=Nt.check_of he
  have hin:=Nt.wantedE_in hw
  have hok:=Nt.look_ok hn [] hin
  have hcut:=NetL.cut_ok hok (look_free hw) (look_open hn wt) (fun l=>sep_iff hn hin l)
  have h40:=den40 n hn B
  rw [flK_cast] at h40
  have hflen:(flN n B).length≤n.pipes.length:=by unfold flN;exact Nat.le_trans (List.length_filter_le _ _) (by simp)
  have h12:=hn.p
  have hother:=blanks_ok hc (flN_asc n B) (fun j hj=>flN_lt hj) (fun j hj=>flN_weld hj)
  have hap:n.apartB (castL (flN n B)) wt=(n.look (castL (flN n B)) wt).separate:=by unfold Nt.apartB;rw [if_pos hother]
  have h41:=den41 n (castL (flN n B)) wt (by rw [castL_len];omega) hwl hin
  rw [hap] at h41
  rw [he] at h39
  have hR:n.blanksR wt=(match (n.look [] wt).cut with | none=>([],9) | some l=>(castL l,0)):=by unfold Nt.blanksR;rw [if_pos he];cases (n.look [] wt).cut <;> rfl
  cases hx:(n.look [] wt).cut with
  | none =>
    rw [hx] at hcut hR
    have hR:n.blanksR wt=([],9):=hR
    rw [hR] at h26
    have hsep:(n.look (castL (flN n B)) wt).separate=false:=by
      cases hs:(n.look (castL (flN n B)) wt).separate with
      | false=>rfl
      | true=>exact absurd bset_fl (hcut _ ((sep_iff hn hin _).1 hs))
    rw [hsep] at h41
    refine ⟨_,rfl,_,h26,?_⟩
    refine ⟨_,rfl,_,h39,?_⟩
    refine ⟨fun h=>absurd h (by decide),fun _=>?_⟩
    refine ⟨_,rfl,_,h40,?_⟩
    refine ⟨fun _=>?_,fun h=>absurd h (by decide)⟩
    refine ⟨fun _=>?_,fun h=>absurd h (by decide)⟩
    refine ⟨_,rfl,_,h41,?_⟩
    refine ⟨fun _=>?_,fun h=>absurd h (by decide)⟩
    exact ⟨_,rfl,_,den23,rfl⟩
  | some l =>
    rw [hx] at hcut hR
    obtain ⟨T,hT,hfd,_⟩:=hcut
    have hR:n.blanksR wt=(castL l,0):=hR
    rw [hR] at h26
    have hll:l.length≤n.pipes.length:=by
      have h1:=many_list (asc_nodup hfd.asc) hfd.lt
      have h2:=(n.look [] wt).many_le (bset l)
      rw [look_plen] at h2
      omega
    have hlb:=blanks_ok hc hfd.asc (fun j hj=>by have:=hfd.lt j hj;rwa [look_plen] at this) (fun j hj=>by
      have hlt:=hfd.lt j hj
      have hp:=List.getElem?_eq_getElem hlt
      rw [look_weld hp]
      exact hfd.fl j _ hj hp)
    have h42:=den42 n (castL l) (by rw [castL_len];omega)
    rw [hlb] at h42
    have h41l:=den41 n (castL l) wt (by rw [castL_len];omega) hwl hin
    have hapl:n.apartB (castL l) wt=true:=by unfold Nt.apartB;rw [if_pos hlb];exact (sep_iff hn hin l).2 hfd.sep
    rw [hapl] at h41l
    have hol:(((castL (flN n B)).map encI).length:Int)=(flN n B).length:=by simp [castL]
    have hbl:(((castL l).map encI).length:Int)=l.length:=by simp [castL]
    refine ⟨_,rfl,_,h26,?_⟩
    refine ⟨_,rfl,_,h39,?_⟩
    refine ⟨fun h=>Bool.noConfusion (show false=true from h),fun _=>?_⟩
    refine ⟨_,rfl,_,h40,?_⟩
    refine ⟨fun h=>Bool.noConfusion (show false=true from h),fun _=>?_⟩
    refine ⟨_,rfl,_,h42,?_⟩
    refine ⟨fun _=>?_,fun h=>Bool.noConfusion (show true=false from h)⟩
    refine ⟨_,rfl,_,h41l,?_⟩
    refine ⟨fun _=>?_,fun h=>Bool.noConfusion (show true=false from h)⟩
    refine ⟨fun q=>?_,fun q=>?_⟩
    · exact ⟨_,rfl,_,den23,rfl⟩
    · have q:=of_decide_eq_false q
      rw [hol,hbl] at q
      have hsep:(n.look (castL (flN n B)) wt).separate=false:=by
        cases hs:(n.look (castL (flN n B)) wt).separate with
        | false=>rfl
        | true =>
          exfalso
          have h1:=hT.most _ ((sep_iff hn hin _).1 hs) bset_fl
          rw [many_list (asc_nodup (flN_asc n B)) (fun j hj=>by rw [look_plen];exact flN_lt hj)] at h1
          have:=hfd.len
          omega
      rw [hsep] at h41
      refine ⟨_,rfl,_,h41,?_⟩
      refine ⟨fun _=>?_,fun h=>Bool.noConfusion (show true=false from h)⟩
      exact ⟨_,rfl,_,den23,rfl⟩

end Go.Proofs.Vent
