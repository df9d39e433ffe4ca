/- The document's errors of blanks and of wanted tanks; The document's Reached: what is joined to a tank; The document's Joined; lists of marks. No condition. -/
import Derived.Test.YtfdflbdnjimfaaaPackTD
import Derived.Test.YtfdflbdnjimfaaaPackTC

namespace Go.Proofs.Vent
open Go.V Go.Proofs

theorem hasI_drop {l:List Int} {v:Int} {i:Nat} (hi:i<l.length):(l.drop i).any (fun x=>v==x)=(v==l[i] || (l.drop (i+1)).any (fun x=>v==x)):=by
 rw [List.drop_eq_getElem_cons hi,List.any_cons]

theorem den46 (l:List Int) (v:Int) (hl:l.length<9223372036854775808):DN 46 [.list 1 (l.map encI),.int .i64 v] (.bool (hasI l v)):=by
 refine mk Try.func46 Try.call46 rfl rfl ?_
 have hlen:((l.map encI).length:Int)=l.length:=by simp
 refine ⟨[0,1,5],0,[],fun σ=>∃ i:Nat,i≤l.length∧hasI l v=(l.drop i).any (fun x=>v==x)∧σ=⟨[(0,.list 1 (l.map encI)),(1,.int .i64 v),(5,.int .i64 i)],[],.non⟩,
  fun σ=>((l.length:Int) - slotI 5 σ).toNat,rfl,⟨rfl,rfl⟩,⟨0,Nat.zero_le _,rfl,rfl⟩,?_⟩
 rintro σ ⟨i,hi',hf,rfl⟩
 refine ⟨fun h1=>?_,fun h1=>?_⟩
 ·have h1:=of_decide_eq_true h1
  rw [hlen] at h1
  have hi':i<l.length:=by omega
  rw [hasI_drop hi'] at hf
  refine ⟨by omega,_,encI_get hi',?_⟩
  refine ⟨fun h2=>?_,fun h2=>?_⟩
  ·have h2:(l[i]==v)=true:=h2
   have h2:(v==l[i])=true:=by simp at h2 ⊢;exact h2.symm
   rw [h2] at hf
   show some (D.bool true)=some (D.bool _)
   rw [hf]
   rfl
  ·have h2:(l[i]==v)=false:=h2
   have h2:(v==l[i])=false:=by simp at h2 ⊢;exact fun h=>h2 h.symm
   rw [h2,Bool.false_or] at hf
   refine ⟨(i:Int)+1,wrap64 (by omega) (by omega),?_⟩
   refine ⟨⟨rfl,rfl⟩,⟨i+1,hi',hf,rfl⟩,?_⟩
   show ((l.length:Int) - ((i:Int)+1)).toNat<((l.length:Int) - (i:Int)).toNat
   omega
 ·have h1:=of_decide_eq_false h1
  rw [hlen] at h1
  show some (D.bool false)=some (D.bool _)
  rw [hf,List.drop_of_length_le (by omega)]
  rfl

theorem pipe_weld {n:Nt} {v:Int} {p:Rp} (hp:n.pipes[v.toNat]?=some p):n.weldB v=p.welded:=by unfold Nt.weldB;rw [hp]
theorem tank_keep {n:Nt} {v:Int} {t:Tk} (ht:n.tanks[v.toNat]?=some t):n.keepB v=t.kept:=by unfold Nt.keepB;rw [ht]

set_option maxHeartbeats 4000000 in
theorem den42 (n:Nt) (bl:List Int) (hl:bl.length<9223372036854775808):DN 42 [.agg n.enc,.list 1 (bl.map encI)] (.int .i64 (n.lookE bl [] false)):=by
 refine mk Try.func42 Try.call42 rfl rfl ?_
 have hlen:((bl.map encI).length:Int)=bl.length:=by simp
 have hpl:((n.pipes.map Rp.enc).length:Int)=n.pipes.length:=by simp
 refine ⟨_,rfl,_,den16 n,?_⟩
 refine ⟨[1,2,7,8],1,[],fun σ=>∃ (i:Nat) (e:Int),i≤bl.length∧(e=0→n.check.2.2=0∧n.blanksE bl=eachF n.weldB n.pipes.length bl (bl.length - i) i)∧(e≠0→n.lookE bl [] false=e) ∧
  σ=⟨[(1,.list 1 (bl.map encI)),(2,.loc 0 0),(7,.int .i64 e),(8,.int .i64 i)],[.flat false n.enc],.non⟩,
  fun σ=>((bl.length:Int) - slotI 8 σ).toNat,rfl,⟨rfl,rfl⟩,⟨0,n.check.2.2,Nat.zero_le _,fun h=>⟨h,rfl⟩,fun h=>by unfold Nt.lookE;rw [if_pos h],rfl⟩,?_⟩
 rintro σ ⟨i,e,hi,he0,he1,rfl⟩
 refine ⟨fun h1=>?_,fun h1=>?_⟩
 rotate_left
 ·have h1:=of_decide_eq_false h1
  rw [hlen] at h1
  show some (D.int .i64 e)=some (D.int .i64 _)
  by_cases h:e=0
  ·obtain ⟨h2,h3⟩:=he0 h
   rw [show bl.length - i=0 by omega] at h3
   have:n.lookE bl [] false=0:=by unfold Nt.lookE;rw [if_neg (by simpa using h2),h3];rfl
   rw [this,h]
  ·rw [he1 h]
 have h1:=of_decide_eq_true h1
 rw [hlen] at h1
 have hi':i<bl.length:=by omega
 refine ⟨fun h2=>?_,fun h2=>?_⟩
 rotate_left
 ·have h2:(e==0)=false:=h2
  show some (D.int .i64 e)=some (D.int .i64 _)
  rw [he1 (by simpa using h2)]
 have h2:(e==0)=true:=h2
 obtain rfl:e=0:=by simpa using h2
 obtain ⟨hc,hrec⟩:=he0 rfl
 have hok:=Nt.check_ok hc
 have h12:=hok.p
 have less:((bl.length:Int) - ((i:Int)+1)).toNat<((bl.length:Int) - (i:Int)).toNat:=by omega
 obtain ⟨v,hv⟩:∃ v,bl[i]'hi'=v:=⟨_,rfl⟩
 have hrow:=encI_get hi'
 rw [hv] at hrow
 have hdv:dAt bl i=v:=by rw [dAt_get hi',hv]
 have hst:n.blanksE bl=if offB n.pipes.length v=true then some 4 else if 0<i∧v≤dAt bl (i - 1) then some 2 else if n.weldB v=true then some 9 else eachF n.weldB n.pipes.length bl (bl.length - (i+1)) (i+1):=by
  rw [hrec,show bl.length - i=(bl.length - (i+1))+1 by omega,← hdv]
  rfl
 have bad:∀ e':Int,n.blanksE bl=some e'→n.lookE bl [] false=e':=fun e' h=>by unfold Nt.lookE;rw [if_neg (by simpa using hc),h]
 have go:∀ e':Int,e'≠0→n.blanksE bl=some e'→∀ (e0:e'=0),n.check.2.2=0∧n.blanksE bl=eachF n.weldB n.pipes.length bl (bl.length - (i+1)) (i+1):=fun e' h _ h0=>absurd h0 h
 have h54:DN 54 [.int .i64 v,.int .i64 ((n.pipes.map Rp.enc).length:Int)] (.bool (!(offB n.pipes.length v))):=by
  have h:=den54 v ((n.pipes.map Rp.enc).length:Int)
  rw [show offB ((n.pipes.map Rp.enc).length:Int) v=offB n.pipes.length v by rw [hpl]] at h
  exact h
 refine Or.inl ⟨by kernel_rfl,?_⟩
 refine ⟨by omega,_,hrow,?_⟩
 refine ⟨_,rfl,_,h54,?_⟩
 refine ⟨fun h3=>?_,fun h3=>?_⟩
 ·have h3:(!(!(offB n.pipes.length v)))=true:=h3
  rw [Bool.not_not] at h3
  rw [if_pos h3] at hst
  refine ⟨(i:Int)+1,wrap64 (by omega) (by omega),?_⟩
  exact ⟨⟨rfl,rfl⟩,⟨i+1,4,hi',go 4 (by decide) hst,fun _=>bad 4 hst,rfl⟩,less⟩
 have h3:(!(!(offB n.pipes.length v)))=false:=h3
 rw [Bool.not_not] at h3
 rw [if_neg (by rw [h3];decide)] at hst
 obtain ⟨hv0,hv1⟩:=offB_false h3
 have hvl:v.toNat<n.pipes.length:=by omega
 obtain ⟨p,hp⟩:∃ p,n.pipes[v.toNat]?=some p:=⟨_,List.getElem?_eq_getElem hvl⟩
 have hprow:(n.pipes.map Rp.enc)[v.toNat]?=some p.enc:=by rw [List.getElem?_map,hp];rfl
 have hw:=pipe_weld (n:=n) hp
 rw [hw] at hst
 have tail:∀ (hst:n.blanksE bl=if p.welded=true then some 9 else eachF n.weldB n.pipes.length bl (bl.length - (i+1)) (i+1)) (w:Bool),p.welded=w→(w=true→n.blanksE bl=some 9)∧(w=false→n.blanksE bl=eachF n.weldB n.pipes.length bl (bl.length - (i+1)) (i+1)):=by
  intro h w hw
  rw [hw] at h
  refine ⟨fun e=>?_,fun e=>?_⟩
  ·subst e;exact h
  ·subst e;exact h
 refine Or.inl ⟨by kernel_rfl,?_⟩
 refine ⟨fun h4=>?_,fun h4=>?_⟩
 ·have h4:(i:Int) > 0:=of_decide_eq_true h4
  refine ⟨by omega,_,hrow,?_⟩
  have hrow':=encI_get (l:=bl) (i:=i - 1) (by omega)
  rw [← dAt_get (by omega)] at hrow'
  have ek:((i:Int) - 1)=((i - 1:Nat):Int):=by omega
  rw [← ek] at hrow'
  refine ⟨(i:Int) - 1,wrap64 (by omega) (by omega),?_⟩
  refine ⟨by omega,_,hrow',?_⟩
  refine ⟨fun h5=>?_,fun h5=>?_⟩
  ·have h5:v≤dAt bl (i - 1):=of_decide_eq_true h5
   rw [if_pos ⟨by omega,h5⟩] at hst
   refine ⟨(i:Int)+1,wrap64 (by omega) (by omega),?_⟩
   exact ⟨⟨rfl,rfl⟩,⟨i+1,2,hi',go 2 (by decide) hst,fun _=>bad 2 hst,rfl⟩,less⟩
  ·have h5:¬ v≤dAt bl (i - 1):=of_decide_eq_false h5
   rw [if_neg (fun c=>h5 c.2)] at hst
   refine Or.inl ⟨by kernel_rfl,?_⟩
   refine ⟨by omega,_,hrow,?_⟩
   refine ⟨hv0,_,hprow,?_⟩
   refine ⟨fun h6=>?_,fun h6=>?_⟩
   ·have h6:p.welded=true:=h6
    refine ⟨(i:Int)+1,wrap64 (by omega) (by omega),?_⟩
    exact ⟨⟨rfl,rfl⟩,⟨i+1,9,hi',go 9 (by decide) ((tail hst _ h6).1 rfl),fun _=>bad 9 ((tail hst _ h6).1 rfl),rfl⟩,less⟩
   ·have h6:p.welded=false:=h6
    refine ⟨(i:Int)+1,wrap64 (by omega) (by omega),?_⟩
    exact ⟨⟨rfl,rfl⟩,⟨i+1,0,hi',fun _=>⟨hc,(tail hst _ h6).2 rfl⟩,fun h=>absurd rfl h,rfl⟩,less⟩
 ·have h4:¬ (i:Int) > 0:=of_decide_eq_false h4
  rw [if_neg (fun c=>h4 (by omega))] at hst
  refine Or.inl ⟨by kernel_rfl,?_⟩
  refine ⟨by omega,_,hrow,?_⟩
  refine ⟨hv0,_,hprow,?_⟩
  refine ⟨fun h6=>?_,fun h6=>?_⟩
  ·have h6:p.welded=true:=h6
   refine ⟨(i:Int)+1,wrap64 (by omega) (by omega),?_⟩
   exact ⟨⟨rfl,rfl⟩,⟨i+1,9,hi',go 9 (by decide) ((tail hst _ h6).1 rfl),fun _=>bad 9 ((tail hst _ h6).1 rfl),rfl⟩,less⟩
  ·have h6:p.welded=false:=h6
   refine ⟨(i:Int)+1,wrap64 (by omega) (by omega),?_⟩
   exact ⟨⟨rfl,rfl⟩,⟨i+1,0,hi',fun _=>⟨hc,(tail hst _ h6).2 rfl⟩,fun h=>absurd rfl h,rfl⟩,less⟩

def Nt.wantZ (n:Nt) (wt:List Int):Int:=match n.wantedE wt with | some e=>e | none=>0

set_option maxHeartbeats 4000000 in
theorem den48 (n:Nt) (wt:List Int) (hl:wt.length<9223372036854775808):DN 48 [.agg n.enc,.list 1 (wt.map encI)] (.int .i64 (n.wantZ wt)):=by
 refine mk Try.func48 Try.call48 rfl rfl ?_
 have hlen:((wt.map encI).length:Int)=wt.length:=by simp
 have htl:((n.tanks.map Tk.enc).length:Int)=n.tanks.length:=by simp
 refine ⟨fun h1=>?_,fun h1=>?_⟩
 ·have h1:(((wt.map encI).length:Int)==0)=true:=h1
  rw [hlen] at h1
  have h1:wt.length=0:=by simpa using h1
  show some (D.int .i64 3)=some (D.int .i64 _)
  unfold Nt.wantZ Nt.wantedE
  rw [if_pos h1]
 have h1:(((wt.map encI).length:Int)==0)=false:=h1
 rw [hlen] at h1
 have h1:¬ wt.length=0:=by simpa using h1
 have hE:n.wantedE wt=eachF n.keepB n.tanks.length wt wt.length 0:=by unfold Nt.wantedE;rw [if_neg h1]
 refine ⟨[1,2,5],1,[],fun σ=>∃ (i:Nat),i≤wt.length∧n.wantedE wt=eachF n.keepB n.tanks.length wt (wt.length - i) i ∧
  σ=⟨[(1,.list 1 (wt.map encI)),(2,.loc 0 0),(5,.int .i64 i)],[.flat false n.enc],.non⟩,
  fun σ=>((wt.length:Int) - slotI 5 σ).toNat,rfl,⟨rfl,rfl⟩,⟨0,Nat.zero_le _,hE,rfl⟩,?_⟩
 rintro σ ⟨i,hi,hrec,rfl⟩
 have fin:∀ e':Int,n.wantedE wt=some e'→some (D.int .i64 e')=some (D.int .i64 (n.wantZ wt)):=fun e' h=>by unfold Nt.wantZ;rw [h]
 refine ⟨fun h2=>?_,fun h2=>?_⟩
 rotate_left
 ·have h2:=of_decide_eq_false h2
  rw [hlen] at h2
  rw [show wt.length - i=0 by omega] at hrec
  show some (D.int .i64 0)=some (D.int .i64 _)
  unfold Nt.wantZ
  rw [hrec]
  rfl
 have h2:=of_decide_eq_true h2
 rw [hlen] at h2
 have hi':i<wt.length:=by omega
 have less:((wt.length:Int) - ((i:Int)+1)).toNat<((wt.length:Int) - (i:Int)).toNat:=by omega
 obtain ⟨v,hv⟩:∃ v,wt[i]'hi'=v:=⟨_,rfl⟩
 have hrow:=encI_get hi'
 rw [hv] at hrow
 have hdv:dAt wt i=v:=by rw [dAt_get hi',hv]
 have hst:n.wantedE wt=if offB n.tanks.length v=true then some 4 else if 0<i∧v≤dAt wt (i - 1) then some 2 else if n.keepB v=true then some 9 else eachF n.keepB n.tanks.length wt (wt.length - (i+1)) (i+1):=by
  rw [hrec,show wt.length - i=(wt.length - (i+1))+1 by omega,← hdv]
  rfl
 have h54:DN 54 [.int .i64 v,.int .i64 ((n.tanks.map Tk.enc).length:Int)] (.bool (!(offB n.tanks.length v))):=by
  have h:=den54 v ((n.tanks.map Tk.enc).length:Int)
  rw [show offB ((n.tanks.map Tk.enc).length:Int) v=offB n.tanks.length v by rw [htl]] at h
  exact h
 refine Or.inl ⟨by kernel_rfl,?_⟩
 refine ⟨by omega,_,hrow,?_⟩
 refine ⟨_,rfl,_,h54,?_⟩
 refine ⟨fun h3=>?_,fun h3=>?_⟩
 ·have h3:(!(!(offB n.tanks.length v)))=true:=h3
  rw [Bool.not_not] at h3
  rw [if_pos h3] at hst
  exact fin 4 hst
 have h3:(!(!(offB n.tanks.length v)))=false:=h3
 rw [Bool.not_not] at h3
 rw [if_neg (by rw [h3];decide)] at hst
 obtain ⟨hv0,hv1⟩:=offB_false h3
 have hvl:v.toNat<n.tanks.length:=by omega
 obtain ⟨t,ht⟩:∃ t,n.tanks[v.toNat]?=some t:=⟨_,List.getElem?_eq_getElem hvl⟩
 have htrow:(n.tanks.map Tk.enc)[v.toNat]?=some t.enc:=by rw [List.getElem?_map,ht];rfl
 have hw:=tank_keep (n:=n) ht
 rw [hw] at hst
 refine Or.inl ⟨by kernel_rfl,?_⟩
 refine ⟨fun h4=>?_,fun h4=>?_⟩
 ·have h4:(i:Int) > 0:=of_decide_eq_true h4
  refine ⟨by omega,_,hrow,?_⟩
  have hrow':=encI_get (l:=wt) (i:=i - 1) (by omega)
  rw [← dAt_get (by omega)] at hrow'
  have ek:((i:Int) - 1)=((i - 1:Nat):Int):=by omega
  rw [← ek] at hrow'
  refine ⟨(i:Int) - 1,wrap64 (by omega) (by omega),?_⟩
  refine ⟨by omega,_,hrow',?_⟩
  refine ⟨fun h5=>?_,fun h5=>?_⟩
  ·have h5:v≤dAt wt (i - 1):=of_decide_eq_true h5
   rw [if_pos ⟨by omega,h5⟩] at hst
   exact fin 2 hst
  ·have h5:¬ v≤dAt wt (i - 1):=of_decide_eq_false h5
   rw [if_neg (fun c=>h5 c.2)] at hst
   refine Or.inl ⟨by kernel_rfl,?_⟩
   refine ⟨by omega,_,hrow,?_⟩
   refine ⟨hv0,_,htrow,?_⟩
   refine ⟨fun h6=>?_,fun h6=>?_⟩
   ·have h6:t.kept=true:=h6
    rw [if_pos h6] at hst
    exact fin 9 hst
   ·have h6:t.kept=false:=h6
    rw [if_neg (by rw [h6];decide)] at hst
    refine ⟨(i:Int)+1,wrap64 (by omega) (by omega),?_⟩
    exact ⟨⟨rfl,rfl⟩,⟨i+1,hi',hst,rfl⟩,less⟩
 ·have h4:¬ (i:Int) > 0:=of_decide_eq_false h4
  rw [if_neg (fun c=>h4 (by omega))] at hst
  refine Or.inl ⟨by kernel_rfl,?_⟩
  refine ⟨by omega,_,hrow,?_⟩
  refine ⟨hv0,_,htrow,?_⟩
  refine ⟨fun h6=>?_,fun h6=>?_⟩
  ·have h6:t.kept=true:=h6
   rw [if_pos h6] at hst
   exact fin 9 hst
  ·have h6:t.kept=false:=h6
   rw [if_neg (by rw [h6];decide)] at hst
   refine ⟨(i:Int)+1,wrap64 (by omega) (by omega),?_⟩
   exact ⟨⟨rfl,rfl⟩,⟨i+1,hi',hst,rfl⟩,less⟩

theorem Nt.lookE_true {n:Nt} {bl wt:List Int}:n.lookE bl wt true=if n.lookE bl [] false=0 then n.wantZ wt else n.lookE bl [] false:=by
 unfold Nt.lookE Nt.wantZ
 by_cases hc:n.check.2.2≠0
 ·rw [if_pos hc,if_pos hc,if_neg hc]
 ·rw [if_neg hc,if_neg hc]
  cases hb:n.blanksE bl with
  | none=>rfl
  | some e =>
   have:=eachF_pos _ _ _ _ _ _ hb
   simp only
   rw [if_neg this]

theorem den65 (n:Nt) (bl wt:List Int) (hbl:bl.length<9223372036854775808) (hwl:wt.length<9223372036854775808):DN 65 [.agg n.enc,.list 1 (bl.map encI),.list 1 (wt.map encI)] (.int .i64 (n.lookE bl wt true)):=by
 refine mk Try.func65 Try.call65 rfl rfl ?_
 refine ⟨_,rfl,_,den42 n bl hbl,?_⟩
 rw [Nt.lookE_true]
 refine ⟨fun h1=>?_,fun h1=>?_⟩
 ·have h1:(n.lookE bl [] false==0)=true:=h1
  rw [if_pos (by simpa using h1)]
  exact ⟨_,rfl,_,den48 n wt hwl,rfl⟩
 ·have h1:(n.lookE bl [] false==0)=false:=h1
  rw [if_neg (by simpa using h1)]
  rfl
theorem den39 (n:Nt) (bl wt:List Int) (hbl:bl.length<9223372036854775808) (hwl:wt.length<9223372036854775808):DN 39 [.agg n.enc,.list 1 (bl.map encI),.list 1 (wt.map encI)] (.int .i64 (n.lookE bl wt true)):=by
 refine mk Try.func39 Try.call39 rfl rfl ?_
 refine ⟨_,rfl,_,den42 n bl hbl,?_⟩
 rw [Nt.lookE_true]
 refine ⟨fun h1=>?_,fun h1=>?_⟩
 ·have h1:(n.lookE bl [] false==0)=true:=h1
  rw [if_pos (by simpa using h1)]
  exact ⟨_,rfl,_,den48 n wt hwl,rfl⟩
 ·have h1:(n.lookE bl [] false==0)=false:=h1
  rw [if_neg (by simpa using h1)]
  rfl

end Go.Proofs.Vent

namespace Go.Proofs.Vent
open Go.V Go.Proofs

theorem Wk.rows' {sz:Nat} {rows rows':List (List D)} (h:rows.map (·.map normB)=rows'):Wk (.list sz rows) (.list sz rows'):=by subst h;exact .rows sz rows

def rowsB (m s:Nat):List (List D):=(List.range m).map fun i=>[bD (s.testBit i)]
def rowsT (m s:Nat):List (List D):=(List.range m).map fun i=>[D.bool (s.testBit i)]
theorem rowsB_len (m s:Nat):(rowsB m s).length=m:=by simp [rowsB]
theorem rowsT_len (m s:Nat):(rowsT m s).length=m:=by simp [rowsT]
theorem rowsB_get {m s i:Nat} (h:i<m):(rowsB m s)[i]?=some [bD (s.testBit i)]:=by simp [rowsB,h]
theorem rowsT_get {m s i:Nat} (h:i<m):(rowsT m s)[i]?=some [D.bool (s.testBit i)]:=by simp [rowsT,h]
theorem rowsB_norm (m s:Nat):(rowsB m s).map (·.map normB)=rowsT m s:=by
 unfold rowsB rowsT
 rw [List.map_map]
 refine List.map_congr_left fun i _=>?_
 show [normB (bD (s.testBit i))]=_
 cases s.testBit i <;> rfl
theorem rowsB_set {m s i:Nat} (h:i<m):(rowsB m s).set i [.tt]=rowsB m (s ||| 2^i):=by
 apply List.ext_getElem?
 intro j
 rw [List.getElem?_set]
 simp only [rowsB,List.getElem?_map,List.length_map,List.length_range]
 by_cases e:i=j
 ·subst e
  rw [if_pos rfl,if_pos h]
  simp [h,Nat.testBit_or,Nat.testBit_two_pow,bD]
 ·rw [if_neg e]
  by_cases hj:j<m
  ·simp only [List.getElem?_range hj,Option.map_some,Nat.testBit_or,pow_bit]
   rw [show decide (j=i)=false from decide_eq_false (fun h=>e h.symm),Bool.or_false]
  ·simp [hj]
theorem rowsB_zero (m:Nat):List.replicate m [D.ff]=rowsB m 0:=by
 apply List.ext_getElem?
 intro j
 simp only [rowsB,List.getElem?_replicate,List.getElem?_map]
 by_cases hj:j<m <;> simp [hj,bD]

def unsN:Nat→Nat→Nat
 | 0,_=>0
 | m+1,s=>unsN m s+(if s.testBit m=true then 0 else 1)
def isFF:List D→Nat
 | [.ff]=>1
 | _=>0
def ffs:List (List D)→Nat
 | []=>0
 | r::rs=>isFF r+ffs rs
theorem ffs_app:∀ (a b:List (List D)),ffs (a++b)=ffs a+ffs b
 | [],b=>by simp [ffs]
 | r::a,b=>by simp only [List.cons_append,ffs,ffs_app a b];omega
theorem ffs_rows:∀ (m s:Nat),ffs (rowsB m s)=unsN m s
 | 0,s=>rfl
 | m+1,s=>by
  have e:rowsB (m+1) s=rowsB m s++[[bD (s.testBit m)]]:=by simp [rowsB,List.range_succ]
  rw [e,ffs_app,ffs_rows m s]
  simp only [unsN,ffs]
  cases s.testBit m <;> simp [isFF,bD]
theorem unsN_le {s s':Nat} (h:Sub s s'):∀ m,unsN m s'≤unsN m s
 | 0=>Nat.le_refl _
 | m+1=>by
  have ih:=unsN_le h m
  simp only [unsN]
  cases hs:s.testBit m with
  | true=>rw [h m hs];simpa using ih
  | false=>split <;> simp <;> omega
theorem unsN_lt {s s':Nat} (h:Sub s s') {i:Nat} (h1:s.testBit i=false) (h2:s'.testBit i=true):∀ m,i<m→unsN m s'<unsN m s
 | 0,hi=>by omega
 | m+1,hi=>by
  simp only [unsN]
  by_cases e:i=m
  ·subst e
   have:=unsN_le h i
   rw [if_pos h2,if_neg (by rw [h1];decide)]
   omega
  ·have ih:=unsN_lt h h1 h2 m (by omega)
   cases hs:s.testBit m with
   | true=>rw [h m hs];simpa using ih
   | false=>split <;> simp <;> omega

structure Jn (n:Nt) (bl:List Int) (k j:Nat):Prop where
 self:j.testBit k=true
 shut:∀ i p,n.pipes[i]?=some p→hasI bl (i:Nat)=false→j.testBit p.fr.toNat=j.testBit p.to.toNat
 least:∀ s,s.testBit k=true→(∀ i p,n.pipes[i]?=some p→hasI bl (i:Nat)=false→s.testBit p.fr.toNat=s.testBit p.to.toNat)→Sub j s
theorem look_pipe (n:Nt) (bl wt:List Int) (i:Nat):(n.look bl wt).pipes[i]?=(n.pipes[i]?).map Rp.pp:=by simp [Nt.look]
theorem look_op {n:Nt} {bl wt:List Int} (h12:n.pipes.length≤12) (i:Nat):(n.look bl wt).opN i=(decide (i<n.pipes.length) && !(hasI bl i)):=by
 unfold NetL.opN Nt.look
 by_cases hi:i<12
 ·simp [hi,opF]
 ·simp [hi,show ¬ i<n.pipes.length by omega]
theorem look_adj {n:Nt} (h:n.Ok) (bl wt:List Int) {u v:Nat}:(n.look bl wt).adj u v↔∃ i p,n.pipes[i]?=some p∧hasI bl (i:Nat)=false∧(p.fr.toNat=u∧p.to.toNat=v∨p.fr.toNat=v∧p.to.toNat=u):=by
 constructor
 ·rintro ⟨i,q,hq,ho,he⟩
  rw [look_pipe] at hq
  cases hp:n.pipes[i]? with
  | none=>rw [hp] at hq;cases hq
  | some p =>
   rw [hp] at hq
   cases hq
   rw [look_op h.p] at ho
   simp only [Bool.and_eq_true,Bool.not_eq_true'] at ho
   exact ⟨i,p,hp,ho.2,he⟩
 ·rintro ⟨i,p,hp,ho,he⟩
  refine ⟨i,p.pp,by rw [look_pipe,hp];rfl,?_,he⟩
  rw [look_op h.p,ho]
  have:=(List.getElem?_eq_some_iff.1 hp).1
  simp [this]
theorem joined_jn {n:Nt} (h:n.Ok) (bl wt:List Int) (hw:(n.look bl wt).Ok) {k:Nat} (hk:k<n.tanks.length):Jn n bl k ((n.look bl wt).joined (2^k)):=by
 have h7:=h.t7
 have hs:2^k<2^7:=Nat.pow_lt_pow_right (by decide) (by omega)
 have hiff:=fun v=>NetL.joined_iff hw hs v
 have hiff':∀ v,((n.look bl wt).joined (2^k)).testBit v=true↔(n.look bl wt).Con k v:=by
  intro v
  rw [hiff v]
  constructor
  ·rintro ⟨u,hu,hc⟩
   rw [pow_bit] at hu
   have:u=k:=of_decide_eq_true hu
   rw [← this];exact hc
  ·intro hc
   exact ⟨k,by rw [pow_bit];simp,hc⟩
 refine ⟨(hiff' k).2 (.refl k),fun i p hp ho=>?_,fun s hs0 hcl v hv=>?_⟩
 ·have ha:(n.look bl wt).adj p.fr.toNat p.to.toNat:=(look_adj h bl wt).2 ⟨i,p,hp,ho,.inl ⟨rfl,rfl⟩⟩
  apply Bool.eq_iff_iff.2
  rw [hiff',hiff']
  exact ⟨fun hc=>.step hc ha,fun hc=>.step hc (NetL.adj_symm ha)⟩
 ·have hc:=(hiff' v).1 hv
  refine hc.closed (X:=fun v=>s.testBit v=true) (fun u v hu ha=>?_) hs0
  obtain ⟨i,p,hp,ho,he⟩:=(look_adj h bl wt).1 ha
  have:=hcl i p hp ho
  rcases he with ⟨rfl,rfl⟩ | ⟨rfl,rfl⟩
  ·rw [← this];exact hu
  ·rw [this];exact hu

def muR (σ:St):Nat:=(match σ.boxes[(1:Nat)]? with | some (.rows _ _ _ rs)=>2*ffs rs | _=>0)+(match Go.V.look σ.tmps 8 with | some .tt=>1 | _=>0)

set_option maxHeartbeats 16000000 in
theorem den47 (n:Nt) (hn:n.Ok) (bl:List Int) (hbl:bl.length<9223372036854775808) (k:Nat) (hk:k<n.tanks.length) {j:Nat} (hj:Jn n bl k j) :
    DN 47 [.agg n.enc,.list 1 (bl.map encI),.int .i64 k] (.list 1 (rowsT n.tanks.length j)):=by
  have h7:=hn.t7
  have h12:=hn.p
  have htl:((n.tanks.map Tk.enc).length:Int)=n.tanks.length:=by simp
  have hpl:((n.pipes.map Rp.enc).length:Int)=n.pipes.length:=by simp
  obtain ⟨m,hm⟩:∃ m,n.tanks.length=m:=⟨_,rfl⟩
  rw [hm] at htl h7 hk ⊢
  refine mkW Try.func47 Try.call47 rfl rfl ?_
  refine ⟨Int.natCast_nonneg _,rfl,by rw [htl];show (1:Int)*_≤((mostBytes:Nat):Int);unfold mostBytes;omega,m,by rw [htl];exact Int.toNat_natCast _,_,rowsB_zero m,?_⟩
  refine ⟨by omega,by omega,k,Nat.zero_add k,?_⟩
  refine ⟨_,rowsB_get hk,Nat.le_refl 1,_,rowsB_set hk,?_⟩
  refine ⟨[1,3,7,8],2,[],fun σ=>∃ s:Nat,s.testBit k=true∧Sub s j ∧
   (σ=⟨[(1,.list 1 (bl.map encI)),(3,.loc 0 0),(7,.sl 1 0 0 m),(8,.tt)],[.flat false n.enc,.rows false 0 1 (rowsB m s)],.non⟩ ∨
    (∀ i p,n.pipes[i]?=some p→hasI bl (i:Nat)=false→s.testBit p.fr.toNat=s.testBit p.to.toNat)∧σ=⟨[(1,.list 1 (bl.map encI)),(3,.loc 0 0),(7,.sl 1 0 0 m),(8,.ff)],[.flat false n.enc,.rows false 0 1 (rowsB m s)],.non⟩),
   muR,rfl,⟨rfl,rfl⟩,⟨0 ||| 2^k,by rw [Nat.zero_or,pow_bit];simp,fun i hi=>?_,.inl rfl⟩,?_⟩
  ·rw [Nat.zero_or,pow_bit] at hi
   have:i=k:=of_decide_eq_true hi
   rw [this];exact hj.self
  rintro σ ⟨s,hsk,hsj,rfl | ⟨hcl,rfl⟩⟩
  rotate_left
  ·have:s=j:=hsj.antisymm (hj.least s hsk hcl)
   subst this
   have hr:reify [Box.flat false n.enc,Box.rows false 0 1 (rowsB m s)] 8 (.sl 1 0 0 m)=some (.list 1 (rowsB m s)):=reify_sl rfl (rowsB_len m s).symm
   exact ⟨_,hr,Wk.rows' (rowsB_norm m s)⟩
  refine ⟨[1,3,7,8,9],2,[],fun σ=>∃ (i s1:Nat),i≤n.pipes.length∧s1.testBit k=true∧Sub s1 j ∧
   ((unsN m s1<unsN m s∧σ=⟨[(1,.list 1 (bl.map encI)),(3,.loc 0 0),(7,.sl 1 0 0 m),(8,.tt),(9,.int .i64 i)],[.flat false n.enc,.rows false 0 1 (rowsB m s1)],.non⟩) ∨
    (s1=s∧(∀ i' p,i'<i→n.pipes[i']?=some p→hasI bl (i':Nat)=false→s.testBit p.fr.toNat=s.testBit p.to.toNat)∧σ=⟨[(1,.list 1 (bl.map encI)),(3,.loc 0 0),(7,.sl 1 0 0 m),(8,.ff),(9,.int .i64 i)],[.flat false n.enc,.rows false 0 1 (rowsB m s1)],.non⟩)),
   fun σ=>(1000 - slotI 9 σ).toNat,rfl,⟨rfl,rfl⟩,⟨0,s,Nat.zero_le _,hsk,hsj,.inr ⟨rfl,fun i' p h=>absurd h (Nat.not_lt_zero _),rfl⟩⟩,?_⟩
  rintro σ ⟨i,s1,hi,hk1,hj1,hcase⟩
  rcases hcase with ⟨hlt,rfl⟩ | ⟨rfl,hcl,rfl⟩
  ·refine ⟨fun q1=>?_,fun q1=>?_⟩
   rotate_left
   ·refine ⟨⟨rfl,rfl⟩,⟨s1,hk1,hj1,.inl rfl⟩,?_⟩
    show 2*ffs (rowsB m s1)+1<2*ffs (rowsB m s)+1
    rw [ffs_rows,ffs_rows]
    omega
   have q1:=of_decide_eq_true q1
   rw [hpl] at q1
   have hi':i<n.pipes.length:=by omega
   have less:(1000 - ((i:Int)+1)).toNat<(1000 - (i:Int)).toNat:=by omega
   obtain ⟨p,hp⟩:∃ p,n.pipes[i]?=some p:=⟨_,List.getElem?_eq_getElem hi'⟩
   have hprow:(n.pipes.map Rp.enc)[((i:Int)).toNat]?=some p.enc:=by rw [Int.toNat_natCast,List.getElem?_map,hp];rfl
   have hpe:=hn.pe p (List.mem_of_getElem? hp)
   rw [hm] at hpe
   refine ⟨by omega,_,hprow,?_⟩
   refine Or.inl ⟨by kernel_rfl,?_⟩
   refine ⟨_,rfl,_,den46 bl i hbl,?_⟩
   refine ⟨fun q2=>?_,fun q2=>?_⟩
   rotate_left
   ·refine ⟨(i:Int)+1,wrap64 (by omega) (by omega),?_⟩
    exact ⟨⟨rfl,rfl⟩,⟨i+1,s1,hi',hk1,hj1,.inl ⟨hlt,rfl⟩⟩,less⟩
   have q2:(!(hasI bl i))=true:=q2
   have q2:hasI bl i=false:=by simpa using q2
   have hsh:=hj.shut i p hp q2
   have hfm:p.fr.toNat<m:=by omega
   have htm:p.to.toNat<m:=by omega
   cases hbf:s1.testBit p.fr.toNat with
   | true =>
    cases hbt:s1.testBit p.to.toNat with
    | true =>
     have hgf:(rowsB m s1)[p.fr.toNat]?=some [.tt]:=by rw [rowsB_get hfm,hbf];rfl
     have hgt:(rowsB m s1)[p.to.toNat]?=some [.tt]:=by rw [rowsB_get htm,hbt];rfl
     refine ⟨by omega,by omega,_,Nat.zero_add _,?_⟩
     refine ⟨_,hgf,?_⟩
     refine ⟨by omega,by omega,_,Nat.zero_add _,?_⟩
     refine ⟨_,hgt,?_⟩
     refine ⟨fun h=>absurd h (by decide),fun _=>?_⟩
     refine ⟨(i:Int)+1,wrap64 (by omega) (by omega),?_⟩
     exact ⟨⟨rfl,rfl⟩,⟨i+1,s1,hi',hk1,hj1,.inl ⟨hlt,rfl⟩⟩,less⟩
    | false =>
     have hgf:(rowsB m s1)[p.fr.toNat]?=some [.tt]:=by rw [rowsB_get hfm,hbf];rfl
     have hgt:(rowsB m s1)[p.to.toNat]?=some [.ff]:=by rw [rowsB_get htm,hbt];rfl
     have hgrow:Sub s1 ((s1 ||| 2^p.fr.toNat) ||| 2^p.to.toNat):=fun x hx=>by rw [or_bit,or_bit,hx];rfl
     have hlt2:=unsN_lt hgrow hbt (by rw [or_bit,pow_bit];simp) m htm
     refine ⟨by omega,by omega,_,Nat.zero_add _,?_⟩
     refine ⟨_,hgf,?_⟩
     refine ⟨by omega,by omega,_,Nat.zero_add _,?_⟩
     refine ⟨_,hgt,?_⟩
     refine ⟨fun _=>?_,fun h=>absurd h (by decide)⟩
     refine ⟨by omega,by omega,_,Nat.zero_add _,?_⟩
     refine ⟨_,hgf,Nat.le_refl 1,_,rowsB_set hfm,?_⟩
     refine ⟨by omega,by omega,_,Nat.zero_add _,?_⟩
     refine ⟨_,rowsB_get htm,Nat.le_refl 1,_,rowsB_set htm,?_⟩
     refine ⟨(i:Int)+1,wrap64 (by omega) (by omega),?_⟩
     refine ⟨⟨rfl,rfl⟩,⟨i+1,_,hi',hgrow k hk1,fun x hx=>?_,.inl ⟨by omega,rfl⟩⟩,less⟩
     rw [or_bit,or_bit,pow_bit,pow_bit,Bool.or_eq_true,Bool.or_eq_true,decide_eq_true_iff,decide_eq_true_iff] at hx
     rcases hx with (hx | rfl) | rfl
     ·exact hj1 x hx
     ·exact hj1 _ hbf
     ·rw [← hsh];exact hj1 _ hbf
   | false =>
    cases hbt:s1.testBit p.to.toNat with
    | true =>
     have hgf:(rowsB m s1)[p.fr.toNat]?=some [.ff]:=by rw [rowsB_get hfm,hbf];rfl
     have hgt:(rowsB m s1)[p.to.toNat]?=some [.tt]:=by rw [rowsB_get htm,hbt];rfl
     have hgrow:Sub s1 ((s1 ||| 2^p.fr.toNat) ||| 2^p.to.toNat):=fun x hx=>by rw [or_bit,or_bit,hx];rfl
     have hlt2:=unsN_lt hgrow hbf (by rw [or_bit,or_bit,pow_bit];simp) m hfm
     refine ⟨by omega,by omega,_,Nat.zero_add _,?_⟩
     refine ⟨_,hgf,?_⟩
     refine ⟨by omega,by omega,_,Nat.zero_add _,?_⟩
     refine ⟨_,hgt,?_⟩
     refine ⟨fun _=>?_,fun h=>absurd h (by decide)⟩
     refine ⟨by omega,by omega,_,Nat.zero_add _,?_⟩
     refine ⟨_,hgf,Nat.le_refl 1,_,rowsB_set hfm,?_⟩
     refine ⟨by omega,by omega,_,Nat.zero_add _,?_⟩
     refine ⟨_,rowsB_get htm,Nat.le_refl 1,_,rowsB_set htm,?_⟩
     refine ⟨(i:Int)+1,wrap64 (by omega) (by omega),?_⟩
     refine ⟨⟨rfl,rfl⟩,⟨i+1,_,hi',hgrow k hk1,fun x hx=>?_,.inl ⟨by omega,rfl⟩⟩,less⟩
     rw [or_bit,or_bit,pow_bit,pow_bit,Bool.or_eq_true,Bool.or_eq_true,decide_eq_true_iff,decide_eq_true_iff] at hx
     rcases hx with (hx | rfl) | rfl
     ·exact hj1 x hx
     ·rw [hsh];exact hj1 _ hbt
     ·exact hj1 _ hbt
    | false =>
     have hgf:(rowsB m s1)[p.fr.toNat]?=some [.ff]:=by rw [rowsB_get hfm,hbf];rfl
     have hgt:(rowsB m s1)[p.to.toNat]?=some [.ff]:=by rw [rowsB_get htm,hbt];rfl
     refine ⟨by omega,by omega,_,Nat.zero_add _,?_⟩
     refine ⟨_,hgf,?_⟩
     refine ⟨by omega,by omega,_,Nat.zero_add _,?_⟩
     refine ⟨_,hgt,?_⟩
     refine ⟨fun h=>absurd h (by decide),fun _=>?_⟩
     refine ⟨(i:Int)+1,wrap64 (by omega) (by omega),?_⟩
     exact ⟨⟨rfl,rfl⟩,⟨i+1,s1,hi',hk1,hj1,.inl ⟨hlt,rfl⟩⟩,less⟩
  ·refine ⟨fun q1=>?_,fun q1=>?_⟩
   rotate_left
   ·have q1:=of_decide_eq_false q1
    rw [hpl] at q1
    refine ⟨⟨rfl,rfl⟩,⟨s1,hk1,hj1,.inr ⟨fun i' p hp ho=>hcl i' p (by have:=(List.getElem?_eq_some_iff.1 hp).1;omega) hp ho,rfl⟩⟩,?_⟩
    show 2*ffs (rowsB m s1)+0<2*ffs (rowsB m s1)+1
    omega
   have q1:=of_decide_eq_true q1
   rw [hpl] at q1
   have hi':i<n.pipes.length:=by omega
   have less:(1000 - ((i:Int)+1)).toNat<(1000 - (i:Int)).toNat:=by omega
   obtain ⟨p,hp⟩:∃ p,n.pipes[i]?=some p:=⟨_,List.getElem?_eq_getElem hi'⟩
   have hprow:(n.pipes.map Rp.enc)[((i:Int)).toNat]?=some p.enc:=by rw [Int.toNat_natCast,List.getElem?_map,hp];rfl
   have hpe:=hn.pe p (List.mem_of_getElem? hp)
   rw [hm] at hpe
   have hcl2:(hasI bl i=false→s1.testBit p.fr.toNat=s1.testBit p.to.toNat)→∀ i' q,i'<i+1→n.pipes[i']?=some q→hasI bl (i':Nat)=false→s1.testBit q.fr.toNat=s1.testBit q.to.toNat:=fun h i' q hlt hq ho=>by
    by_cases e:i'=i
    ·subst e;rw [hp] at hq;cases hq;exact h ho
    ·exact hcl i' q (by omega) hq ho
   refine ⟨by omega,_,hprow,?_⟩
   refine Or.inl ⟨by kernel_rfl,?_⟩
   refine ⟨_,rfl,_,den46 bl i hbl,?_⟩
   refine ⟨fun q2=>?_,fun q2=>?_⟩
   rotate_left
   ·have q2:(!(hasI bl i))=false:=q2
    have q2:hasI bl i=true:=by simpa using q2
    refine ⟨(i:Int)+1,wrap64 (by omega) (by omega),?_⟩
    exact ⟨⟨rfl,rfl⟩,⟨i+1,s1,hi',hk1,hj1,.inr ⟨rfl,hcl2 (fun h=>by rw [q2] at h;cases h),rfl⟩⟩,less⟩
   have q2:(!(hasI bl i))=true:=q2
   have q2:hasI bl i=false:=by simpa using q2
   have hsh:=hj.shut i p hp q2
   have hfm:p.fr.toNat<m:=by omega
   have htm:p.to.toNat<m:=by omega
   cases hbf:s1.testBit p.fr.toNat with
   | true =>
    cases hbt:s1.testBit p.to.toNat with
    | true =>
     have hgf:(rowsB m s1)[p.fr.toNat]?=some [.tt]:=by rw [rowsB_get hfm,hbf];rfl
     have hgt:(rowsB m s1)[p.to.toNat]?=some [.tt]:=by rw [rowsB_get htm,hbt];rfl
     refine ⟨by omega,by omega,_,Nat.zero_add _,?_⟩
     refine ⟨_,hgf,?_⟩
     refine ⟨by omega,by omega,_,Nat.zero_add _,?_⟩
     refine ⟨_,hgt,?_⟩
     refine ⟨fun h=>absurd h (by decide),fun _=>?_⟩
     refine ⟨(i:Int)+1,wrap64 (by omega) (by omega),?_⟩
     exact ⟨⟨rfl,rfl⟩,⟨i+1,s1,hi',hk1,hj1,.inr ⟨rfl,hcl2 (fun _=>by rw [hbf,hbt]),rfl⟩⟩,less⟩
    | false =>
     have hgf:(rowsB m s1)[p.fr.toNat]?=some [.tt]:=by rw [rowsB_get hfm,hbf];rfl
     have hgt:(rowsB m s1)[p.to.toNat]?=some [.ff]:=by rw [rowsB_get htm,hbt];rfl
     have hgrow:Sub s1 ((s1 ||| 2^p.fr.toNat) ||| 2^p.to.toNat):=fun x hx=>by rw [or_bit,or_bit,hx];rfl
     have hlt2:=unsN_lt hgrow hbt (by rw [or_bit,pow_bit];simp) m htm
     refine ⟨by omega,by omega,_,Nat.zero_add _,?_⟩
     refine ⟨_,hgf,?_⟩
     refine ⟨by omega,by omega,_,Nat.zero_add _,?_⟩
     refine ⟨_,hgt,?_⟩
     refine ⟨fun _=>?_,fun h=>absurd h (by decide)⟩
     refine ⟨by omega,by omega,_,Nat.zero_add _,?_⟩
     refine ⟨_,hgf,Nat.le_refl 1,_,rowsB_set hfm,?_⟩
     refine ⟨by omega,by omega,_,Nat.zero_add _,?_⟩
     refine ⟨_,rowsB_get htm,Nat.le_refl 1,_,rowsB_set htm,?_⟩
     refine ⟨(i:Int)+1,wrap64 (by omega) (by omega),?_⟩
     refine ⟨⟨rfl,rfl⟩,⟨i+1,_,hi',hgrow k hk1,fun x hx=>?_,.inl ⟨by omega,rfl⟩⟩,less⟩
     rw [or_bit,or_bit,pow_bit,pow_bit,Bool.or_eq_true,Bool.or_eq_true,decide_eq_true_iff,decide_eq_true_iff] at hx
     rcases hx with (hx | rfl) | rfl
     ·exact hj1 x hx
     ·exact hj1 _ hbf
     ·rw [← hsh];exact hj1 _ hbf
   | false =>
    cases hbt:s1.testBit p.to.toNat with
    | true =>
     have hgf:(rowsB m s1)[p.fr.toNat]?=some [.ff]:=by rw [rowsB_get hfm,hbf];rfl
     have hgt:(rowsB m s1)[p.to.toNat]?=some [.tt]:=by rw [rowsB_get htm,hbt];rfl
     have hgrow:Sub s1 ((s1 ||| 2^p.fr.toNat) ||| 2^p.to.toNat):=fun x hx=>by rw [or_bit,or_bit,hx];rfl
     have hlt2:=unsN_lt hgrow hbf (by rw [or_bit,or_bit,pow_bit];simp) m hfm
     refine ⟨by omega,by omega,_,Nat.zero_add _,?_⟩
     refine ⟨_,hgf,?_⟩
     refine ⟨by omega,by omega,_,Nat.zero_add _,?_⟩
     refine ⟨_,hgt,?_⟩
     refine ⟨fun _=>?_,fun h=>absurd h (by decide)⟩
     refine ⟨by omega,by omega,_,Nat.zero_add _,?_⟩
     refine ⟨_,hgf,Nat.le_refl 1,_,rowsB_set hfm,?_⟩
     refine ⟨by omega,by omega,_,Nat.zero_add _,?_⟩
     refine ⟨_,rowsB_get htm,Nat.le_refl 1,_,rowsB_set htm,?_⟩
     refine ⟨(i:Int)+1,wrap64 (by omega) (by omega),?_⟩
     refine ⟨⟨rfl,rfl⟩,⟨i+1,_,hi',hgrow k hk1,fun x hx=>?_,.inl ⟨by omega,rfl⟩⟩,less⟩
     rw [or_bit,or_bit,pow_bit,pow_bit,Bool.or_eq_true,Bool.or_eq_true,decide_eq_true_iff,decide_eq_true_iff] at hx
     rcases hx with (hx | rfl) | rfl
     ·exact hj1 x hx
     ·rw [hsh];exact hj1 _ hbt
     ·exact hj1 _ hbt
    | false =>
     have hgf:(rowsB m s1)[p.fr.toNat]?=some [.ff]:=by rw [rowsB_get hfm,hbf];rfl
     have hgt:(rowsB m s1)[p.to.toNat]?=some [.ff]:=by rw [rowsB_get htm,hbt];rfl
     refine ⟨by omega,by omega,_,Nat.zero_add _,?_⟩
     refine ⟨_,hgf,?_⟩
     refine ⟨by omega,by omega,_,Nat.zero_add _,?_⟩
     refine ⟨_,hgt,?_⟩
     refine ⟨fun h=>absurd h (by decide),fun _=>?_⟩
     refine ⟨(i:Int)+1,wrap64 (by omega) (by omega),?_⟩
     exact ⟨⟨rfl,rfl⟩,⟨i+1,s1,hi',hk1,hj1,.inr ⟨rfl,hcl2 (fun _=>by rw [hbf,hbt]),rfl⟩⟩,less⟩

end Go.Proofs.Vent

namespace Go.Proofs.Vent
open Go.V Go.Proofs

theorem tanksU_first {s f:Nat} (hf:f<7) (h:s.testBit f=true) (hl:∀ x,x<f→s.testBit x=false):dAt (tanks s) 0=(f:Int):=by
 have e:∀ x,x<f→s.testBit x=false:=hl
 rw [tanks_eq]
 unfold tanksU
 match f,hf with
 | 0,_=>simp [List.range,List.range.loop,List.filter_cons,dAt,h]
 | 1,_=>have:=e 0 (by decide);simp [List.range,List.range.loop,List.filter_cons,dAt,h,this]
 | 2,_=>have h0:=e 0 (by decide);have h1:=e 1 (by decide);simp [List.range,List.range.loop,List.filter_cons,dAt,h,h0,h1]
 | 3,_=>have h0:=e 0 (by decide);have h1:=e 1 (by decide);have h2:=e 2 (by decide);simp [List.range,List.range.loop,List.filter_cons,dAt,h,h0,h1,h2]
 | 4,_=>have h0:=e 0 (by decide);have h1:=e 1 (by decide);have h2:=e 2 (by decide);have h3:=e 3 (by decide);simp [List.range,List.range.loop,List.filter_cons,dAt,h,h0,h1,h2,h3]
 | 5,_=>have h0:=e 0 (by decide);have h1:=e 1 (by decide);have h2:=e 2 (by decide);have h3:=e 3 (by decide);have h4:=e 4 (by decide);simp [List.range,List.range.loop,List.filter_cons,dAt,h,h0,h1,h2,h3,h4]
 | 6,_=>have h0:=e 0 (by decide);have h1:=e 1 (by decide);have h2:=e 2 (by decide);have h3:=e 3 (by decide);have h4:=e 4 (by decide);have h5:=e 5 (by decide);simp [List.range,List.range.loop,dAt,h,h0,h1,h2,h3,h4,h5]

def firsts (n:NetL) (k:Nat):List Int:=(List.range k).map n.firstJ
theorem firsts_len (n:NetL) (k:Nat):(firsts n k).length=k:=by simp [firsts]
theorem firsts_rows (n:NetL) (k:Nat):firsts n k=rowsJ n k k:=by
 unfold firsts rowsJ
 refine List.map_congr_left fun j hj=>?_
 rw [if_pos (List.mem_range.1 hj)]
theorem firsts_app {n:NetL} {k:Nat} {f:Int} (h:n.firstJ k=f):(firsts n k).map encI++[[D.int .i64 f]]=(firsts n (k+1)).map encI:=by
 unfold firsts
 rw [List.range_succ,List.map_append,List.map_append,List.map_singleton,List.map_singleton,h]
 rfl

set_option maxHeartbeats 8000000 in
theorem den18 (n:Nt) (bl:List Int) (hbl:bl.length<9223372036854775808):DN 18 [.agg n.enc,.list 1 (bl.map encI)] (tupLI (n.joinedR bl)):=by
 refine mkW Try.func18 Try.call18 rfl rfl ?_
 refine ⟨_,rfl,_,den42 n bl hbl,?_⟩
 by_cases he:n.lookE bl [] false=0
 rotate_left
 ·have hR:n.joinedR bl=([],n.lookE bl [] false):=by unfold Nt.joinedR;rw [if_neg he]
  rw [hR]
  refine ⟨fun _=>?_,fun h=>?_⟩
  ·exact ⟨_,rfl,.tcons (.nil 0 1) (.refl _)⟩
  ·have h:(n.lookE bl [] false != 0)=false:=h
   exact absurd (by simpa using h) he
 have hR:n.joinedR bl=(firsts (n.look bl []) n.tanks.length,0):=by unfold Nt.joinedR;rw [if_pos he,firsts_rows]
 rw [hR,he]
 have hn:=(Nt.lookE_ok he).1
 have hok:=Nt.look_okn he
 have h7:=hn.t7
 have htl:((n.tanks.map Tk.enc).length:Int)=n.tanks.length:=by simp
 refine ⟨fun h=>absurd h (by decide),fun _=>?_⟩
 refine ⟨[1,2,7,8],1,[(.slot 7,1)],fun σ=>∃ (i g:Nat),i≤n.tanks.length ∧
  σ=⟨[(1,.list 1 (bl.map encI)),(2,.loc 0 0),(7,.sl 1 g 0 ((firsts (n.look bl []) i).map encI).length),(8,.int .i64 i)],[.flat false n.enc,.rows false g 1 ((firsts (n.look bl []) i).map encI)],.non⟩,
  fun σ=>(1000 - slotI 8 σ).toNat,rfl,⟨rfl,rfl⟩,⟨0,0,Nat.zero_le _,rfl⟩,?_⟩
 rintro σ ⟨i,g,hi,rfl⟩
 refine ⟨fun q1=>?_,fun q1=>?_⟩
 rotate_left
 ·have q1:=of_decide_eq_false q1
  rw [htl] at q1
  obtain rfl:i=n.tanks.length:=by omega
  exact ⟨_,reify_tup (mapO_cons (reify_sl rfl rfl) (mapO_cons rfl rfl)),.refl _⟩
 have q1:=of_decide_eq_true q1
 rw [htl] at q1
 have hi':i<n.tanks.length:=by omega
 have less:(1000 - ((i:Int)+1)).toNat<(1000 - (i:Int)).toNat:=by omega
 have hj:=joined_jn hn bl [] hok hi'
 refine ⟨_,rfl,_,den47 n hn bl hbl i hi' hj,?_⟩
 obtain ⟨j,hje⟩:∃ j,(n.look bl []).joined (2^i)=j:=⟨_,rfl⟩
 rw [hje] at hj
 have hfirst:∀ f,f<7→j.testBit f=true→(∀ x,x<f→j.testBit x=false)→(n.look bl []).firstJ i=(f:Int):=fun f h1 h2 h3=>by
  unfold NetL.firstJ
  rw [hje]
  exact tanksU_first h1 h2 h3
 rw [hje]
 refine ⟨[1,2,7,8,9,10],2,[],fun σ=>∃ f:Nat,f≤i∧(∀ x,x<f→j.testBit x=false) ∧
  σ=⟨[(1,.list 1 (bl.map encI)),(2,.loc 0 0),(7,.sl 1 g 0 ((firsts (n.look bl []) i).map encI).length),(8,.int .i64 i),(9,.list 1 (rowsT n.tanks.length j)),(10,.int .i64 f)],[.flat false n.enc,.rows false g 1 ((firsts (n.look bl []) i).map encI)],.non⟩,
  fun σ=>(1000 - slotI 10 σ).toNat,rfl,⟨rfl,rfl⟩,⟨0,Nat.zero_le _,fun x h=>absurd h (Nat.not_lt_zero _),rfl⟩,?_⟩
 rintro σ ⟨f,hf,hno,rfl⟩
 refine ⟨by omega,_,rowsT_get (by rw [Int.toNat_natCast];omega),?_⟩
 refine ⟨fun q2=>?_,fun q2=>?_⟩
 ·have q2:(!(j.testBit f))=true:=q2
  have q2:j.testBit f=false:=by simpa using q2
  have hlt:f<i:=by
   rcases Nat.lt_or_ge f i with h | h
   ·exact h
   ·obtain rfl:f=i:=by omega
    rw [hj.self] at q2;cases q2
  refine ⟨(f:Int)+1,wrap64 (by omega) (by omega),?_⟩
  refine ⟨⟨rfl,rfl⟩,⟨f+1,hlt,fun x hx=>?_,rfl⟩,?_⟩
  ·by_cases e:x=f
   ·subst e;exact q2
   ·exact hno x (by omega)
  ·show (1000 - ((f:Int)+1)).toNat<(1000 - (f:Int)).toNat
   omega
 ·have q2:(!(j.testBit f))=false:=q2
  have q2:j.testBit f=true:=by simpa using q2
  have hfj:=hfirst f (by omega) q2 hno
  refine ⟨trivial,iff' (by rw [beq_self];rfl) ⟨Nat.le_of_eq (Nat.zero_add _),?_,_,old_all rfl,_,firsts_app hfj,trivial,?_⟩⟩
  ·rw [List.length_map,firsts_len];show (_+1)*8≤mostBytes;unfold mostBytes;omega
  refine ⟨(i:Int)+1,wrap64 (by omega) (by omega),?_⟩
  exact ⟨⟨rfl,rfl⟩,⟨i+1,g+1,hi',rfl⟩,less⟩

def bitsD (f:Nat):List D:=(List.range 7).map fun i=>D.bool (f.testBit i)
theorem bitsD_get {f i:Nat} (h:i<7):(bitsD f)[0+i]?=some (.bool (f.testBit i)):=by
 rw [Nat.zero_add]
 simp [bitsD,h]
def listK (f k:Nat):List Int:=((List.range k).filter fun i=>f.testBit i).map fun i=>((i:Nat):Int)
theorem listK_step {f k:Nat}:listK f (k+1)=if f.testBit k=true then listK f k++[(k:Int)] else listK f k:=by
 unfold listK
 rw [List.range_succ,List.filter_append,List.map_append]
 cases h:f.testBit k <;> simp [h]
theorem listK_len (f k:Nat):(listK f k).length≤k:=by
 unfold listK
 rw [List.length_map]
 exact Nat.le_trans (List.length_filter_le _ _) (by simp)
theorem listK_all (f:Nat):listK f 7=tanks f:=rfl

set_option maxHeartbeats 4000000 in
theorem den61 (f:Nat):DN 61 [.agg (bitsD f)] (.list 1 ((tanks f).map encI)):=by
 refine mk Try.func61 Try.call61 rfl rfl ?_
 refine ⟨[1,3,4],1,[(.slot 3,1)],fun σ=>∃ (i g:Nat),i≤7 ∧
  σ=⟨[(1,.loc 0 0),(3,.sl 1 g 0 ((listK f i).map encI).length),(4,.int .i64 i)],[.flat false (bitsD f),.rows false g 1 ((listK f i).map encI)],.non⟩,
  fun σ=>(1000 - slotI 4 σ).toNat,rfl,⟨rfl,rfl⟩,⟨0,0,Nat.zero_le _,rfl⟩,?_⟩
 rintro σ ⟨i,g,hi,rfl⟩
 refine ⟨fun q1=>?_,fun q1=>?_⟩
 rotate_left
 ·have q1:¬ (i:Int)<7:=of_decide_eq_false q1
  obtain rfl:i=7:=by omega
  have hr:reify [Box.flat false (bitsD f),Box.rows false g 1 ((listK f 7).map encI)] 8 (.sl 1 g 0 ((listK f 7).map encI).length)=some (.list 1 ((listK f 7).map encI)):=reify_sl rfl rfl
  exact hr
 have q1:(i:Int)<7:=of_decide_eq_true q1
 have less:(1000 - ((i:Int)+1)).toNat<(1000 - (i:Int)).toNat:=by omega
 have hll:=listK_len f i
 have hst:=listK_step (f:=f) (k:=i)
 refine ⟨⟨by omega,by omega⟩,i,Nat.mul_one _,?_⟩
 refine ⟨_,bitsD_get (by omega),?_⟩
 refine ⟨fun q2=>?_,fun q2=>?_⟩
 ·have q2:f.testBit i=true:=q2
  rw [if_pos q2] at hst
  have hcat:(listK f i).map encI++[[D.int .i64 i]]=(listK f (i+1)).map encI:=by rw [hst,List.map_append];rfl
  refine ⟨trivial,iff' (by rw [beq_self];rfl) ⟨Nat.le_of_eq (Nat.zero_add _),?_,_,old_all rfl,_,hcat,trivial,?_⟩⟩
  ·rw [List.length_map];show (_+1)*8≤mostBytes;unfold mostBytes;omega
  refine ⟨(i:Int)+1,wrap64 (by omega) (by omega),?_⟩
  exact ⟨⟨rfl,rfl⟩,⟨i+1,g+1,by omega,rfl⟩,less⟩
 ·have q2:f.testBit i=false:=q2
  rw [if_neg (by rw [q2];decide)] at hst
  refine ⟨(i:Int)+1,wrap64 (by omega) (by omega),?_⟩
  exact ⟨⟨rfl,rfl⟩,⟨i+1,g,by omega,by rw [hst];rfl⟩,less⟩

end Go.Proofs.Vent
