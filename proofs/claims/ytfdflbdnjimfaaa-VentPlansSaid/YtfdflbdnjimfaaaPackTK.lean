/- The document's Separate, Other, before; what is apart; The statements' flanges, apart and all. No condition. -/
import Derived.Test.YtfdflbdnjimfaaaPackTH
import Derived.Test.YtfdflbdnjimfaaaPackTI
import Derived.Test.YtfdflbdnjimfaaaPackTC

namespace Go.Proofs.Vent
open Go.V Go.Proofs

def otherI (p:Rp) (v:Int):Int:=if p.fr=v then p.to else if p.to=v then p.fr else -1
theorem den91 (p:Rp) (v:Int):DN 91 [.agg p.enc,.int .i64 v] (.int .i64 (otherI p v)):=by
 refine mk Try.func91 Try.call91 rfl rfl ?_
 unfold otherI
 refine ⟨fun h1=>?_,fun h1=>?_⟩
 ·have h1:(p.fr==v)=true:=h1
  rw [if_pos (by simpa using h1)]
  rfl
 have h1:(p.fr==v)=false:=h1
 rw [if_neg (by simpa using h1)]
 refine ⟨fun h2=>?_,fun h2=>?_⟩
 ·have h2:(p.to==v)=true:=h2
  rw [if_pos (by simpa using h2)]
  rfl
 ·have h2:(p.to==v)=false:=h2
  rw [if_neg (by simpa using h2)]
  rfl

def beforeI:List Int→List Int→Bool
 | a::r,b::s=>if a=b then beforeI r s else decide (a<b)
 | _,_=>false

set_option maxHeartbeats 2000000 in
theorem den67 (a b:List Int) (ha:a.length<9223372036854775808) (hab:a.length≤b.length):DN 67 [.list 1 (a.map encI),.list 1 (b.map encI)] (.bool (beforeI a b)):=by
 refine mk Try.func67 Try.call67 rfl rfl ?_
 have hlen:((a.map encI).length:Int)=a.length:=by simp
 refine ⟨[0,1,5],0,[],fun σ=>∃ i:Nat,i≤a.length∧beforeI a b=beforeI (a.drop i) (b.drop i)∧σ=⟨[(0,.list 1 (a.map encI)),(1,.list 1 (b.map encI)),(5,.int .i64 i)],[],.non⟩,
  fun σ=>((a.length:Int) - slotI 5 σ).toNat,rfl,⟨rfl,rfl⟩,⟨0,Nat.zero_le _,rfl,rfl⟩,?_⟩
 rintro σ ⟨i,hi,hf,rfl⟩
 refine ⟨fun h1=>?_,fun h1=>?_⟩
 rotate_left
 ·have h1:=of_decide_eq_false h1
  rw [hlen] at h1
  show some (D.bool false)=some (D.bool _)
  rw [hf,List.drop_of_length_le (by omega)]
  rfl
 have h1:=of_decide_eq_true h1
 rw [hlen] at h1
 have hi':i<a.length:=by omega
 have hib:i<b.length:=by omega
 have hst:beforeI (a.drop i) (b.drop i)=if a[i]=b[i] then beforeI (a.drop (i+1)) (b.drop (i+1)) else decide (a[i]<b[i]):=by
  rw [List.drop_eq_getElem_cons hi',List.drop_eq_getElem_cons hib]
  rfl
 refine Or.inl ⟨by kernel_rfl,?_⟩
 refine ⟨by omega,_,encI_get hi',?_⟩
 refine ⟨by omega,_,encI_get hib,?_⟩
 refine ⟨fun h2=>?_,fun h2=>?_⟩
 ·have h2:(a[i] != b[i])=true:=h2
  rw [if_neg (by simpa using h2)] at hst
  refine Or.inl ⟨by kernel_rfl,?_⟩
  refine ⟨by omega,_,encI_get hi',?_⟩
  refine ⟨by omega,_,encI_get hib,?_⟩
  show some (D.bool (decide (a[i]<b[i])))=some (D.bool _)
  rw [hf,hst]
 ·have h2:(a[i] != b[i])=false:=h2
  rw [if_pos (by simpa using h2)] at hst
  refine ⟨(i:Int)+1,wrap64 (by omega) (by omega),?_⟩
  refine ⟨⟨rfl,rfl⟩,⟨i+1,hi',hf.trans hst,rfl⟩,?_⟩
  show ((a.length:Int) - ((i:Int)+1)).toNat<((a.length:Int) - (i:Int)).toNat
  omega


theorem wantN_bit {l:List Int} (h0:∀ v∈l,0≤v) (t:Nat):∀ k,(wantN l k).testBit t=true↔∃ i,i<k∧l[i]?=some (t:Int)
 | 0=>by simp [wantN]
 | k+1=>by
  have ih:=wantN_bit h0 t k
  unfold wantN
  cases hv:l[k]? with
  | none =>
   simp only
   rw [ih]
   constructor
   ·rintro ⟨i,h1,h2⟩;exact ⟨i,by omega,h2⟩
   ·rintro ⟨i,h1,h2⟩
    by_cases e:i=k
    ·subst e;rw [hv] at h2;cases h2
    ·exact ⟨i,by omega,h2⟩
  | some v =>
   simp only
   have hv0:=h0 v (List.mem_of_getElem? hv)
   rw [or_bit,Bool.or_eq_true,ih,pow_bit,decide_eq_true_iff]
   constructor
   ·rintro (⟨i,h1,h2⟩ | h)
    ·exact ⟨i,by omega,h2⟩
    ·exact ⟨k,by omega,by rw [hv];congr 1;omega⟩
   ·rintro ⟨i,h1,h2⟩
    by_cases e:i=k
    ·subst e;rw [hv] at h2;cases h2;right;omega
    ·exact .inl ⟨i,by omega,h2⟩
theorem want_iff {n:Nt} {bl wt:List Int} (hin:inAll n.tanks.length wt) (t:Nat):(n.look bl wt).wanted.testBit t=true↔(t:Int)∈wt:=by
 show (wantN wt wt.length).testBit t=true↔_
 rw [wantN_bit (fun v hv=>(hin v hv).1)]
 constructor
 ·rintro ⟨i,_,h⟩;exact List.mem_of_getElem? h
 ·intro h
  obtain ⟨i,hi⟩:=List.mem_iff_getElem?.1 h
  exact ⟨i,(List.getElem?_eq_some_iff.1 hi).1,hi⟩
theorem kept_iff {n:Nt} {bl wt:List Int} {k:Nat}:(n.look bl wt).kept.testBit k=(decide (k<n.tanks.length) && n.keptB k):=setOf_bit _ _ _

def sepRow (n:Nt) (j:Nat):Bool:=(List.range n.tanks.length).all fun k=>!(j.testBit k && n.keptB k)
def sepL (n:Nt) (bl wt:List Int):Bool:=wt.all fun v=>sepRow n ((n.look bl wt).joined (2^v.toNat))
theorem sepL_eq {n:Nt} (hn:n.Ok) {bl wt:List Int} (hin:inAll n.tanks.length wt) (hok:(n.look bl wt).Ok):sepL n bl wt=(n.look bl wt).separate:=by
 have h7:=hn.t7
 apply Bool.eq_iff_iff.2
 rw [NetL.separate_iff hok]
 have hjn:∀ v:Nat,v<n.tanks.length→∀ k,((n.look bl wt).joined (2^v)).testBit k=true↔(n.look bl wt).Con v k:=fun v hv k=>by
  rw [NetL.joined_iff hok (pow7 (by omega))]
  constructor
  ·rintro ⟨u,hu,hc⟩
   rw [pow_bit] at hu
   have:u=v:=of_decide_eq_true hu
   rw [← this];exact hc
  ·intro hc;exact ⟨v,by rw [pow_bit];simp,hc⟩
 unfold sepL sepRow
 rw [List.all_eq_true]
 constructor
 ·intro h k t hk ht hc
  have hmem:=(want_iff hin t).1 ht
  have hb:=hin _ hmem
  have h1:=h _ hmem
  rw [kept_iff,Bool.and_eq_true,decide_eq_true_iff] at hk
  rw [List.all_eq_true] at h1
  have h2:=h1 k (List.mem_range.2 hk.1)
  rw [Int.toNat_natCast,(hjn t (by omega) k).2 hc.symm,hk.2] at h2
  cases h2
 ·intro h v hv
  have hb:=hin v hv
  rw [List.all_eq_true]
  intro k hk
  have hk:=List.mem_range.1 hk
  cases hj:((n.look bl wt).joined (2^v.toNat)).testBit k with
  | false=>rfl
  | true =>
   cases hkb:n.keptB k with
   | false=>rfl
   | true =>
    have hc:=(hjn v.toNat (by omega) k).1 hj
    have h1:(n.look bl wt).kept.testBit k=true:=by rw [kept_iff,hkb,decide_eq_true hk];rfl
    have h2:(n.look bl wt).wanted.testBit v.toNat=true:=(want_iff hin _).2 (by rw [Int.toNat_of_nonneg hb.1];exact hv)
    exact absurd hc.symm (h k v.toNat h1 h2)

theorem sepRow_false {n:Nt} {j k:Nat} (hk:k<n.tanks.length) (h1:j.testBit k=true) (h2:n.keptB k=true):sepRow n j=false:=by
 apply Bool.eq_false_iff.2
 intro h
 unfold sepRow at h
 rw [List.all_eq_true] at h
 have:=h k (List.mem_range.2 hk)
 rw [h1,h2] at this
 cases this
theorem keptB_get {n:Nt} {k:Nat} {t:Tk} (h:n.tanks[k]?=some t):n.keptB k=t.kept:=by unfold Nt.keptB;rw [h]

set_option maxHeartbeats 8000000 in
theorem den70 (n:Nt) (hn:n.Ok) (bl wt:List Int) (hbl:bl.length<9223372036854775808) (hwl:wt.length<9223372036854775808) (hin:inAll n.tanks.length wt):DN 70 [.agg n.enc,.list 1 (bl.map encI),.list 1 (wt.map encI)] (.bool (n.look bl wt).separate):=by
 have hok:=Nt.look_ok hn bl hin
 rw [← sepL_eq hn hin hok]
 have h7:=hn.t7
 have hwlen:((wt.map encI).length:Int)=wt.length:=by simp
 refine mk Try.func70 Try.call70 rfl rfl ?_
 refine ⟨[1,2,3,7],1,[],fun σ=>∃ i:Nat,i≤wt.length∧sepL n bl wt=(wt.drop i).all (fun v=>sepRow n ((n.look bl wt).joined (2^v.toNat))) ∧
  σ=⟨[(1,.list 1 (bl.map encI)),(2,.list 1 (wt.map encI)),(3,.loc 0 0),(7,.int .i64 i)],[.flat false n.enc],.non⟩,
  fun σ=>((wt.length:Int) - slotI 7 σ).toNat,rfl,⟨rfl,rfl⟩,⟨0,Nat.zero_le _,rfl,rfl⟩,?_⟩
 rintro σ ⟨i,hi,hf,rfl⟩
 refine ⟨fun q1=>?_,fun q1=>?_⟩
 rotate_left
 ·have q1:=of_decide_eq_false q1
  rw [hwlen] at q1
  show some (D.bool true)=some (D.bool _)
  rw [hf,List.drop_of_length_le (by omega)]
  rfl
 have q1:=of_decide_eq_true q1
 rw [hwlen] at q1
 have hi':i<wt.length:=by omega
 obtain ⟨v,hv⟩:∃ v,wt[i]'hi'=v:=⟨_,rfl⟩
 have hrow:=encI_get hi'
 rw [hv] at hrow
 have hmem:v∈wt:=hv ▸ List.getElem_mem hi'
 have hb:=hin v hmem
 obtain ⟨t,ht⟩:∃ t:Nat,v=t:=⟨v.toNat,by omega⟩
 subst ht
 rw [List.drop_eq_getElem_cons hi',List.all_cons,hv,Int.toNat_natCast] at hf
 have htl:t<n.tanks.length:=by omega
 have h47:=den47 n hn bl hbl t htl (joined_jn hn bl wt hok htl)
 obtain ⟨j,hj⟩:∃ j,(n.look bl wt).joined (2^t)=j:=⟨_,rfl⟩
 rw [hj] at h47 hf
 refine Or.inl ⟨by kernel_rfl,?_⟩
 refine ⟨by omega,_,hrow,?_⟩
 refine ⟨_,rfl,_,h47,?_⟩
 have hjl:((rowsT n.tanks.length j).length:Int)=n.tanks.length:=by rw [rowsT_len]
 refine ⟨[1,2,3,7,8,9],1,[],fun σ=>∃ k:Nat,k≤n.tanks.length∧(∀ x,x<k→(!(j.testBit x && n.keptB x))=true) ∧
  σ=⟨[(1,.list 1 (bl.map encI)),(2,.list 1 (wt.map encI)),(3,.loc 0 0),(7,.int .i64 i),(8,.list 1 (rowsT n.tanks.length j)),(9,.int .i64 k)],[.flat false n.enc],.non⟩,
  fun σ=>(1000 - slotI 9 σ).toNat,rfl,⟨rfl,rfl⟩,⟨0,Nat.zero_le _,fun x h=>absurd h (Nat.not_lt_zero _),rfl⟩,?_⟩
 rintro σ ⟨k,hk,hno,rfl⟩
 refine ⟨fun q2=>?_,fun q2=>?_⟩
 rotate_left
 ·have q2:=of_decide_eq_false q2
  rw [hjl] at q2
  have hrowok:sepRow n j=true:=by
   unfold sepRow
   rw [List.all_eq_true]
   intro x hx
   exact hno x (by have:=List.mem_range.1 hx;omega)
  rw [hrowok,Bool.true_and] at hf
  refine ⟨(i:Int)+1,wrap64 (by omega) (by omega),?_⟩
  refine ⟨⟨rfl,rfl⟩,⟨i+1,hi',hf,rfl⟩,?_⟩
  show ((wt.length:Int) - ((i:Int)+1)).toNat<((wt.length:Int) - (i:Int)).toNat
  omega
 have q2:=of_decide_eq_true q2
 rw [hjl] at q2
 have hk':k<n.tanks.length:=by omega
 have less:(1000 - ((k:Int)+1)).toNat<(1000 - (k:Int)).toNat:=by omega
 obtain ⟨tk,htk⟩:∃ tk,n.tanks[k]?=some tk:=⟨_,List.getElem?_eq_getElem hk'⟩
 have htrow:(n.tanks.map Tk.enc)[((k:Nat):Int).toNat]?=some tk.enc:=by rw [Int.toNat_natCast,List.getElem?_map,htk];rfl
 have hkb:=keptB_get (n:=n) htk
 have next:(!(j.testBit k && n.keptB k))=true→∀ x,x<k+1→(!(j.testBit x && n.keptB x))=true:=fun h x hx=>by
  by_cases e:x=k
  ·subst e;exact h
  ·exact hno x (by omega)
 refine ⟨by omega,_,rowsT_get (by rw [Int.toNat_natCast];exact hk'),?_⟩
 refine ⟨fun q3=>?_,fun q3=>?_⟩
 rotate_left
 ·have q3:j.testBit k=false:=q3
  refine ⟨(k:Int)+1,wrap64 (by omega) (by omega),?_⟩
  exact ⟨⟨rfl,rfl⟩,⟨k+1,hk',next (by rw [q3];rfl),rfl⟩,less⟩
 have q3:j.testBit k=true:=q3
 refine ⟨by omega,_,htrow,?_⟩
 refine ⟨fun q4=>?_,fun q4=>?_⟩
 ·have q4:tk.kept=true:=q4
  show some (D.bool false)=some (D.bool _)
  rw [hf,sepRow_false hk' q3 (by rw [hkb];exact q4)]
  rfl
 ·have q4:tk.kept=false:=q4
  refine ⟨(k:Int)+1,wrap64 (by omega) (by omega),?_⟩
  exact ⟨⟨rfl,rfl⟩,⟨k+1,hk',next (by rw [hkb,q4,Bool.and_false];rfl),rfl⟩,less⟩

end Go.Proofs.Vent

namespace Go.Proofs.Vent
open Go.V Go.Proofs


def flB (n:Nt) (B i:Nat):Bool:=!(n.weldB i) && B.testBit i
def flK (n:Nt) (B k:Nat):List Int:=((List.range k).filter (flB n B)).map fun i=>((i:Nat):Int)


theorem den45 (fr bw wt:List Int) (hfr:fr.length<9223372036854775808) (hwl:wt.length<9223372036854775808):DN 45 [.agg [.list 1 (fr.map encI),.list 1 (bw.map encI)],.list 1 (wt.map encI)] (.bool (wt.all (hasI fr))):=by
 refine mk Try.func45 Try.call45 rfl rfl ?_
 have hlen:((wt.map encI).length:Int)=wt.length:=by simp
 refine ⟨[1,2,5],1,[],fun σ=>∃ i:Nat,i≤wt.length∧wt.all (hasI fr)=(wt.drop i).all (hasI fr)∧σ=⟨[(1,.list 1 (wt.map encI)),(2,.loc 0 0),(5,.int .i64 i)],[.flat false [.list 1 (fr.map encI),.list 1 (bw.map encI)]],.non⟩,
  fun σ=>((wt.length:Int) - slotI 5 σ).toNat,rfl,⟨rfl,rfl⟩,⟨0,Nat.zero_le _,rfl,rfl⟩,?_⟩
 rintro σ ⟨i,hi,hf,rfl⟩
 refine ⟨fun h1=>?_,fun h1=>?_⟩
 rotate_left
 ·have h1:=of_decide_eq_false h1
  rw [hlen] at h1
  show some (D.bool true)=some (D.bool _)
  rw [hf,List.drop_of_length_le (by omega)]
  rfl
 have h1:=of_decide_eq_true h1
 rw [hlen] at h1
 have hi':i<wt.length:=by omega
 rw [List.drop_eq_getElem_cons hi',List.all_cons] at hf
 refine Or.inl ⟨by kernel_rfl,?_⟩
 refine ⟨by omega,_,encI_get hi',?_⟩
 refine ⟨_,rfl,_,den46 fr wt[i] hfr,?_⟩
 refine ⟨fun h2=>?_,fun h2=>?_⟩
 ·have h2:(!(hasI fr wt[i]))=true:=h2
  have h2:hasI fr wt[i]=false:=by simpa using h2
  show some (D.bool false)=some (D.bool _)
  rw [hf,h2]
  rfl
 ·have h2:(!(hasI fr wt[i]))=false:=h2
  have h2:hasI fr wt[i]=true:=by simpa using h2
  rw [h2,Bool.true_and] at hf
  refine ⟨(i:Int)+1,wrap64 (by omega) (by omega),?_⟩
  refine ⟨⟨rfl,rfl⟩,⟨i+1,hi',hf,rfl⟩,?_⟩
  show ((wt.length:Int) - ((i:Int)+1)).toNat<((wt.length:Int) - (i:Int)).toNat
  omega

/-! What is apart. -/



def Nt.apartB (n:Nt) (bl wt:List Int):Bool:=if n.lookE bl [] false=0 then (n.look bl wt).separate else false


end Go.Proofs.Vent
