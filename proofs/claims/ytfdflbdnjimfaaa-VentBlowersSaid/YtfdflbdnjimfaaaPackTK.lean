/- The document's Separate, Other, before; what is apart; The statements' flanges, apart and all. No condition. -/
import Derived.Test.YtfdflbdnjimfaaaPackTH
import Derived.Test.YtfdflbdnjimfaaaPackTI
import Derived.Test.YtfdflbdnjimfaaaPackTC

namespace Go.Proofs.Vent
open Go.V Go.Proofs

def otherI (p:Rp) (v:Int):Int:=if p.fr=v then p.to else if p.to=v then p.fr else -1
theorem den91 (p:Rp) (v:Int):DN 91 [.agg p.enc,.int .i64 v] (.int .i64 (otherI p v)):=by
  refine mk Try.func91 Try.call91 rfl rfl ?_
  unfold otherI
  refine ⟨fun h1=>?_,fun h1=>?_⟩
  · have h1:(p.fr==v)=true:=h1
    rw [if_pos (by simpa using h1)]
    rfl
  have h1:(p.fr==v)=false:=h1
  rw [if_neg (by simpa using h1)]
  refine ⟨fun h2=>?_,fun h2=>?_⟩
  · have h2:(p.to==v)=true:=h2
    rw [if_pos (by simpa using h2)]
    rfl
  · have h2:(p.to==v)=false:=h2
    rw [if_neg (by simpa using h2)]
    rfl

def beforeI:List Int→List Int→Bool
  | a::r,b::s=>if a=b then beforeI r s else decide (a<b)
  | _,_=>false

set_option maxHeartbeats 2000000 in
theorem den67 (a b:List Int) (ha:a.length<9223372036854775808) (hab:a.length≤b.length):DN 67 [.list 1 (a.map encI),.list 1 (b.map encI)] (.bool (beforeI a b)):=by
  refine mk Try.func67 Try.call67 rfl rfl ?_
  have hlen:((a.map encI).length:Int)=a.length:=by simp
  refine ⟨[0,1,5],0,[],fun σ=>∃ i:Nat,i≤a.length∧beforeI a b=beforeI (a.drop i) (b.drop i)∧σ=⟨[(0,.list 1 (a.map encI)),(1,.list 1 (b.map encI)),(5,.int .i64 i)],[],.non⟩,
    fun σ=>((a.length:Int) - slotI 5 σ).toNat,rfl,⟨rfl,rfl⟩,⟨0,Nat.zero_le _,rfl,rfl⟩,?_⟩
  rintro σ ⟨i,hi,hf,rfl⟩
  refine ⟨fun h1=>?_,fun h1=>?_⟩
  rotate_left
  · have h1:=of_decide_eq_false h1
    rw [hlen] at h1
    show some (D.bool false)=some (D.bool _)
    rw [hf,List.drop_of_length_le (by omega)]
    rfl
  have h1:=of_decide_eq_true h1
  rw [hlen] at h1
  have hi':i<a.length:=by omega
  have hib:i<b.length:=by omega
  have hst:beforeI (a.drop i) (b.drop i)=if a[i]=b[i] then beforeI (a.drop (i+1)) (b.drop (i+1)) else decide (a[i]<b[i]):=by
    rw [List.drop_eq_getElem_cons hi',List.drop_eq_getElem_cons hib]
    rfl
  refine Or.inl ⟨by kernel_rfl,?_⟩
  refine ⟨by omega,_,encI_get hi',?_⟩
  refine ⟨by omega,_,encI_get hib,?_⟩
  refine ⟨fun h2=>?_,fun h2=>?_⟩
  · have h2:(a[i] != b[i])=true:=h2
    rw [if_neg (by simpa using h2)] at hst
    refine Or.inl ⟨by kernel_rfl,?_⟩
    refine ⟨by omega,_,encI_get hi',?_⟩
    refine ⟨by omega,_,encI_get hib,?_⟩
    show some (D.bool (decide (a[i]<b[i])))=some (D.bool _)
    rw [hf,hst]
  · have h2:(a[i] != b[i])=false:=h2
    rw [if_pos (by simpa using h2)] at hst
    refine ⟨(i:Int)+1,wrap64 (by omega) (by omega),?_⟩
    refine ⟨⟨rfl,rfl⟩,⟨i+1,hi',hf.trans hst,rfl⟩,?_⟩
    show ((a.length:Int) - ((i:Int)+1)).toNat<((a.length:Int) - (i:Int)).toNat
    omega


theorem wantN_bit {l:List Int} (h0:∀ v∈l,0≤v) (t:Nat):∀ k,(wantN l k).testBit t=true↔∃ i,i<k∧l[i]?=some (t:Int)
  | 0=>by simp [wantN]
  | k+1=>by
    have ih:=wantN_bit h0 t k
    unfold wantN
    cases hv:l[k]? with
    | none =>
      simp only
      rw [ih]
      constructor
      · rintro ⟨i,h1,h2⟩;exact ⟨i,by omega,h2⟩
      · rintro ⟨i,h1,h2⟩
        by_cases e:i=k
        · subst e;rw [hv] at h2;cases h2
        · exact ⟨i,by omega,h2⟩
    | some v =>
      simp only
      have hv0:=h0 v (List.mem_of_getElem? hv)
      rw [or_bit,Bool.or_eq_true,ih,pow_bit,decide_eq_true_iff]
      constructor
      · rintro (⟨i,h1,h2⟩ | h)
        · exact ⟨i,by omega,h2⟩
        · exact ⟨k,by omega,by rw [hv];congr 1;omega⟩
      · rintro ⟨i,h1,h2⟩
        by_cases e:i=k
        · subst e;rw [hv] at h2;cases h2;right;omega
        · exact .inl ⟨i,by omega,h2⟩
theorem want_iff {n:Nt} {bl wt:List Int} (hin:inAll n.tanks.length wt) (t:Nat):(n.look bl wt).wanted.testBit t=true↔(t:Int)∈wt:=by
  show (wantN wt wt.length).testBit t=true↔_
  rw [wantN_bit (fun v hv=>(hin v hv).1)]
  constructor
  · rintro ⟨i,_,h⟩;exact List.mem_of_getElem? h
  · intro h
    obtain ⟨i,hi⟩:=List.mem_iff_getElem?.1 h
    exact ⟨i,(List.getElem?_eq_some_iff.1 hi).1,hi⟩
theorem kept_iff {n:Nt} {bl wt:List Int} {k:Nat}:(n.look bl wt).kept.testBit k=(decide (k<n.tanks.length) && n.keptB k):=setOf_bit _ _ _

def sepRow (n:Nt) (j:Nat):Bool:=(List.range n.tanks.length).all fun k=>!(j.testBit k && n.keptB k)
def sepL (n:Nt) (bl wt:List Int):Bool:=wt.all fun v=>sepRow n ((n.look bl wt).joined (2^v.toNat))
theorem sepL_eq {n:Nt} (hn:n.Ok) {bl wt:List Int} (hin:inAll n.tanks.length wt) (hok:(n.look bl wt).Ok):sepL n bl wt=(n.look bl wt).separate:=by
  have h7:=hn.t7
  apply Bool.eq_iff_iff.2
  rw [NetL.separate_iff hok]
  have hjn:∀ v:Nat,v<n.tanks.length→∀ k,((n.look bl wt).joined (2^v)).testBit k=true↔(n.look bl wt).Con v k:=fun v hv k=>by
    rw [NetL.joined_iff hok (pow7 (by omega))]
    constructor
    · rintro ⟨u,hu,hc⟩
      rw [pow_bit] at hu
      have:u=v:=of_decide_eq_true hu
      rw [← this];exact hc
    · intro hc;exact ⟨v,by rw [pow_bit];simp,hc⟩
  unfold sepL sepRow
  rw [List.all_eq_true]
  constructor
  · intro h k t hk ht hc
    have hmem:=(want_iff hin t).1 ht
    have hb:=hin _ hmem
    have h1:=h _ hmem
    rw [kept_iff,Bool.and_eq_true,decide_eq_true_iff] at hk
    rw [List.all_eq_true] at h1
    have h2:=h1 k (List.mem_range.2 hk.1)
    rw [Int.toNat_natCast,(hjn t (by omega) k).2 hc.symm,hk.2] at h2
    cases h2
  · intro h v hv
    have hb:=hin v hv
    rw [List.all_eq_true]
    intro k hk
    have hk:=List.mem_range.1 hk
    cases hj:((n.look bl wt).joined (2^v.toNat)).testBit k with
    | false=>rfl
    | true =>
      cases hkb:n.keptB k with
      | false=>rfl
      | true =>
        have hc:=(hjn v.toNat (by omega) k).1 hj
        have h1:(n.look bl wt).kept.testBit k=true:=by rw [kept_iff,hkb,decide_eq_true hk];rfl
        have h2:(n.look bl wt).wanted.testBit v.toNat=true:=(want_iff hin _).2 (by rw [Int.toNat_of_nonneg hb.1];exact hv)
        exact absurd hc.symm (h k v.toNat h1 h2)

theorem sepRow_false {n:Nt} {j k:Nat} (hk:k<n.tanks.length) (h1:j.testBit k=true) (h2:n.keptB k=true):sepRow n j=false:=by
  apply Bool.eq_false_iff.2
  intro h
  unfold sepRow at h
  rw [List.all_eq_true] at h
  have:=h k (List.mem_range.2 hk)
  rw [h1,h2] at this
  cases this
theorem keptB_get {n:Nt} {k:Nat} {t:Tk} (h:n.tanks[k]?=some t):n.keptB k=t.kept:=by unfold Nt.keptB;rw [h]

set_option maxHeartbeats 8000000 in
theorem den70 (n:Nt) (hn:n.Ok) (bl wt:List Int) (hbl:bl.length<9223372036854775808) (hwl:wt.length<9223372036854775808) (hin:inAll n.tanks.length wt):DN 70 [.agg n.enc,.list 1 (bl.map encI),.list 1 (wt.map encI)] (.bool (n.look bl wt).separate):=by
  have hok:=Nt.look_ok hn bl hin
  rw [← sepL_eq hn hin hok]
  have h7:=hn.t7
  have hwlen:((wt.map encI).length:Int)=wt.length:=by simp
  refine mk Try.func70 Try.call70 rfl rfl ?_
  refine ⟨[1,2,3,7],1,[],fun σ=>∃ i:Nat,i≤wt.length∧sepL n bl wt=(wt.drop i).all (fun v=>sepRow n ((n.look bl wt).joined (2^v.toNat))) ∧
    σ=⟨[(1,.list 1 (bl.map encI)),(2,.list 1 (wt.map encI)),(3,.loc 0 0),(7,.int .i64 i)],[.flat false n.enc],.non⟩,
    fun σ=>((wt.length:Int) - slotI 7 σ).toNat,rfl,⟨rfl,rfl⟩,⟨0,Nat.zero_le _,rfl,rfl⟩,?_⟩
  rintro σ ⟨i,hi,hf,rfl⟩
  refine ⟨fun q1=>?_,fun q1=>?_⟩
  rotate_left
  · have q1:=of_decide_eq_false q1
    rw [hwlen] at q1
    show some (D.bool true)=some (D.bool _)
    rw [hf,List.drop_of_length_le (by omega)]
    rfl
  have q1:=of_decide_eq_true q1
  rw [hwlen] at q1
  have hi':i<wt.length:=by omega
  obtain ⟨v,hv⟩:∃ v,wt[i]'hi'=v:=⟨_,rfl⟩
  have hrow:=encI_get hi'
  rw [hv] at hrow
  have hmem:v∈wt:=hv ▸ List.getElem_mem hi'
  have hb:=hin v hmem
  obtain ⟨t,ht⟩:∃ t:Nat,v=t:=⟨v.toNat,by omega⟩
  subst ht
  rw [List.drop_eq_getElem_cons hi',List.all_cons,hv,Int.toNat_natCast] at hf
  have htl:t<n.tanks.length:=by omega
  have h47:=den47 n hn bl hbl t htl (joined_jn hn bl wt hok htl)
  obtain ⟨j,hj⟩:∃ j,(n.look bl wt).joined (2^t)=j:=⟨_,rfl⟩
  rw [hj] at h47 hf
  refine Or.inl ⟨by kernel_rfl,?_⟩
  refine ⟨by omega,_,hrow,?_⟩
  refine ⟨_,rfl,_,h47,?_⟩
  have hjl:((rowsT n.tanks.length j).length:Int)=n.tanks.length:=by rw [rowsT_len]
  refine ⟨[1,2,3,7,8,9],1,[],fun σ=>∃ k:Nat,k≤n.tanks.length∧(∀ x,x<k→(!(j.testBit x && n.keptB x))=true) ∧
    σ=⟨[(1,.list 1 (bl.map encI)),(2,.list 1 (wt.map encI)),(3,.loc 0 0),(7,.int .i64 i),(8,.list 1 (rowsT n.tanks.length j)),(9,.int .i64 k)],[.flat false n.enc],.non⟩,
    fun σ=>(1000 - slotI 9 σ).toNat,rfl,⟨rfl,rfl⟩,⟨0,Nat.zero_le _,fun x h=>absurd h (Nat.not_lt_zero _),rfl⟩,?_⟩
  rintro σ ⟨k,hk,hno,rfl⟩
  refine ⟨fun q2=>?_,fun q2=>?_⟩
  rotate_left
  · have q2:=of_decide_eq_false q2
    rw [hjl] at q2
    have hrowok:sepRow n j=true:=by
      unfold sepRow
      rw [List.all_eq_true]
      intro x hx
      exact hno x (by have:=List.mem_range.1 hx;omega)
    rw [hrowok,Bool.true_and] at hf
    refine ⟨(i:Int)+1,wrap64 (by omega) (by omega),?_⟩
    refine ⟨⟨rfl,rfl⟩,⟨i+1,hi',hf,rfl⟩,?_⟩
    show ((wt.length:Int) - ((i:Int)+1)).toNat<((wt.length:Int) - (i:Int)).toNat
    omega
  have q2:=of_decide_eq_true q2
  rw [hjl] at q2
  have hk':k<n.tanks.length:=by omega
  have less:(1000 - ((k:Int)+1)).toNat<(1000 - (k:Int)).toNat:=by omega
  obtain ⟨tk,htk⟩:∃ tk,n.tanks[k]?=some tk:=⟨_,List.getElem?_eq_getElem hk'⟩
  have htrow:(n.tanks.map Tk.enc)[((k:Nat):Int).toNat]?=some tk.enc:=by rw [Int.toNat_natCast,List.getElem?_map,htk];rfl
  have hkb:=keptB_get (n:=n) htk
  have next:(!(j.testBit k && n.keptB k))=true→∀ x,x<k+1→(!(j.testBit x && n.keptB x))=true:=fun h x hx=>by
    by_cases e:x=k
    · subst e;exact h
    · exact hno x (by omega)
  refine ⟨by omega,_,rowsT_get (by rw [Int.toNat_natCast];exact hk'),?_⟩
  refine ⟨fun q3=>?_,fun q3=>?_⟩
  rotate_left
  · have q3:j.testBit k=false:=q3
    refine ⟨(k:Int)+1,wrap64 (by omega) (by omega),?_⟩
    exact ⟨⟨rfl,rfl⟩,⟨k+1,hk',next (by rw [q3];rfl),rfl⟩,less⟩
  have q3:j.testBit k=true:=q3
  refine ⟨by omega,_,htrow,?_⟩
  refine ⟨fun q4=>?_,fun q4=>?_⟩
  · have q4:tk.kept=true:=q4
    show some (D.bool false)=some (D.bool _)
    rw [hf,sepRow_false hk' q3 (by rw [hkb];exact q4)]
    rfl
  · have q4:tk.kept=false:=q4
    refine ⟨(k:Int)+1,wrap64 (by omega) (by omega),?_⟩
    exact ⟨⟨rfl,rfl⟩,⟨k+1,hk',next (by rw [hkb,q4,Bool.and_false];rfl),rfl⟩,less⟩

end Go.Proofs.Vent

namespace Go.Proofs.Vent
open Go.V Go.Proofs

theorem shr_nat16 (n k:Nat) (hk:k≤16):(n:Int).fdiv (2^(min (k:Int).toNat IntKind.u16.bits))=((n / 2^k:Nat):Int):=by
  have h1:min (k:Int).toNat IntKind.u16.bits=k:=by show min k 16=k;omega
  rw [h1]
  have h2:(2:Int)^k=((2^k:Nat):Int):=(Int.natCast_pow 2 k).symm
  rw [h2,Int.fdiv_eq_ediv_of_nonneg _ (Int.natCast_nonneg _)]
  exact (Int.natCast_ediv _ _).symm
theorem tmod2 (n k:Nat):((n / 2^k:Nat):Int).tmod 2=((n / 2^k % 2:Nat):Int):=by
  rw [Int.tmod_eq_emod_of_nonneg (Int.natCast_nonneg _)]
  exact (Int.natCast_emod _ _).symm
theorem bit_mod (n k:Nat):(((n / 2^k % 2:Nat):Int)==1)=n.testBit k:=by
  rw [Nat.testBit_eq_decide_div_mod_eq]
  have:n / 2^k % 2<2:=Nat.mod_lt _ (by decide)
  by_cases h:n / 2^k % 2=1
  · simp [h]
  · have h0:n / 2^k % 2=0:=by omega
    simp [h0]

def flB (n:Nt) (B i:Nat):Bool:=!(n.weldB i) && B.testBit i
def flK (n:Nt) (B k:Nat):List Int:=((List.range k).filter (flB n B)).map fun i=>((i:Nat):Int)
theorem flK_succ (n:Nt) (B k:Nat):flK n B (k+1)=if flB n B k=true then flK n B k++[(k:Int)] else flK n B k:=by
  unfold flK
  rw [List.range_succ,List.filter_append,List.map_append]
  by_cases h:flB n B k=true
  · simp [h]
  · simp [h]
theorem flK_len (n:Nt) (B k:Nat):(flK n B k).length≤k:=by
  unfold flK
  rw [List.length_map]
  exact Nat.le_trans (List.length_filter_le _ _) (by simp)

set_option maxHeartbeats 4000000 in
theorem den40 (n:Nt) (hn:n.Ok) (B:Nat):DN 40 [.agg n.enc,.int .u16 B] (.list 1 ((flK n B n.pipes.length).map encI)):=by
  have h12:=hn.p
  have hpl:((n.pipes.map Rp.enc).length:Int)=n.pipes.length:=by simp
  refine mk Try.func40 Try.call40 rfl rfl ?_
  refine ⟨[1,2,5,6],1,[(.slot 5,1)],fun σ=>∃ (i g:Nat),i≤n.pipes.length ∧
    σ=⟨[(1,.int .u16 B),(2,.loc 0 0),(5,.sl 1 g 0 ((flK n B i).map encI).length),(6,.int .i64 i)],[.flat false n.enc,.rows false g 1 ((flK n B i).map encI)],.non⟩,
    fun σ=>(1000 - slotI 6 σ).toNat,rfl,⟨rfl,rfl⟩,⟨0,0,Nat.zero_le _,rfl⟩,?_⟩
  rintro σ ⟨i,g,hi,rfl⟩
  have hle:=flK_len n B i
  have hsucc:=flK_succ n B i
  refine ⟨fun h1=>?_,fun h1=>?_⟩
  rotate_left
  · have h1:=of_decide_eq_false h1
    rw [hpl] at h1
    obtain rfl:i=n.pipes.length:=by omega
    have hr:reify [Box.flat false n.enc,Box.rows false g 1 ((flK n B n.pipes.length).map encI)] 8 (.sl 1 g 0 ((flK n B n.pipes.length).map encI).length)=some (.list 1 ((flK n B n.pipes.length).map encI)):=reify_sl rfl rfl
    exact hr
  have h1:=of_decide_eq_true h1
  rw [hpl] at h1
  have hi':i<n.pipes.length:=by omega
  have less:(1000 - ((i:Int)+1)).toNat<(1000 - (i:Int)).toNat:=by omega
  obtain ⟨p,hp⟩:∃ p,n.pipes[i]?=some p:=⟨_,List.getElem?_eq_getElem hi'⟩
  have hprow:(n.pipes.map Rp.enc)[((i:Int)).toNat]?=some p.enc:=by rw [Int.toNat_natCast,List.getElem?_map,hp];rfl
  have hw:n.weldB i=p.welded:=pipe_weld (by rw [Int.toNat_natCast];exact hp)
  have skip:flB n B i=false→flK n B (i+1)=flK n B i:=fun h=>by rw [hsucc,if_neg (by rw [h];decide)]
  refine ⟨by omega,_,hprow,?_⟩
  refine ⟨fun h2=>?_,fun h2=>?_⟩
  rotate_left
  · have h2:(!p.welded)=false:=h2
    refine ⟨(i:Int)+1,wrap64 (by omega) (by omega),?_⟩
    exact ⟨⟨rfl,rfl⟩,⟨i+1,g,hi',by rw [skip (by unfold flB;rw [hw,h2];rfl)];rfl⟩,less⟩
  have h2:(!p.welded)=true:=h2
  refine ⟨Int.natCast_nonneg _,_,shr_nat16 B i (by omega),?_⟩
  refine ⟨by decide,_,tmod2 B i,?_⟩
  refine ⟨fun h3=>?_,fun h3=>?_⟩
  · have h3:(((B / 2^i % 2:Nat):Int)==1)=true:=h3
    rw [bit_mod] at h3
    rw [if_pos (by unfold flB;rw [hw,h2,h3];rfl)] at hsucc
    have hcat:(flK n B i).map encI++[[D.int .i64 i]]=(flK n B (i+1)).map encI:=by rw [hsucc];simp [encI]
    refine ⟨trivial,iff' (by rw [beq_self];rfl) ⟨Nat.le_of_eq (Nat.zero_add _),?_,_,old_all rfl,_,hcat,trivial,?_⟩⟩
    · rw [encI_len];show (_+1)*8≤mostBytes;unfold mostBytes;omega
    refine ⟨(i:Int)+1,wrap64 (by omega) (by omega),?_⟩
    exact ⟨⟨rfl,rfl⟩,⟨i+1,g+1,hi',rfl⟩,less⟩
  · have h3:(((B / 2^i % 2:Nat):Int)==1)=false:=h3
    rw [bit_mod] at h3
    refine ⟨(i:Int)+1,wrap64 (by omega) (by omega),?_⟩
    exact ⟨⟨rfl,rfl⟩,⟨i+1,g,hi',by rw [skip (by unfold flB;rw [h3,Bool.and_false])];rfl⟩,less⟩

theorem den45 (fr bw wt:List Int) (hfr:fr.length<9223372036854775808) (hwl:wt.length<9223372036854775808):DN 45 [.agg [.list 1 (fr.map encI),.list 1 (bw.map encI)],.list 1 (wt.map encI)] (.bool (wt.all (hasI fr))):=by
  refine mk Try.func45 Try.call45 rfl rfl ?_
  have hlen:((wt.map encI).length:Int)=wt.length:=by simp
  refine ⟨[1,2,5],1,[],fun σ=>∃ i:Nat,i≤wt.length∧wt.all (hasI fr)=(wt.drop i).all (hasI fr)∧σ=⟨[(1,.list 1 (wt.map encI)),(2,.loc 0 0),(5,.int .i64 i)],[.flat false [.list 1 (fr.map encI),.list 1 (bw.map encI)]],.non⟩,
    fun σ=>((wt.length:Int) - slotI 5 σ).toNat,rfl,⟨rfl,rfl⟩,⟨0,Nat.zero_le _,rfl,rfl⟩,?_⟩
  rintro σ ⟨i,hi,hf,rfl⟩
  refine ⟨fun h1=>?_,fun h1=>?_⟩
  rotate_left
  · have h1:=of_decide_eq_false h1
    rw [hlen] at h1
    show some (D.bool true)=some (D.bool _)
    rw [hf,List.drop_of_length_le (by omega)]
    rfl
  have h1:=of_decide_eq_true h1
  rw [hlen] at h1
  have hi':i<wt.length:=by omega
  rw [List.drop_eq_getElem_cons hi',List.all_cons] at hf
  refine Or.inl ⟨by kernel_rfl,?_⟩
  refine ⟨by omega,_,encI_get hi',?_⟩
  refine ⟨_,rfl,_,den46 fr wt[i] hfr,?_⟩
  refine ⟨fun h2=>?_,fun h2=>?_⟩
  · have h2:(!(hasI fr wt[i]))=true:=h2
    have h2:hasI fr wt[i]=false:=by simpa using h2
    show some (D.bool false)=some (D.bool _)
    rw [hf,h2]
    rfl
  · have h2:(!(hasI fr wt[i]))=false:=h2
    have h2:hasI fr wt[i]=true:=by simpa using h2
    rw [h2,Bool.true_and] at hf
    refine ⟨(i:Int)+1,wrap64 (by omega) (by omega),?_⟩
    refine ⟨⟨rfl,rfl⟩,⟨i+1,hi',hf,rfl⟩,?_⟩
    show ((wt.length:Int) - ((i:Int)+1)).toNat<((wt.length:Int) - (i:Int)).toNat
    omega

/-! What is apart. -/

theorem NetL.passN_congr {a b:NetL} (hp:a.pipes=b.pipes) (ho:a.op=b.op) (s:Nat):∀ k,a.passN s k=b.passN s k
  | 0=>rfl
  | k+1=>by
    have ih:=NetL.passN_congr hp ho s k
    have h2:a.opN k=b.opN k:=by unfold NetL.opN;rw [ho]
    rw [a.passN_succ,b.passN_succ,hp,ih,h2]
theorem NetL.joined_congr {a b:NetL} (hp:a.pipes=b.pipes) (ho:a.op=b.op) (s:Nat):a.joined s=b.joined s:=by
  have:∀ r t,a.joinF r t=b.joinF r t:=by
    intro r
    induction r with
    | zero=>intro t;rfl
    | succ r ih =>
      intro t
      unfold NetL.joinF NetL.pass
      rw [hp,NetL.passN_congr hp ho,ih]
  exact this 128 s
theorem look_joined (n:Nt) (bl wt wt':List Int) (s:Nat):(n.look bl wt).joined s=(n.look bl wt').joined s:=NetL.joined_congr (a:=n.look bl wt) (b:=n.look bl wt') rfl rfl s

theorem NetL.joined_one {m:NetL} (hm:m.Ok) {v:Nat} (hv:v<7) (k:Nat):(m.joined (2^v)).testBit k=true↔m.Con v k:=by
  rw [NetL.joined_iff hm (pow7 hv)]
  constructor
  · rintro ⟨u,hu,hc⟩
    rw [pow_bit] at hu
    have:u=v:=of_decide_eq_true hu
    rw [← this];exact hc
  · intro hc;exact ⟨v,by rw [pow_bit];simp,hc⟩
theorem NetL.firstJ_iff {m:NetL} (hm:m.Ok) {u v:Nat} (hu:u<7) (hv:v<7):m.firstJ u=m.firstJ v↔m.Con u v:=by
  have first:∀ v,v<7→∃ f:Nat,m.firstJ v=f∧m.Con v f:=fun v hv=>by
    have hj:=(NetL.joined_one hm hv v).2 (.refl v)
    have hne:0<(Vent.tanks (m.joined (2^v))).length:=by
      rw [tanks_eq,List.length_map]
      exact List.length_pos_of_mem (mem_tanksU.2 ⟨hv,hj⟩)
    have hmem:m.firstJ v∈Vent.tanks (m.joined (2^v)):=by
      unfold NetL.firstJ
      rw [dAt_get hne]
      exact List.getElem_mem hne
    rw [tanks_eq] at hmem
    obtain ⟨f,hf,he⟩:=List.mem_map.1 hmem
    exact ⟨f,he.symm,(NetL.joined_one hm hv f).1 (mem_tanksU.1 hf).2⟩
  constructor
  · intro h
    obtain ⟨f,h1,h2⟩:=first u hu
    obtain ⟨g,h3,h4⟩:=first v hv
    have : f = g := by have : (f : Int) = g := by rw [← h1, ← h3, h]
                       omega
    subst this
    exact h2.trans h4.symm
  · intro hc
    have:m.joined (2^u)=m.joined (2^v):=by
      apply Nat.eq_of_testBit_eq
      intro i
      apply Bool.eq_iff_iff.2
      rw [NetL.joined_one hm hu,NetL.joined_one hm hv]
      exact ⟨fun h=>hc.symm.trans h,fun h=>hc.trans h⟩
    unfold NetL.firstJ
    rw [this]

def Nt.apartB (n:Nt) (bl wt:List Int):Bool:=if n.lookE bl [] false=0 then (n.look bl wt).separate else false

set_option maxHeartbeats 8000000 in
theorem den41 (n:Nt) (bl wt:List Int) (hbl:bl.length<9223372036854775808) (hwl:wt.length<9223372036854775808) (hin:inAll n.tanks.length wt):DN 41 [.agg n.enc,.list 1 (bl.map encI),.list 1 (wt.map encI)] (.bool (n.apartB bl wt)):=by
  refine mk Try.func41 Try.call41 rfl rfl ?_
  have hwlen:((wt.map encI).length:Int)=wt.length:=by simp
  have htl:((n.tanks.map Tk.enc).length:Int)=n.tanks.length:=by simp
  have h17:=den17 n bl hbl
  by_cases he:n.lookE bl [] false=0
  rotate_left
  · have hR:n.joinedR bl=([],n.lookE bl [] false):=by unfold Nt.joinedR;rw [if_neg he]
    have hA:n.apartB bl wt=false:=by unfold Nt.apartB;rw [if_neg he]
    rw [hA]
    rw [hR] at h17
    refine ⟨_,rfl,_,h17,?_⟩
    refine ⟨fun _=>rfl,fun h=>?_⟩
    have h:(n.lookE bl [] false != 0)=false:=h
    exact absurd (by simpa using h) he
  have hn:=(Nt.lookE_ok he).1
  have h7:=hn.t7
  have hok:=Nt.look_ok hn bl hin
  have hok0:=Nt.look_okn he
  have hR:n.joinedR bl=(firsts (n.look bl []) n.tanks.length,0):=by unfold Nt.joinedR;rw [if_pos he,firsts_rows]
  have hA:n.apartB bl wt=sepL n bl wt:=by unfold Nt.apartB;rw [if_pos he,sepL_eq hn hin hok]
  rw [hA]
  rw [hR] at h17
  have hfl:(((firsts (n.look bl []) n.tanks.length).map encI).length:Int)=n.tanks.length:=by simp [firsts]
  have hfget:∀ k,k<n.tanks.length→((firsts (n.look bl []) n.tanks.length).map encI)[k]?=some [.int .i64 ((n.look bl []).firstJ k)]:=fun k hk=>by
    simp [firsts,hk,encI]
  refine ⟨_,rfl,_,h17,?_⟩
  refine ⟨fun h=>absurd (show ((0:Int) != 0)=true from h) (by decide),fun _=>?_⟩
  refine ⟨fun h=>?_,fun _=>?_⟩
  · have h:((((firsts (n.look bl []) n.tanks.length).map encI).length:Int) != ((n.tanks.map Tk.enc).length:Int))=true:=h
    rw [hfl,htl] at h
    simp at h
  refine ⟨[2,3,7,9],1,[],fun σ=>∃ i:Nat,i≤wt.length∧sepL n bl wt=(wt.drop i).all (fun v=>sepRow n ((n.look bl wt).joined (2^v.toNat))) ∧
    σ=⟨[(2,.list 1 (wt.map encI)),(3,.loc 0 0),(7,.list 1 ((firsts (n.look bl []) n.tanks.length).map encI)),(9,.int .i64 i)],[.flat false n.enc],.non⟩,
    fun σ=>((wt.length:Int) - slotI 9 σ).toNat,rfl,⟨rfl,rfl⟩,⟨0,Nat.zero_le _,rfl,rfl⟩,?_⟩
  rintro σ ⟨i,hi,hf,rfl⟩
  refine ⟨fun q1=>?_,fun q1=>?_⟩
  rotate_left
  · have q1:=of_decide_eq_false q1
    rw [hwlen] at q1
    show some (D.bool true)=some (D.bool _)
    rw [hf,List.drop_of_length_le (by omega)]
    rfl
  have q1:=of_decide_eq_true q1
  rw [hwlen] at q1
  have hi':i<wt.length:=by omega
  obtain ⟨v,hv⟩:∃ v,wt[i]'hi'=v:=⟨_,rfl⟩
  have hrow:=encI_get hi'
  rw [hv] at hrow
  have hmem:v∈wt:=hv ▸ List.getElem_mem hi'
  have hb:=hin v hmem
  obtain ⟨t,ht⟩:∃ t:Nat,v=t:=⟨v.toNat,by omega⟩
  subst ht
  rw [List.drop_eq_getElem_cons hi',List.all_cons,hv,Int.toNat_natCast] at hf
  have htl':t<n.tanks.length:=by omega
  obtain ⟨j,hj⟩:∃ j,(n.look bl wt).joined (2^t)=j:=⟨_,rfl⟩
  have hjk:∀ k,k<n.tanks.length→((n.look bl []).firstJ k==(n.look bl []).firstJ t)=j.testBit k:=fun k hk=>by
    rw [← hj,look_joined n bl wt []]
    apply Bool.eq_iff_iff.2
    rw [NetL.joined_one hok0 (by omega),beq_iff_eq,NetL.firstJ_iff hok0 (by omega) (by omega)]
    exact ⟨fun h=>h.symm,fun h=>h.symm⟩
  rw [hj] at hf
  refine ⟨[2,3,7,9,10],1,[],fun σ=>∃ k:Nat,k≤n.tanks.length∧(∀ x,x<k→(!(j.testBit x && n.keptB x))=true) ∧
    σ=⟨[(2,.list 1 (wt.map encI)),(3,.loc 0 0),(7,.list 1 ((firsts (n.look bl []) n.tanks.length).map encI)),(9,.int .i64 i),(10,.int .i64 k)],[.flat false n.enc],.non⟩,
    fun σ=>(1000 - slotI 10 σ).toNat,rfl,⟨rfl,rfl⟩,⟨0,Nat.zero_le _,fun x h=>absurd h (Nat.not_lt_zero _),rfl⟩,?_⟩
  rintro σ ⟨k,hk,hno,rfl⟩
  refine ⟨fun q2=>?_,fun q2=>?_⟩
  rotate_left
  · have q2:=of_decide_eq_false q2
    rw [hfl] at q2
    have hrowok:sepRow n j=true:=by
      unfold sepRow
      rw [List.all_eq_true]
      intro x hx
      exact hno x (by have:=List.mem_range.1 hx;omega)
    rw [hrowok,Bool.true_and] at hf
    refine ⟨(i:Int)+1,wrap64 (by omega) (by omega),?_⟩
    refine ⟨⟨rfl,rfl⟩,⟨i+1,hi',hf,rfl⟩,?_⟩
    show ((wt.length:Int) - ((i:Int)+1)).toNat<((wt.length:Int) - (i:Int)).toNat
    omega
  have q2:=of_decide_eq_true q2
  rw [hfl] at q2
  have hk':k<n.tanks.length:=by omega
  have less:(1000 - ((k:Int)+1)).toNat<(1000 - (k:Int)).toNat:=by omega
  obtain ⟨tk,htk⟩:∃ tk,n.tanks[k]?=some tk:=⟨_,List.getElem?_eq_getElem hk'⟩
  have htrow:(n.tanks.map Tk.enc)[((k:Nat):Int).toNat]?=some tk.enc:=by rw [Int.toNat_natCast,List.getElem?_map,htk];rfl
  have hkb:=keptB_get (n:=n) htk
  have next:(!(j.testBit k && n.keptB k))=true→∀ x,x<k+1→(!(j.testBit x && n.keptB x))=true:=fun h x hx=>by
    by_cases e:x=k
    · subst e;exact h
    · exact hno x (by omega)
  refine Or.inl ⟨by kernel_rfl,?_⟩
  refine ⟨by omega,_,htrow,?_⟩
  refine ⟨fun q3=>?_,fun q3=>?_⟩
  rotate_left
  · have q3:tk.kept=false:=q3
    refine ⟨(k:Int)+1,wrap64 (by omega) (by omega),?_⟩
    exact ⟨⟨rfl,rfl⟩,⟨k+1,hk',next (by rw [hkb,q3,Bool.and_false];rfl),rfl⟩,less⟩
  have q3:tk.kept=true:=q3
  refine ⟨by omega,_,hfget k hk',?_⟩
  refine ⟨by omega,_,hrow,?_⟩
  refine ⟨by omega,_,hfget t htl',?_⟩
  refine ⟨fun q4=>?_,fun q4=>?_⟩
  · have q4:((n.look bl []).firstJ k==(n.look bl []).firstJ t)=true:=q4
    rw [hjk k hk'] at q4
    show some (D.bool false)=some (D.bool _)
    rw [hf,sepRow_false hk' q4 (by rw [hkb];exact q3)]
    rfl
  · have q4:((n.look bl []).firstJ k==(n.look bl []).firstJ t)=false:=q4
    rw [hjk k hk'] at q4
    refine ⟨(k:Int)+1,wrap64 (by omega) (by omega),?_⟩
    exact ⟨⟨rfl,rfl⟩,⟨k+1,hk',next (by rw [q4];rfl),rfl⟩,less⟩

end Go.Proofs.Vent
