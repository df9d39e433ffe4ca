/- Whether pipes are a way of gas; Proves. No condition. -/
import Derived.Test.YtfdflbdnjimfaaaPackTA
import Derived.Test.YtfdflbdnjimfaaaPackTC

namespace Go.Proofs.Vent
open Go.V Go.Proofs

theorem offB_false' {many v:Int} (h:offB many v=false):0≤v∧v<many:=by
 unfold offB at h
 rw [Bool.or_eq_false_iff,decide_eq_false_iff_not,decide_eq_false_iff_not] at h
 omega
def NetL.gasL (n:NetL) (way:List Int):Nat→Nat→Nat→Nat→Bool
 | 0,_,_,at_=>n.wanted.testBit at_
 | c+1,k,seen,at_=>match way[k]? with
  | none=>false
  | some v=>match offB n.pipes.length v with
   | true=>false
   | false=>match decide (0<k) && n.wanted.testBit at_ with
    | true=>false
    | false=>match n.pipes[v.toNat]? with
     | none=>false
     | some p=>match p.way at_ with
      | none=>false
      | some (_,to)=>match seen.testBit to || n.kept.testBit to with
       | true=>false
       | false=>n.gasL way c (k+1) (seen ||| 2^to) to
def NetL.gas (n:NetL) (fr:Nat) (way:List Int):Bool:=n.gasL way way.length 0 (2^fr) fr

set_option maxHeartbeats 8000000 in
theorem den76 (n:NetL) (h:n.Ok) (fr:Nat) (hfr:fr<7) (way:List Int) (hwl:way.length<9223372036854775808):DN 76 [.ro n.enc,.int .i64 fr,.list 1 (way.map encI)] (.bool (n.gas fr way)):=by
 refine mk Try.func76 Try.call76 rfl rfl ?_
 have hw7:=h.w
 have hk7:=h.k
 have h7:=h.t7
 have h12:=h.p
 have hpl:((n.pipes.map Pp.enc).length:Int)=n.pipes.length:=by simp
 have hwy:((way.map encI).length:Int)=way.length:=by simp
 have fin:∀ b,n.gas fr way=b→some (D.bool b)=some (D.bool (n.gas fr way)):=fun b h=>by rw [h]
 refine ⟨_,rfl,_,den57 fr (by omega),?_⟩
 refine ⟨[0,7,8,15,16,17],0,[],fun σ=>∃ k seen at_:Nat,k≤way.length∧n.gas fr way=n.gasL way (way.length - k) k seen at_∧seen<2^7∧at_<7 ∧
  σ=⟨[(0,.ro n.enc),(7,.int .u64 ((seen:Nat):Int)),(8,.int .i64 at_),(15,.list 1 (way.map encI)),(16,.int .i64 (way.map encI).length),(17,.int .i64 k)],[],.non⟩,
  fun σ=>((way.length:Int) - slotI 17 σ).toNat,rfl,⟨rfl,rfl⟩,⟨0,2^fr,fr,Nat.zero_le _,rfl,pow7 hfr,hfr,rfl⟩,?_⟩
 rintro σ ⟨k,seen,at_,hk,hrec,hseen,hat,rfl⟩
 refine ⟨fun h1=>?_,fun h1=>?_⟩
 rotate_left
 ·have h1:=of_decide_eq_false h1
  rw [hwy] at h1
  have e:way.length - k=0:=by omega
  rw [e] at hrec
  exact ⟨_,rfl,_,den64 n.wanted at_ (by omega) (by omega),fin _ hrec⟩
 have h1:=of_decide_eq_true h1
 rw [hwy] at h1
 have hk':k<way.length:=by omega
 have less:((way.length:Int) - ((k:Int)+1)).toNat<((way.length:Int) - (k:Int)).toNat:=by omega
 have hrow:=encI_get hk'
 obtain ⟨v,hv⟩:∃ v,way[k]=v:=⟨_,rfl⟩
 rw [hv] at hrow
 have hgv:way[k]?=some v:=by rw [List.getElem?_eq_getElem hk',hv]
 have hst:n.gasL way (way.length - k) k seen at_=match offB n.pipes.length v with
     | true=>false
     | false=>match decide (0<k) && n.wanted.testBit at_ with
      | true=>false
      | false=>match n.pipes[v.toNat]? with
       | none=>false
       | some p=>match p.way at_ with
        | none=>false
        | some (_,to)=>match seen.testBit to || n.kept.testBit to with
         | true=>false
         | false=>n.gasL way (way.length - (k+1)) (k+1) (seen ||| 2^to) to:=by
   rw [show way.length - k=(way.length - (k+1))+1 by omega]
   conv=>lhs;unfold NetL.gasL
   rw [hgv]
 have h52:=den52 [v] ((n.pipes.map Pp.enc).length:Int) (by simp)
 have hany:[v].any (offB ((n.pipes.map Pp.enc).length:Int))=offB n.pipes.length v:=by rw [hpl];simp
 rw [hany] at h52
 refine ⟨by omega,_,hrow,?_⟩
 refine ⟨_,rfl,_,h52,?_⟩
 refine ⟨fun h2=>?_,fun h2=>?_⟩
 ·have h2:offB n.pipes.length v=true:=h2
  rw [h2] at hst
  exact fin false (hrec.trans hst)
 have h2:offB n.pipes.length v=false:=h2
 rw [h2] at hst
 have hin:=offB_false' h2
 obtain ⟨p,hp⟩:∃ p,n.pipes[v.toNat]?=some p:=⟨_,List.getElem?_eq_getElem (by omega)⟩
 have hrowp:(n.pipes.map Pp.enc)[v.toNat]?=some p.enc:=by rw [List.getElem?_map,hp];rfl
 have hpe:=h.pe p (List.mem_of_getElem? hp)
 rw [hp] at hst
 refine ⟨fun h3=>?_,fun h3=>?_⟩
 ·have h3:(k:Int) > 0:=of_decide_eq_true h3
  have h3:decide (0<k)=true:=by simp;omega
  rw [h3] at hst
  refine ⟨_,rfl,_,den64 n.wanted at_ (by omega) (by omega),?_⟩
  refine ⟨fun h4=>?_,fun h4=>?_⟩
  ·have h4:n.wanted.testBit at_=true:=h4
   rw [h4] at hst
   exact fin false (hrec.trans hst)
  have h4:n.wanted.testBit at_=false:=h4
  rw [h4] at hst
  refine ⟨hin.1,_,hrowp,?_⟩
  refine ⟨fun h5=>?_,fun h5=>?_⟩
  ·have h5:((at_:Int)==p.fr)=true:=h5
   have h5:at_=p.fr:=by simp at h5;omega
   have hway:p.way at_=some (1,p.to):=by unfold Pp.way;rw [if_pos h5]
   obtain ⟨to,hto⟩:∃ to,p.to=to:=⟨_,rfl⟩
   rw [hto] at hway
   rw [hto]
   simp only [hway,Bool.and_false] at hst
   have hto7:to<7:=by omega
   refine ⟨_,rfl,_,den64 seen to (by omega) (by omega),?_⟩
   refine ⟨fun h7=>?_,fun h7=>?_⟩
   ·have h7:seen.testBit to=true:=h7
    rw [h7] at hst
    exact fin false (hrec.trans hst)
   have h7:seen.testBit to=false:=h7
   rw [h7] at hst
   refine ⟨_,rfl,_,den64 n.kept to (by omega) (by omega),?_⟩
   refine ⟨fun h8=>?_,fun h8=>?_⟩
   ·have h8:n.kept.testBit to=true:=h8
    rw [h8] at hst
    exact fin false (hrec.trans hst)
   have h8:n.kept.testBit to=false:=h8
   rw [h8] at hst
   refine ⟨_,rfl,_,den57 to (by omega),?_⟩
   refine ⟨_,bits_or (by omega) (pow_lt62 (by omega)),?_⟩
   refine ⟨(k:Int)+1,wrap64 (by omega) (by omega),?_⟩
   exact ⟨⟨rfl,rfl⟩,⟨k+1,seen ||| 2^to,to,hk',hrec.trans hst,or_lt hseen (pow7 hto7),hto7,rfl⟩,less⟩
  ·have h5:((at_:Int)==p.fr)=false:=h5
   have h5:¬ at_=p.fr:=by simp at h5;omega
   refine ⟨fun h6=>?_,fun h6=>?_⟩
   ·have h6:((at_:Int)==p.to)=true:=h6
    have h6:at_=p.to:=by simp at h6;omega
    have hway:p.way at_=some (-1,p.fr):=by unfold Pp.way;rw [if_neg h5,if_pos h6]
    obtain ⟨to,hto⟩:∃ to,p.fr=to:=⟨_,rfl⟩
    rw [hto] at hway
    rw [hto]
    simp only [hway,Bool.and_false] at hst
    have hto7:to<7:=by omega
    refine ⟨_,rfl,_,den64 seen to (by omega) (by omega),?_⟩
    refine ⟨fun h7=>?_,fun h7=>?_⟩
    ·have h7:seen.testBit to=true:=h7
     rw [h7] at hst
     exact fin false (hrec.trans hst)
    have h7:seen.testBit to=false:=h7
    rw [h7] at hst
    refine ⟨_,rfl,_,den64 n.kept to (by omega) (by omega),?_⟩
    refine ⟨fun h8=>?_,fun h8=>?_⟩
    ·have h8:n.kept.testBit to=true:=h8
     rw [h8] at hst
     exact fin false (hrec.trans hst)
    have h8:n.kept.testBit to=false:=h8
    rw [h8] at hst
    refine ⟨_,rfl,_,den57 to (by omega),?_⟩
    refine ⟨_,bits_or (by omega) (pow_lt62 (by omega)),?_⟩
    refine ⟨(k:Int)+1,wrap64 (by omega) (by omega),?_⟩
    exact ⟨⟨rfl,rfl⟩,⟨k+1,seen ||| 2^to,to,hk',hrec.trans hst,or_lt hseen (pow7 hto7),hto7,rfl⟩,less⟩
   ·have h6:((at_:Int)==p.to)=false:=h6
    have h6:¬ at_=p.to:=by simp at h6;omega
    have hway:p.way at_=none:=by unfold Pp.way;rw [if_neg h5,if_neg h6]
    simp only [hway,Bool.and_false] at hst
    exact fin false (hrec.trans hst)
 ·have h3:¬ (k:Int) > 0:=of_decide_eq_false h3
  have h3:decide (0<k)=false:=by simp;omega
  rw [h3] at hst
  refine ⟨hin.1,_,hrowp,?_⟩
  refine ⟨fun h5=>?_,fun h5=>?_⟩
  ·have h5:((at_:Int)==p.fr)=true:=h5
   have h5:at_=p.fr:=by simp at h5;omega
   have hway:p.way at_=some (1,p.to):=by unfold Pp.way;rw [if_pos h5]
   obtain ⟨to,hto⟩:∃ to,p.to=to:=⟨_,rfl⟩
   rw [hto] at hway
   rw [hto]
   simp only [hway,Bool.false_and] at hst
   have hto7:to<7:=by omega
   refine ⟨_,rfl,_,den64 seen to (by omega) (by omega),?_⟩
   refine ⟨fun h7=>?_,fun h7=>?_⟩
   ·have h7:seen.testBit to=true:=h7
    rw [h7] at hst
    exact fin false (hrec.trans hst)
   have h7:seen.testBit to=false:=h7
   rw [h7] at hst
   refine ⟨_,rfl,_,den64 n.kept to (by omega) (by omega),?_⟩
   refine ⟨fun h8=>?_,fun h8=>?_⟩
   ·have h8:n.kept.testBit to=true:=h8
    rw [h8] at hst
    exact fin false (hrec.trans hst)
   have h8:n.kept.testBit to=false:=h8
   rw [h8] at hst
   refine ⟨_,rfl,_,den57 to (by omega),?_⟩
   refine ⟨_,bits_or (by omega) (pow_lt62 (by omega)),?_⟩
   refine ⟨(k:Int)+1,wrap64 (by omega) (by omega),?_⟩
   exact ⟨⟨rfl,rfl⟩,⟨k+1,seen ||| 2^to,to,hk',hrec.trans hst,or_lt hseen (pow7 hto7),hto7,rfl⟩,less⟩
  ·have h5:((at_:Int)==p.fr)=false:=h5
   have h5:¬ at_=p.fr:=by simp at h5;omega
   refine ⟨fun h6=>?_,fun h6=>?_⟩
   ·have h6:((at_:Int)==p.to)=true:=h6
    have h6:at_=p.to:=by simp at h6;omega
    have hway:p.way at_=some (-1,p.fr):=by unfold Pp.way;rw [if_neg h5,if_pos h6]
    obtain ⟨to,hto⟩:∃ to,p.fr=to:=⟨_,rfl⟩
    rw [hto] at hway
    rw [hto]
    simp only [hway,Bool.false_and] at hst
    have hto7:to<7:=by omega
    refine ⟨_,rfl,_,den64 seen to (by omega) (by omega),?_⟩
    refine ⟨fun h7=>?_,fun h7=>?_⟩
    ·have h7:seen.testBit to=true:=h7
     rw [h7] at hst
     exact fin false (hrec.trans hst)
    have h7:seen.testBit to=false:=h7
    rw [h7] at hst
    refine ⟨_,rfl,_,den64 n.kept to (by omega) (by omega),?_⟩
    refine ⟨fun h8=>?_,fun h8=>?_⟩
    ·have h8:n.kept.testBit to=true:=h8
     rw [h8] at hst
     exact fin false (hrec.trans hst)
    have h8:n.kept.testBit to=false:=h8
    rw [h8] at hst
    refine ⟨_,rfl,_,den57 to (by omega),?_⟩
    refine ⟨_,bits_or (by omega) (pow_lt62 (by omega)),?_⟩
    refine ⟨(k:Int)+1,wrap64 (by omega) (by omega),?_⟩
    exact ⟨⟨rfl,rfl⟩,⟨k+1,seen ||| 2^to,to,hk',hrec.trans hst,or_lt hseen (pow7 hto7),hto7,rfl⟩,less⟩
   ·have h6:((at_:Int)==p.to)=false:=h6
    have h6:¬ at_=p.to:=by simp at h6;omega
    have hway:p.way at_=none:=by unfold Pp.way;rw [if_neg h5,if_neg h6]
    simp only [hway,Bool.false_and] at hst
    exact fin false (hrec.trans hst)

end Go.Proofs.Vent

namespace Go.Proofs.Vent
open Go.V Go.Proofs

theorem den75 (n:NetL) (h:n.Ok) (fr:Nat) (hfr:fr<7) (way:List Int) (hwl:way.length<9223372036854775808):DN 75 [.int .i64 fr,.ro [.ro n.enc],.ro [.list 1 (way.map encI)]] (.bool (n.gas fr way)):=by
 refine mk Try.func75 Try.call75 rfl rfl ?_
 exact ⟨_,rfl,_,den76 n h fr hfr way hwl,rfl⟩

theorem den94g (n:NetL) (h:n.Ok) (way:List Int) (hwl:way.length<9223372036854775808) (l:List Nat) (hl:∀ k∈l,k<7) (hlen:l.length<1000) :
    DN 94 [.list 1 (intsN l),.clo (.func 75) [] [.ro [.ro n.enc],.ro [.list 1 (way.map encI)]]] (.int .i64 (findI (fun k=>n.gas k way) l 0)):=by
  refine mk Try.func94 Try.call94 rfl rfl ?_
  have hll:=intsN_len l
  refine ⟨[0,1,7,8],0,[],fun σ=>∃ i:Nat,i≤l.length∧findI (fun k=>n.gas k way) l 0=findI (fun k=>n.gas k way) (l.drop i) i∧σ=⟨[(0,.list 1 (intsN l)),(1,.clo (.func 75) [] [.ro [.ro n.enc],.ro [.list 1 (way.map encI)]]),(7,.int .i64 (intsN l).length),(8,.int .i64 i)],[],.non⟩,fun σ=>(1000 - slotI 8 σ).toNat,rfl,⟨rfl,rfl⟩,⟨0,Nat.zero_le _,rfl,rfl⟩,?_⟩
  rintro σ ⟨i,hi',hf,rfl⟩
  refine ⟨fun h1=>?_,fun h1=>?_⟩
  ·have h1:=of_decide_eq_true h1
   rw [hll] at h1
   have hi':i<l.length:=by omega
   have hrow:=intsN_get hi'
   have hdrop:l.drop i=l[i]::l.drop (i+1):=List.drop_eq_getElem_cons hi'
   rw [hdrop,findI] at hf
   refine ⟨by omega,_,hrow,?_⟩
   refine ⟨_,rfl,_,den75 n h l[i] (hl _ (List.getElem_mem hi')) way hwl,?_⟩
   refine ⟨fun h2=>?_,fun h2=>?_⟩
   ·have h2:n.gas l[i] way=true:=h2
    rw [h2] at hf
    show some (D.int .i64 (i:Int))=some (D.int .i64 _)
    rw [hf]
   ·have h2:n.gas l[i] way=false:=h2
    rw [h2] at hf
    refine ⟨_,wrap64 (by omega) (by omega),?_⟩
    refine ⟨⟨rfl,rfl⟩,⟨i+1,hi',hf,rfl⟩,?_⟩
    show (1000 - ((i:Int)+1)).toNat<(1000 - (i:Int)).toNat
    omega
  ·have h1:=of_decide_eq_false h1
   rw [hll] at h1
   show some (D.int .i64 (-1))=some (D.int .i64 _)
   rw [hf,List.drop_of_length_le (by omega)]
   rfl

theorem den74g (n:NetL) (h:n.Ok) (way:List Int) (hwl:way.length<9223372036854775808) (l:List Nat) (hl:∀ k∈l,k<7) (hlen:l.length<1000) :
    DN 74 [.list 1 (intsN l),.clo (.func 75) [] [.ro [.ro n.enc],.ro [.list 1 (way.map encI)]]] (.bool (l.any fun k=>n.gas k way)):=by
  refine mk Try.func74 Try.call74 rfl rfl ?_
  refine .inl ⟨_,rfl,_,den94g n h way hwl l hl hlen,?_⟩
  show some (D.bool _)=some (D.bool _)
  rw [← findI_any (fun k=>n.gas k way) l 0 (Int.le_refl 0)]

theorem NetL.gasL_len {n:NetL} (hn:n.Ok) (way:List Int):∀ (c k seen at_:Nat),n.gasL way c k seen at_=true→k+c=way.length→c≤unseen seen∧∀ j,k≤j→j<way.length→0≤dAt way j∧dAt way j<n.pipes.length
 | 0,k,seen,at_,_,hk=>⟨Nat.zero_le _,fun j h1 h2=>by omega⟩
 | c+1,k,seen,at_,h,hk=>by
  unfold NetL.gasL at h
  cases hv:way[k]? with
  | none=>rw [hv] at h;cases h
  | some v =>
   rw [hv] at h
   simp only at h
   cases ho:offB n.pipes.length v with
   | true=>rw [ho] at h;cases h
   | false =>
    rw [ho] at h
    simp only at h
    cases hw:decide (0<k) && n.wanted.testBit at_ with
    | true=>rw [hw] at h;cases h
    | false =>
     rw [hw] at h
     simp only at h
     cases hp:n.pipes[v.toNat]? with
     | none=>rw [hp] at h;cases h
     | some p =>
      rw [hp] at h
      simp only at h
      have hpe:=hn.pe p (List.mem_of_getElem? hp)
      have h7:=hn.t7
      cases hway:p.way at_ with
      | none=>rw [hway] at h;cases h
      | some q =>
       obtain ⟨b,to⟩:=q
       rw [hway] at h
       simp only at h
       cases hs:seen.testBit to || n.kept.testBit to with
       | true=>rw [hs] at h;cases h
       | false =>
        rw [hs] at h
        simp only at h
        rw [Bool.or_eq_false_iff] at hs
        obtain ⟨he,_,_⟩:=Pp.way_some hpe.2.2 hway
        have hto7:to<7:=by rcases he with ⟨h1,h2⟩ | ⟨h1,h2⟩ <;> omega
        obtain ⟨i1,i2⟩:=NetL.gasL_len hn way c (k+1) _ to h (by omega)
        have i3:=unseen_lt hto7 hs.1
        refine ⟨by omega,fun j h1 h2=>?_⟩
        by_cases e:j=k
        ·subst e
         have:dAt way j=v:=by unfold dAt;rw [hv]
         rw [this]
         exact offB_false ho
        ·exact i2 j (by omega) h2
theorem NetL.gas_len {n:NetL} (hn:n.Ok) {fr:Nat} {way:List Int} (h:n.gas fr way=true):way.length≤7∧∀ v∈way,0≤v∧v<n.pipes.length:=by
 obtain ⟨h1,h2⟩:=NetL.gasL_len hn way way.length 0 _ fr h (by omega)
 refine ⟨Nat.le_trans h1 (cnt_le 7 _),fun v hv=>?_⟩
 obtain ⟨j,hj,rfl⟩:=List.getElem_of_mem hv
 have:=h2 j (Nat.zero_le _) hj
 rwa [dAt_get hj] at this

theorem NetL.gasL_new {n:NetL} (hn:n.Ok) (way:List Int):∀ (c k seen at_:Nat),n.gasL way c k seen at_=true→k+c=way.length→seen.testBit at_=true →
    (∀ j p,k≤j→j<way.length→n.pipes[(dAt way j).toNat]?=some p→¬ (seen.testBit p.fr=true∧seen.testBit p.to=true))∧∀ a b,k≤a→a<b→b<way.length→dAt way a≠dAt way b
  | 0,k,seen,at_,_,hk,_=>⟨fun j p h1 h2=>by omega,fun a b h1 h2 h3=>by omega⟩
  | c+1,k,seen,at_,h,hk,hsa=>by
   have hk':k<way.length:=by omega
   unfold NetL.gasL at h
   rw [List.getElem?_eq_getElem hk',← dAt_get hk'] at h
   simp only at h
   cases ho:offB n.pipes.length (dAt way k) with
   | true=>rw [ho] at h;cases h
   | false =>
    rw [ho] at h
    simp only at h
    cases hw:decide (0<k) && n.wanted.testBit at_ with
    | true=>rw [hw] at h;cases h
    | false =>
     rw [hw] at h
     simp only at h
     cases hp:n.pipes[(dAt way k).toNat]? with
     | none=>rw [hp] at h;cases h
     | some p =>
      rw [hp] at h
      simp only at h
      have hpe:=hn.pe p (List.mem_of_getElem? hp)
      cases hway:p.way at_ with
      | none=>rw [hway] at h;cases h
      | some q =>
       obtain ⟨b,to⟩:=q
       rw [hway] at h
       simp only at h
       cases hs:seen.testBit to || n.kept.testBit to with
       | true=>rw [hs] at h;cases h
       | false =>
        rw [hs] at h
        simp only at h
        rw [Bool.or_eq_false_iff] at hs
        obtain ⟨he,_,_⟩:=Pp.way_some hpe.2.2 hway
        have hup:∀ v,seen.testBit v=true→(seen ||| 2^to).testBit v=true:=fun v hv=>by rw [or_bit,hv];rfl
        have hto:(seen ||| 2^to).testBit to=true:=by rw [or_bit,pow_bit];simp
        obtain ⟨i1,i2⟩:=NetL.gasL_new hn way c (k+1) _ to h (by omega) hto
        refine ⟨fun j q h1 h2 hq hb=>?_,fun x y h1 h2 h3=>?_⟩
        ·by_cases e:j=k
         ·subst e
          rw [hp] at hq;cases hq
          rcases he with ⟨_,rfl⟩ | ⟨rfl,_⟩
          ·rw [hs.1] at hb;cases hb.2
          ·rw [hs.1] at hb;cases hb.1
         ·exact i1 j q (by omega) h2 hq ⟨hup _ hb.1,hup _ hb.2⟩
        ·by_cases e:x=k
         ·subst e
          intro heq
          refine i1 y p (by omega) h3 (by rw [← heq];exact hp) ?_
          rcases he with ⟨rfl,rfl⟩ | ⟨rfl,rfl⟩
          ·exact ⟨hup _ hsa,hto⟩
          ·exact ⟨hto,hup _ hsa⟩
         ·exact i2 x y (by omega) h2 h3
theorem NetL.gas_new {n:NetL} (hn:n.Ok) {fr:Nat} {way:List Int} (h:n.gas fr way=true):∀ a b,a<b→b<way.length→dAt way a≠dAt way b:=fun a b h1 h2 =>
 (NetL.gasL_new hn way way.length 0 _ fr h (by omega) (by rw [pow_bit];simp)).2 a b (Nat.zero_le _) h1 h2

def ixU:List (Int × Int)→Int→Option Nat
 | [],_=>none
 | x::r,v=>if x.1=v then some 0 else (ixU r v).map (·+1)
def keyU (x:Int × Int):D:=.int .i64 x.1
def valU (x:Int × Int):D:=.int .i64 x.2
theorem findK_U (v:Int):∀ K:List (Int × Int),findK (.int .i64 v) (K.map keyU)=some (ixU K v)
 | []=>rfl
 | x::r=>by
  have ih:=findK_U v r
  simp only [List.map_cons,findK,ixU]
  have e:eqKD (.int .i64 v) (keyU x)=some (v==x.1):=rfl
  rw [e]
  by_cases h:x.1=v
  ·rw [if_pos h];simp [h]
  ·rw [if_neg h]
   have:(v==x.1)=false:=by simp;exact fun e=>h e.symm
   rw [this]
   simp only
   rw [ih]
   cases ixU r v <;> rfl
def countU (K:List (Int × Int)) (v:Int):Int:=match ixU K v with
 | some i=>match K[i]? with | some x=>x.2 | none=>0
 | none=>0
def bumpU (K:List (Int × Int)) (v:Int):List (Int × Int):=match ixU K v with
 | some i=>match K[i]? with | some x=>K.set i (x.1,x.2+1) | none=>K
 | none=>K++[(v,1)]
theorem ixU_lt:∀ {K:List (Int × Int)} {v:Int} {i:Nat},ixU K v=some i→∃ x,K[i]?=some x∧x.1=v
 | [],v,i,h=>by cases h
 | x::r,v,i,h=>by
  unfold ixU at h
  split at h
  ·cases h;exact ⟨x,rfl,by assumption⟩
  ·cases hr:ixU r v with
   | none=>rw [hr] at h;cases h
   | some j =>
    rw [hr] at h
    cases h
    obtain ⟨y,h1,h2⟩:=ixU_lt hr
    exact ⟨y,by simpa using h1,h2⟩
theorem ixU_bump:∀ (K:List (Int × Int)) (v:Int),∃ i,ixU (bumpU K v) v=some i∧(bumpU K v)[i]?=some (v,countU K v+1):=by
 intro K v
 unfold bumpU countU
 cases h:ixU K v with
 | none =>
  simp only
  refine ⟨K.length,?_,by simp⟩
  have:∀ L:List (Int × Int),ixU L v=none→ixU (L++[(v,1)]) v=some L.length:=by
   intro L
   induction L with
   | nil=>intro _;simp [ixU]
   | cons x r ih =>
    intro hn
    unfold ixU at hn
    split at hn
    ·cases hn
    ·rename_i hc
     have hr:ixU r v=none:=by
      cases hr:ixU r v with
      | none=>rfl
      | some j=>rw [hr] at hn;cases hn
     simp only [List.cons_append]
     unfold ixU
     rw [if_neg hc,ih hr]
     rfl
  exact this K h
 | some i =>
  obtain ⟨x,h1,h2⟩:=ixU_lt h
  simp only [h1]
  refine ⟨i,?_,by rw [List.getElem?_set];simp [(List.getElem?_eq_some_iff.1 h1).1,h2]⟩
  have:∀ (L:List (Int × Int)) (i:Nat) (x:Int × Int) (c:Int),ixU L v=some i→L[i]?=some x→ixU (L.set i (x.1,c)) v=some i:=by
   intro L
   induction L with
   | nil=>intro i x c h;cases h
   | cons y r ih =>
    intro i x c h hx
    unfold ixU at h
    split at h
    ·rename_i hc
     cases h
     simp at hx
     subst hx
     simp only [List.set_cons_zero]
     unfold ixU
     rw [if_pos hc]
    ·rename_i hc
     cases hr:ixU r v with
     | none=>rw [hr] at h;cases h
     | some j =>
      rw [hr] at h
      cases h
      simp only [List.set_cons_succ]
      unfold ixU
      rw [if_neg hc,ih j x c hr (by simpa using hx)]
      rfl
  exact this K i x _ h h1
theorem bumpU_le {K:List (Int × Int)} {v B:Int} (h:∀ x∈K,0≤x.2∧x.2≤B) (hB:0≤B):∀ x∈bumpU K v,0≤x.2∧x.2≤B+1:=by
 intro x hx
 unfold bumpU at hx
 cases hi:ixU K v with
 | none =>
  rw [hi] at hx
  rcases List.mem_append.1 hx with hx | hx
  ·have:=h x hx;omega
  ·rw [List.mem_singleton.1 hx];simp;omega
 | some i =>
  rw [hi] at hx
  obtain ⟨y,h1,_⟩:=ixU_lt hi
  simp only [h1] at hx
  rcases List.mem_or_eq_of_mem_set hx with hx | rfl
  ·have:=h x hx;omega
  ·have:=h y (List.mem_of_getElem? h1);simp;omega

theorem bump3 {K:List (Int × Int)} {v B:Int} {P:Int→Prop} (h:∀ x∈K,0≤x.2∧x.2≤B+1∧(P x.1→x.2≤B)) (hv:P v) (hB:0≤B):∀ x∈bumpU K v,0≤x.2∧x.2≤B+1∧(x.1≠v→P x.1→x.2≤B):=by
 intro x hx
 unfold bumpU at hx
 cases hi:ixU K v with
 | none =>
  rw [hi] at hx
  rcases List.mem_append.1 hx with hx | hx
  ·exact ⟨(h x hx).1,(h x hx).2.1,fun _=>(h x hx).2.2⟩
  ·rw [List.mem_singleton.1 hx]
   exact ⟨(by decide:(0:Int)≤1),by show (1:Int)≤B+1;omega,fun e=>absurd rfl e⟩
 | some i =>
  rw [hi] at hx
  obtain ⟨y,h1,h2⟩:=ixU_lt hi
  simp only [h1] at hx
  rcases List.mem_or_eq_of_mem_set hx with hx | rfl
  ·exact ⟨(h x hx).1,(h x hx).2.1,fun _=>(h x hx).2.2⟩
  ·have h3:=h y (List.mem_of_getElem? h1)
   have h4:=h3.2.2 (h2 ▸ hv)
   exact ⟨by show 0≤y.2+1;omega,by show y.2+1≤B+1;omega,fun e=>absurd h2 e⟩

def NetL.useL (n:NetL) (way:List Int):Nat→Nat→List (Int × Int)→Option (List (Int × Int))
 | 0,_,K=>some K
 | c+1,k,K=>match decide (countU K (dAt way k)+1 > 1) && !(match n.pipes[(dAt way k).toNat]? with | some p=>p.welded | none=>false) with
  | true=>none
  | false=>n.useL way c (k+1) (bumpU K (dAt way k))
def NetL.provesL (n:NetL):List (List Int)→List (Int × Int)→Bool
 | [],_=>true
 | w::r,K=>match (tanksU n.kept).any fun k=>n.gas k w with
  | false=>false
  | true=>match n.useL w w.length 0 K with
   | none=>false
   | some K'=>n.provesL r K'
def Nt.provesN (n:Nt) (wanted:List Int) (ways:List (List Int)):Bool × Int :=
 if n.lookE [] wanted true=0 then ((n.look [] wanted).provesL ways [],0) else (false,n.lookE [] wanted true)
def tupBI (x:Bool × Int):D:=.tup [.bool x.1,.int .i64 x.2]
def encW (w:List Int):List D:=[.list 1 (w.map encI)]

set_option maxHeartbeats 8000000 in
theorem den29 (n:Nt) (wanted:List Int) (ways:List (List Int)) (hwl:wanted.length<9223372036854775808) (hwy:ways.length<9223372036854775808) (hw1:∀ w∈ways,w.length<9223372036854775808):DN 29 [.agg n.enc,.list 1 (wanted.map encI),.list 1 (ways.map encW)] (tupBI (n.provesN wanted ways)):=by
 have h55:=den55w0 n wanted hwl
 by_cases he:n.lookE [] wanted true=0
 rotate_left
 ·rw [Nt.lookD_bad he] at h55
  have hR:n.provesN wanted ways=(false,n.lookE [] wanted true):=by unfold Nt.provesN;rw [if_neg he]
  rw [hR]
  obtain ⟨e,hee⟩:∃ e,n.lookE [] wanted true=e:=⟨_,rfl⟩
  rw [hee] at h55 he ⊢
  refine mk Try.func29 Try.call29 rfl rfl ?_
  refine ⟨_,rfl,_,h55,?_⟩
  refine ⟨fun _=>?_,fun h=>?_⟩
  ·rfl
  ·have h:(e != 0)=false:=h
   exact absurd (by simpa using h) he
 rw [Nt.lookD_ok he] at h55
 have hok:=Nt.look_okw he
 obtain ⟨m,hm⟩:∃ m,n.look [] wanted=m:=⟨_,rfl⟩
 have hR:n.provesN wanted ways=(m.provesL ways [],0):=by unfold Nt.provesN;rw [if_pos he,hm]
 rw [hm] at h55 hok
 rw [hR]
 have hk7:=hok.k
 have h58:=den58 m.kept (by omega)
 have htk:∀ k∈tanksU m.kept,k<7:=fun k hk=>(mem_tanksU.1 hk).1
 have htl:(tanksU m.kept).length<1000:=by unfold tanksU;exact Nat.lt_of_le_of_lt (List.length_filter_le _ _) (by simp)
 have hyl:((ways.map encW).length:Int)=ways.length:=by simp
 have fin:∀ b,m.provesL ways []=b→some (D.tup [.bool b,.int .i64 0])=some (tupBI (m.provesL ways [],0)):=fun b h=>by rw [h];rfl
 refine mk Try.func29 Try.call29 rfl rfl ?_
 refine ⟨_,rfl,_,h55,?_⟩
 refine ⟨fun h=>absurd h (by decide),fun _=>?_⟩
 refine ⟨[8,10,25,26,27],3,[],fun σ=>∃ (i:Nat) (K:List (Int × Int)),i≤ways.length∧m.provesL ways []=m.provesL (ways.drop i) K∧(∀ x∈K,0≤x.2∧x.2≤(i:Int)) ∧
  σ=⟨[(8,.loc 1 0),(10,.mloc 2),(25,.list 1 (ways.map encW)),(26,.int .i64 (ways.map encW).length),(27,.int .i64 i)],[.flat false n.enc,.flat false [.ro m.enc],.map false (K.map keyU) (K.map valU)],.non⟩,
  fun σ=>((ways.length:Int) - slotI 27 σ).toNat,rfl,⟨rfl,rfl⟩,⟨0,[],Nat.zero_le _,rfl,(fun x hx=>by cases hx),rfl⟩,?_⟩
 rintro σ ⟨i,K,hi,hrec,hK,rfl⟩
 refine ⟨fun h1=>?_,fun h1=>?_⟩
 rotate_left
 ·have h1:=of_decide_eq_false h1
  rw [hyl] at h1
  rw [List.drop_of_length_le (by omega)] at hrec
  exact fin true hrec
 have h1:=of_decide_eq_true h1
 rw [hyl] at h1
 have hi':i<ways.length:=by omega
 have less:((ways.length:Int) - ((i:Int)+1)).toNat<((ways.length:Int) - (i:Int)).toNat:=by omega
 obtain ⟨w,hw⟩:∃ w,ways[i]'hi'=w:=⟨_,rfl⟩
 have hwm:w∈ways:=hw ▸ List.getElem_mem hi'
 have hdrop:ways.drop i=w::ways.drop (i+1):=by rw [List.drop_eq_getElem_cons hi',hw]
 have hrow:(ways.map encW)[((i:Int)).toNat]?=some (encW w):=by simp [hi',hw]
 have hwlen:=hw1 w hwm
 have hst:m.provesL (ways.drop i) K=match (tanksU m.kept).any fun k=>m.gas k w with
  | false=>false
  | true=>match m.useL w w.length 0 K with
   | none=>false
   | some K'=>m.provesL (ways.drop (i+1)) K':=by rw [hdrop];rfl
 refine ⟨by omega,_,hrow,?_⟩
 refine ⟨_,rfl,_,h58,?_⟩
 refine .inl ⟨_,rfl,_,den74g m hok w (by omega) (tanksU m.kept) htk htl,?_⟩
 refine ⟨fun h2=>?_,fun h2=>?_⟩
 ·have h2:(!((tanksU m.kept).any fun k=>m.gas k w))=true:=h2
  have h2:((tanksU m.kept).any fun k=>m.gas k w)=false:=by simpa using h2
  rw [h2] at hst
  exact fin false (hrec.trans hst)
 have h2:(!((tanksU m.kept).any fun k=>m.gas k w))=false:=h2
 have h2:((tanksU m.kept).any fun k=>m.gas k w)=true:=by simpa using h2
 rw [h2] at hst
 have hst:m.provesL (ways.drop i) K=match m.useL w w.length 0 K with
     | none=>false
     | some K'=>m.provesL (ways.drop (i+1)) K':=hst
 obtain ⟨fr,_,hgas⟩:=List.any_eq_true.1 h2
 obtain ⟨hw7,hwin⟩:=NetL.gas_len hok hgas
 have hwl2:((w.map encI).length:Int)=w.length:=by simp
 refine ⟨[8,10,25,26,27,39,40,41],3,[],fun σ=>∃ (k:Nat) (K2:List (Int × Int)),k≤w.length∧m.useL w w.length 0 K=m.useL w (w.length - k) k K2∧(∀ x∈K2,0≤x.2∧x.2≤(i:Int)+1∧((∀ j,j<k→x.1≠dAt w j)→x.2≤(i:Int))) ∧
  σ=⟨[(8,.loc 1 0),(10,.mloc 2),(25,.list 1 (ways.map encW)),(26,.int .i64 (ways.map encW).length),(27,.int .i64 i),(39,.list 1 (w.map encI)),(40,.int .i64 (w.map encI).length),(41,.int .i64 k)],[.flat false n.enc,.flat false [.ro m.enc],.map false (K2.map keyU) (K2.map valU)],.non⟩,
  fun σ=>(1000 - slotI 41 σ).toNat,rfl,⟨rfl,rfl⟩,⟨0,K,Nat.zero_le _,rfl,(fun x hx=>by have:=hK x hx;exact ⟨by omega,by omega,fun _=>by omega⟩),rfl⟩,?_⟩
 rintro σ ⟨k,K2,hk,hrec2,hK2,rfl⟩
 refine ⟨fun h3=>?_,fun h3=>?_⟩
 rotate_left
 ·have h3:=of_decide_eq_false h3
  rw [hwl2] at h3
  have e:w.length - k=0:=by omega
  rw [e] at hrec2
  have hu:m.useL w w.length 0 K=some K2:=hrec2
  rw [hu] at hst
  refine ⟨(i:Int)+1,wrap64 (by omega) (by omega),?_⟩
  exact ⟨⟨rfl,rfl⟩,⟨i+1,K2,hi',hrec.trans hst,(fun x hx=>by have:=hK2 x hx;exact ⟨by omega,by omega⟩),rfl⟩,less⟩
 have h3:=of_decide_eq_true h3
 rw [hwl2] at h3
 have hk':k<w.length:=by omega
 have less2:(1000 - ((k:Int)+1)).toNat<(1000 - (k:Int)).toNat:=by omega
 have hrow2:=encI_get hk'
 have hd:dAt w k=w[k]'hk':=dAt_get hk'
 have hvin:=hwin _ (List.getElem_mem hk')
 obtain ⟨v,hv⟩:∃ v,w[k]'hk'=v:=⟨_,rfl⟩
 rw [hv] at hrow2 hd hvin
 obtain ⟨p,hp⟩:∃ p,m.pipes[v.toNat]?=some p:=⟨_,List.getElem?_eq_getElem (by omega)⟩
 have hrowp:(m.pipes.map Pp.enc)[v.toNat]?=some p.enc:=by rw [List.getElem?_map,hp];rfl
 have hst2:m.useL w (w.length - k) k K2=match decide (countU K2 v+1 > 1) && !p.welded with
  | true=>none
  | false=>m.useL w (w.length - (k+1)) (k+1) (bumpU K2 v):=by
  rw [show w.length - k=(w.length - (k+1))+1 by omega]
  conv=>lhs;unfold NetL.useL
  rw [hd,hp]
 have hnew:∀ j,j<k→v≠dAt w j:=fun j hj e=>NetL.gas_new hok hgas j k hj hk' (by rw [hd];exact e.symm)
 have hcnt:0≤countU K2 v∧countU K2 v≤(i:Int):=by
  unfold countU
  cases hx:ixU K2 v with
  | none=>simp only;omega
  | some j =>
   obtain ⟨x,h4,h5⟩:=ixU_lt hx
   simp only [h4]
   have h6:=hK2 x (List.mem_of_getElem? h4)
   exact ⟨h6.1,h6.2.2 (h5 ▸ hnew)⟩
 obtain ⟨i2,hb1,hb2⟩:=ixU_bump K2 v
 have hb3:∀ x∈bumpU K2 v,0≤x.2∧x.2≤(i:Int)+1∧((∀ j,j<k+1→x.1≠dAt w j)→x.2≤(i:Int)):=fun x hx=>by
  obtain ⟨a1,a2,a3⟩:=bump3 (P:=fun z=>∀ j,j<k→z≠dAt w j) hK2 hnew (by omega) x hx
  exact ⟨a1,a2,fun h=>a3 (by rw [← hd];exact h k (by omega)) fun j hj=>h j (by omega)⟩
 have hf1:=findK_U v K2
 have hf2:=findK_U v (bumpU K2 v)
 rw [hb1] at hf2
 have hval2:((bumpU K2 v).map valU)[i2]?=some (.int .i64 (countU K2 v+1)):=by rw [List.getElem?_map,hb2];rfl
 obtain ⟨c,hc⟩:∃ c,countU K2 v=c:=⟨_,rfl⟩
 rw [hc] at hst2 hcnt hval2
 have hold:∃ o,findK (.int .i64 v) (K2.map keyU)=some o∧(match o with | some i=>(K2.map valU)[i]?=some (.int .i64 c) | none=>D.int .i64 c=.int .i64 0) ∧
     (match o with | some i=>(bumpU K2 v).map keyU=K2.map keyU∧(bumpU K2 v).map valU=(K2.map valU).set i (.int .i64 (c+1)) | none=>(bumpU K2 v).map keyU=K2.map keyU++[.int .i64 v]∧(bumpU K2 v).map valU=K2.map valU++[.int .i64 (c+1)]):=by
   refine ⟨_,hf1,?_⟩
   unfold countU at hc
   unfold bumpU
   cases hx:ixU K2 v with
   | none =>
    rw [hx] at hc
    simp only at hc ⊢
    subst hc
    exact ⟨rfl,by simp [keyU],by simp [valU]⟩
   | some j =>
    rw [hx] at hc
    obtain ⟨x,h4,_⟩:=ixU_lt hx
    simp only [h4] at hc ⊢
    subst hc
    refine ⟨by rw [List.getElem?_map,h4];rfl,?_,by rw [List.map_set];rfl⟩
    rw [List.map_set]
    apply List.ext_getElem?
    intro q
    rw [List.getElem?_set]
    by_cases e:j=q
    ·subst e
     have h5:=(List.getElem?_eq_some_iff.1 h4).2
     simp [(List.getElem?_eq_some_iff.1 h4).1,keyU,h5]
    ·rw [if_neg e]
 obtain ⟨o,ho1,ho2,ho3⟩:=hold
 refine ⟨by omega,_,hrow2,?_⟩
 refine ⟨o,ho1,.int .i64 c,by cases o <;> exact ho2,?_⟩
 refine ⟨c+1,wrap64 (by omega) (by omega),?_⟩
 refine ⟨o,ho1,_,_,by cases o <;> exact ho3,?_⟩
 refine ⟨some i2,hf2,_,hval2,?_⟩
 refine ⟨fun h5=>?_,fun h5=>?_⟩
 ·have h5:c+1 > 1:=of_decide_eq_true h5
  refine ⟨hvin.1,_,hrowp,?_⟩
  refine ⟨fun h6=>?_,fun h6=>?_⟩
  ·have h6:(!p.welded)=true:=h6
   rw [h6,decide_eq_true h5] at hst2
   have hu:m.useL w w.length 0 K=none:=hrec2.trans hst2
   rw [hu] at hst
   exact fin false (hrec.trans hst)
  ·have h6:(!p.welded)=false:=h6
   rw [h6,Bool.and_false] at hst2
   refine ⟨(k:Int)+1,wrap64 (by omega) (by omega),?_⟩
   exact ⟨⟨rfl,rfl⟩,⟨k+1,bumpU K2 v,hk',hrec2.trans hst2,hb3,rfl⟩,less2⟩
 ·have h5:¬ c+1 > 1:=of_decide_eq_false h5
  rw [decide_eq_false h5] at hst2
  refine ⟨(k:Int)+1,wrap64 (by omega) (by omega),?_⟩
  exact ⟨⟨rfl,rfl⟩,⟨k+1,bumpU K2 v,hk',hrec2.trans hst2,hb3,rfl⟩,less2⟩

end Go.Proofs.Vent
