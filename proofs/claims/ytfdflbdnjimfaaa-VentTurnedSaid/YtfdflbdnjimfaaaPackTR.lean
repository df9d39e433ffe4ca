/- The ways that Ways takes out of what flows: as many, and accepted. No condition. -/
import Derived.Test.YtfdflbdnjimfaaaPackTD
import Derived.Test.YtfdflbdnjimfaaaPackTQ

namespace Go.Proofs.Vent
open Go.V Go.Proofs

def Les (w' w:List Int):Prop:=w'.length=w.length∧∀ i,(0≤nowAt w' i∧nowAt w' i≤nowAt w i)∨(nowAt w i≤nowAt w' i∧nowAt w' i≤0)
theorem Les.refl (w:List Int):Les w w:=⟨rfl,fun i=>by omega⟩
theorem Les.trans {a b c:List Int} (h:Les a b) (k:Les b c):Les a c:=⟨h.1.trans k.1,fun i=>by have:=h.2 i;have:=k.2 i;omega⟩
structure Sg (n:NetL) (w:List Int):Prop where
 len:w.length=12
 kfr:∀ i p,n.pipes[i]?=some p→n.kept.testBit p.fr=true→0≤nowAt w i
 kto:∀ i p,n.pipes[i]?=some p→n.kept.testBit p.to=true→nowAt w i≤0
 bd:∀ i,-20≤nowAt w i∧nowAt w i≤20
theorem Sg.les {n:NetL} {w w':List Int} (h:Sg n w) (hl:Les w' w):Sg n w' :=
 ⟨hl.1.trans h.len,fun i p hp hk=>by have:=hl.2 i;have:=h.kfr i p hp hk;omega,fun i p hp hk=>by have:=hl.2 i;have:=h.kto i p hp hk;omega,fun i=>by have:=hl.2 i;have:=h.bd i;omega⟩

inductive NetL.Chn (n:NetL):Nat→List Nat→List Nat→Nat→Prop
 | nil (a:Nat):NetL.Chn n a [] [] a
 | cons {a b c i:Nat} {p:Pp} {way ts:List Nat}:n.pipes[i]?=some p→p.ends a c→NetL.Chn n c way ts b→NetL.Chn n a (i::way) (a::ts) b
theorem NetL.Chn.snoc {n:NetL} {a b:Nat} {way ts:List Nat} (h:n.Chn a way ts b) {i c:Nat} {p:Pp} (hp:n.pipes[i]?=some p) (he:p.ends b c):n.Chn a (way++[i]) (ts++[b]) c:=by
 induction h with
 | nil a=>exact .cons hp he (.nil c)
 | cons h1 h2 _ ih=>exact .cons h1 h2 (ih he)
theorem NetL.Chn.cut {n:NetL} {a b:Nat} {way ts:List Nat} (h:n.Chn a way ts b) {v k:Nat} (hk:ixN ts v=some k):n.Chn a (way.take k) (ts.take k) v:=by
 induction h generalizing k with
 | nil a=>cases hk
 | @cons a b c i p way ts h1 h2 _ ih =>
  unfold ixN at hk
  split at hk
  ·rename_i e
   cases hk
   subst e
   exact .nil v
  ·cases hr:ixN ts v with
   | none=>rw [hr] at hk;cases hk
   | some j =>
    rw [hr] at hk
    cases hk
    exact .cons h1 h2 (ih hr)
theorem ixN_none:∀ {l:List Nat} {v:Nat},ixN l v=none→v ∉ l
 | [],v,_,h=>by cases h
 | x::r,v,h,hm=>by
  unfold ixN at h
  split at h
  ·cases h
  ·rename_i hc
   cases hr:ixN r v with
   | some j=>rw [hr] at h;cases h
   | none =>
    rcases List.mem_cons.1 hm with e | hm
    ·exact hc e
    ·exact ixN_none hr hm
theorem ixN_first:∀ {l:List Nat} {v k:Nat},ixN l v=some k→v ∉ l.take k
 | [],v,k,h=>by cases h
 | x::r,v,k,h=>by
  unfold ixN at h
  split at h
  ·cases h;simp
  ·rename_i hc
   cases hr:ixN r v with
   | none=>rw [hr] at h;cases h
   | some j =>
    rw [hr] at h
    cases h
    rw [List.take_succ_cons]
    intro hm
    rcases List.mem_cons.1 hm with e | hm
    ·exact hc e
    ·exact ixN_first hr hm
def occN (i:Nat):List Nat→Nat
 | []=>0
 | x::r=>(if x=i then 1 else 0)+occN i r
theorem occN_app (i:Nat):∀ a b:List Nat,occN i (a++b)=occN i a+occN i b
 | [],b=>by simp [occN]
 | x::a,b=>by simp only [List.cons_append,occN,occN_app i a b];omega
theorem occN_take (i k:Nat) (l:List Nat):occN i (l.take k)≤occN i l:=by
 have:=occN_app i (l.take k) (l.drop k)
 rw [List.take_append_drop] at this
 omega
theorem occN_cast (i:Nat):∀ l:List Nat,occ (i:Nat) (l.map fun j=>((j:Nat):Int))=(occN i l:Nat)
 | []=>rfl
 | x::r=>by
  simp only [List.map_cons,occ,occN,occN_cast i r]
  by_cases e:x=i
  ·subst e;simp
  ·rw [if_neg (by omega),if_neg e];simp

theorem cut_ok' {n:NetL} {a b:Nat} {way ts:List Nat} (h:n.Chn a way ts b) (hnd:ts.Nodup):n.Chn a (cutN (ixN ts b) way) (cutN (ixN ts b) ts) b∧(cutN (ixN ts b) ts).Nodup∧b ∉ cutN (ixN ts b) ts∧(∀ v∈cutN (ixN ts b) ts,v∈ts)∧∀ i,occN i (cutN (ixN ts b) way)≤occN i way:=by
 cases hx:ixN ts b with
 | none=>exact ⟨h,hnd,ixN_none hx,fun _ h=>h,fun _=>Nat.le_refl _⟩
 | some k=>exact ⟨h.cut hx,hnd.sublist (List.take_sublist _ _),ixN_first hx,fun v hv=>List.mem_of_mem_take hv,fun i=>occN_take i k way⟩

theorem chn_gas {n:NetL} (_hn:n.Ok) {way:List Int} {t:Nat} {a:Nat} {ws ts:List Nat} (h:n.Chn a ws ts t):∀ (k seen:Nat),way.drop k=ws.map (fun i=>((i:Nat):Int))→(ts++[t]).Nodup→n.wanted.testBit t=true→(∀ v∈ts,n.wanted.testBit v=false) →
    (∀ v∈ts++[t],v≠a→seen.testBit v=false∧n.kept.testBit v=false)→n.gasL way ws.length k seen a=true:=by
  induction h with
  | nil a=>exact fun k seen _ _ hw _ _=>hw
  | @cons a b c i p ws ts hp he hch ih =>
   intro k seen hd hnd hwt hnw hs
   have hil:i<n.pipes.length:=(List.getElem?_eq_some_iff.1 hp).1
   have hget:way[k]?=some (i:Int):=by
    have:(way.drop k)[0]?=some (i:Int):=by rw [hd];rfl
    rw [List.getElem?_drop] at this
    exact this
   have hdrop:way.drop (k+1)=ws.map (fun i=>((i:Nat):Int)):=by
    have:(way.drop k).drop 1=ws.map (fun i=>((i:Nat):Int)):=by rw [hd];rfl
    rw [List.drop_drop] at this
    exact this
   have hcm:c∈ts++[b]:=by cases hch <;> simp
   rw [List.cons_append,List.nodup_cons] at hnd
   have hca:c≠a:=fun e=>hnd.1 (e ▸ hcm)
   obtain ⟨hsc,hkc⟩:=hs c (by rw [List.cons_append];exact List.mem_cons_of_mem _ hcm) hca
   have hwa:=hnw a (by simp)
   obtain ⟨by_,to,hway,hto⟩:=Pp.way_of he
   subst hto
   have hoff:offB (n.pipes.length:Int) (i:Int)=false:=by
    unfold offB
    rw [decide_eq_false (by omega),decide_eq_false (by omega)]
    rfl
   show n.gasL way (ws.length+1) k seen a=true
   unfold NetL.gasL
   rw [hget]
   dsimp only
   rw [hoff]
   dsimp only
   rw [hwa,Bool.and_false]
   dsimp only
   rw [Int.toNat_natCast,hp]
   dsimp only
   rw [hway]
   dsimp only
   rw [hsc,hkc]
   show n.gasL way ws.length (k+1) (seen ||| 2^to) to=true
   refine ih (k+1) (seen ||| 2^to) hdrop hnd.2 hwt (fun v hv=>hnw v (by simp [hv])) fun v hv hne=>?_
   have hva:v≠a:=fun e=>hnd.1 (e ▸ hv)
   obtain ⟨h1,h2⟩:=hs v (by rw [List.cons_append];exact List.mem_cons_of_mem _ hv) hva
   refine ⟨?_,h2⟩
   rw [or_bit,pow_bit,h1,decide_eq_false hne]
   rfl

/-! What flows out of a tank. -/
theorem NetL.pickT_none {n:NetL} {w:List Int} {at_:Nat}:∀ (c i:Nat),n.pickT w at_ c i=none→i+c=n.pipes.length→∀ k p,i≤k→n.pipes[k]?=some p→p.takes at_ (nowAt w k)=none
 | 0,i,h,hi,k,p,hk,hp=>by have:=(List.getElem?_eq_some_iff.1 hp).1;omega
 | c+1,i,h,hi,k,p,hk,hp=>by
  obtain ⟨q,hq⟩:∃ q,n.pipes[i]?=some q:=⟨_,List.getElem?_eq_getElem (by omega)⟩
  unfold NetL.pickT at h
  rw [hq] at h
  simp only at h
  cases ht:q.takes at_ (nowAt w i) with
  | some y=>obtain ⟨y,t⟩:=y;rw [ht] at h;cases h
  | none =>
   rw [ht] at h
   by_cases e:k=i
   ·subst e;rw [hq] at hp;cases hp;exact ht
   ·exact NetL.pickT_none c (i+1) h (by omega) k p (by omega) hp
theorem netN_neg {n:NetL} {w:List Int} {v:Nat} (h:∀ (k:Nat) (p:Pp),n.pipes[k]?=some p→p.takes v (nowAt w k)=none):∀ k,n.netN w v k≤0
 | 0=>Int.le_refl _
 | k+1=>by
  have ih:=netN_neg h k
  unfold NetL.netN
  cases hp:n.pipes[k]? with
  | none=>simpa using ih
  | some p =>
   have h1:=h k p hp
   unfold Pp.takes at h1
   simp only [Pp.out]
   split at h1
   ·cases h1
   ·split at h1
    ·cases h1
    ·rename_i h2 h3
     by_cases a:p.fr=v
     ·by_cases b:p.to=v
      ·rw [if_pos a,if_pos b];omega
      ·rw [if_pos a,if_neg b]
       have:¬ nowAt w k > 0:=fun c=>h2 ⟨a,c⟩
       omega
     ·by_cases b:p.to=v
      ·rw [if_neg a,if_pos b]
       have:¬ nowAt w k<0:=fun c=>h3 ⟨b,c⟩
       omega
      ·rw [if_neg a,if_neg b];omega
theorem netN_pos {n:NetL} {w:List Int} (h:Sg n w) {v:Nat} (hv:n.kept.testBit v=true):∀ k,0≤n.netN w v k
 | 0=>Int.le_refl _
 | k+1=>by
  have ih:=netN_pos h hv k
  unfold NetL.netN
  cases hp:n.pipes[k]? with
  | none=>simpa using ih
  | some p =>
   simp only [Pp.out]
   by_cases a:p.fr=v
   ·have h1:=h.kfr k p hp (a ▸ hv)
    by_cases b:p.to=v
    ·rw [if_pos a,if_pos b];omega
    ·rw [if_pos a,if_neg b];omega
   ·by_cases b:p.to=v
    ·have h1:=h.kto k p hp (b ▸ hv)
     rw [if_neg a,if_pos b];omega
    ·rw [if_neg a,if_neg b];omega
theorem takes_net {n:NetL} (hn:n.Ok) {w:List Int} (hs:Sg n w) {at_ k to:Nat} {x:Int} {p:Pp} (hp:n.pipes[k]?=some p) (ht:p.takes at_ (nowAt w k)=some (x,to)) :
    Les (w.set k x) w∧p.ends at_ to∧n.kept.testBit to=false∧to<7∧(∀ v,n.net (w.set k x) v=n.net w v - b2i (decide (v=at_))+b2i (decide (v=to)))∧∀ i,(if k=i then 1 else 0)+(nowAt (w.set k x) i).natAbs≤(nowAt w i).natAbs:=by
  have hpe:=hn.pe p (List.mem_of_getElem? hp)
  have hkl:k<n.pipes.length:=(List.getElem?_eq_some_iff.1 hp).1
  have h12:=hn.p
  have h7:=hn.t7
  have hk12:k<w.length:=by rw [hs.len];omega
  obtain ⟨_,hc⟩:=takes_abs ht
  have hset:∀ j,nowAt (w.set k x) j=if j=k then x else nowAt w j:=fun j=>nowAt_set hk12
  have hb:∀ u v:Nat,b2i (decide (v=u))=if u=v then 1 else 0:=fun u v=>by
   unfold b2i
   by_cases e:v=u
   ·subst e;simp
   ·rw [if_neg (by simpa using e),if_neg fun h=>e h.symm]
  refine ⟨⟨List.length_set,fun i=>?_⟩,?_,?_,?_,fun v=>?_,fun i=>?_⟩
  ·rw [hset]
   by_cases e:i=k
   ·subst e;rw [if_pos rfl];rcases hc with ⟨_,_,h1,h2⟩ | ⟨_,_,h1,h2⟩ <;> omega
   ·rw [if_neg e];omega
  ·rcases hc with ⟨h1,h2,_⟩ | ⟨h1,h2,_⟩
   ·exact .inl ⟨h1.symm,h2.symm⟩
   ·exact .inr ⟨h2.symm,h1.symm⟩
  ·cases hk:n.kept.testBit to with
   | false=>rfl
   | true =>
    rcases hc with ⟨_,h2,h3,_⟩ | ⟨_,h2,h3,_⟩
    ·have:=hs.kto k p hp (h2 ▸ hk);omega
    ·have:=hs.kfr k p hp (h2 ▸ hk);omega
  ·rcases hc with ⟨_,h2,_⟩ | ⟨_,h2,_⟩ <;> omega
  ·have h1:=n.netN_set hk12 (x:=x) hp v n.pipes.length
   unfold NetL.net
   rw [h1,if_pos hkl,hb,hb]
   unfold Pp.out
   rcases hc with ⟨h3,h4,_,h5⟩ | ⟨h3,h4,_,h5⟩
   ·rw [h3,h4,h5];split <;> split <;> omega
   ·rw [h3,h4,h5];split <;> split <;> omega
  ·rw [hset]
   by_cases e:i=k
   ·subst e;rw [if_pos rfl,if_pos rfl];rcases hc with ⟨_,_,h1,h2⟩ | ⟨_,_,h1,h2⟩ <;> omega
   ·rw [if_neg e,if_neg fun h=>e h.symm];omega

structure TrOK (n:NetL) (fr:Nat) (w0:List Int) (base:Nat→Int) (c:Nat→Nat) (l:List Nat) (w':List Int):Prop where
 les:Les w' w0
 net:∃ t,n.wanted.testBit t=true∧∀ v,n.net w' v=base v+b2i (decide (v=t))
 gas:n.gas fr (l.map fun i=>((i:Nat):Int))=true
 use:∀ i,occN i l+(nowAt w' i).natAbs≤c i

theorem traceF_ok {n:NetL} (hn:n.Ok) (hf:n.Free) {w0:List Int} (hs0:Sg n w0) {fr:Nat} (hfr:n.kept.testBit fr=true) {base:Nat→Int} (hb0:∀ v,n.kept.testBit v=false→n.wanted.testBit v=false→base v=0) {c:Nat→Nat} :
    ∀ (r at_:Nat) (way ts:List Nat) (w:List Int),absL w<r→Les w w0→at_<7→n.kept.testBit at_=false→(∀ v,n.net w v=base v+b2i (decide (v=at_)))→n.Chn fr way ts at_→ts.Nodup →
     (∀ v∈ts,n.wanted.testBit v=false∧(v≠fr→n.kept.testBit v=false))→(∀ i,occN i way+(nowAt w i).natAbs≤c i) →
     ∃ l w',n.traceF r at_ way ts w=some (l,w')∧TrOK n fr w0 base c l w'
  | 0,at_,way,ts,w,hr,_,_,_,_,_,_,_,_=>by omega
  | r+1,at_,way,ts,w,hr,hl,h7,hk,hnet,hch,hnd,hts,hu=>by
   obtain ⟨c1,c2,c3,c4,c5⟩:=cut_ok' hch hnd
   unfold NetL.traceF
   rw [hk]
   dsimp only
   cases hw:n.wanted.testBit at_ with
   | true =>
    dsimp only
    refine ⟨_,_,rfl,hl,⟨at_,hw,hnet⟩,?_,fun i=>Nat.le_trans (Nat.add_le_add_right (c5 i) _) (hu i)⟩
    unfold NetL.gas
    rw [List.length_map]
    refine chn_gas hn c1 0 (2^fr) rfl ?_ hw (fun v hv=>(hts v (c4 v hv)).1) fun v hv hne=>?_
    ·rw [List.nodup_append]
     refine ⟨c2,by simp,fun a ha b hb=>?_⟩
     rw [List.mem_singleton] at hb
     subst hb
     exact fun e=>c3 (e ▸ ha)
    ·refine ⟨by rw [pow_bit];exact decide_eq_false hne,?_⟩
     rcases List.mem_append.1 hv with hv | hv
     ·exact (hts v (c4 v hv)).2 hne
     ·rw [List.mem_singleton.1 hv];exact hk
   | false =>
    dsimp only
    have hs:=hs0.les hl
    cases hp:n.pickT w at_ n.pipes.length 0 with
    | none =>
     exfalso
     have h1:=netN_neg (NetL.pickT_none _ _ hp (by omega) · · (Nat.zero_le _)) n.pipes.length
     have h2:=hnet at_
     rw [hb0 at_ hk hw,b2i_true (decide_eq_true rfl)] at h2
     unfold NetL.net at h2
     omega
    | some y =>
     obtain ⟨i,x,to⟩:=y
     dsimp only
     obtain ⟨p,hpi,ht⟩:=NetL.pickT_some hp
     obtain ⟨t1,t2,t3,t4,t5,t6⟩:=takes_net hn hs hpi ht
     have hil:i<n.pipes.length:=(List.getElem?_eq_some_iff.1 hpi).1
     have h12:=hn.p
     have habs:=absL_set (w:=w) (i:=i) (x:=x) (by rw [hs.len];omega)
     have htk:=(takes_abs ht).1
     refine traceF_ok hn hf hs0 hfr hb0 r to _ _ _ (by omega) (t1.trans hl) t4 t3 (fun v=>?_) (c1.snoc hpi t2) ?_ (fun v hv=>?_) (fun j=>?_)
     ·rw [t5 v,hnet v];omega
     ·rw [List.nodup_append]
      refine ⟨c2,by simp,fun a ha b hb=>?_⟩
      rw [List.mem_singleton] at hb
      subst hb
      exact fun e=>c3 (e ▸ ha)
     ·rcases List.mem_append.1 hv with hv | hv
      ·exact hts v (c4 v hv)
      ·rw [List.mem_singleton.1 hv];exact ⟨hw,fun _=>hk⟩
     ·rw [occN_app]
      have h1:=hu j
      have h2:=c5 j
      have h3:=t6 j
      simp only [occN]
      omega

theorem absL_20 {n:NetL} {w:List Int} (h:Sg n w):absL w≤6000:=absL_bound h.len h.bd (by decide)
theorem trace_ok {n:NetL} (hn:n.Ok) (hf:n.Free) {w:List Int} (hs:Sg n w) {fr:Nat} (hfr:n.kept.testBit fr=true) (hbal:∀ v,n.kept.testBit v=false→n.wanted.testBit v=false→n.net w v=0) (hpos:0<n.net w fr) :
    ∃ l w',n.trace 7000 fr w=some (l,w')∧TrOK n fr w (fun v=>n.net w v - b2i (decide (v=fr))) (fun i=>(nowAt w i).natAbs) l w':=by
  have hwf:n.wanted.testBit fr=false:=by
   cases hw:n.wanted.testBit fr with
   | false=>rfl
   | true=>rw [hf fr hw] at hfr;cases hfr
  unfold NetL.trace
  rw [hfr]
  dsimp only
  rw [hwf]
  dsimp only
  cases hp:n.pickT w fr n.pipes.length 0 with
  | none =>
   exfalso
   have h1:=netN_neg (NetL.pickT_none _ _ hp (by omega) · · (Nat.zero_le _)) n.pipes.length
   unfold NetL.net at hpos
   omega
  | some y =>
   obtain ⟨i,x,to⟩:=y
   dsimp only
   obtain ⟨p,hpi,ht⟩:=NetL.pickT_some hp
   obtain ⟨t1,t2,t3,t4,t5,t6⟩:=takes_net hn hs hpi ht
   have ha:=absL_20 (hs.les t1)
   refine traceF_ok hn hf hs hfr (base:=fun v=>n.net w v - b2i (decide (v=fr))) (fun v h1 h2=>?_) 7000 to [i] [fr] _ (by omega) t1 t4 t3 t5 (.cons hpi t2 (.nil to)) (by simp) (fun v hv=>?_) (fun j=>?_)
   ·have:v≠fr:=fun e=>by subst e;rw [hfr] at h1;cases h1
    rw [hbal v h1 h2,b2i_false (decide_eq_false this)];rfl
   ·rw [List.mem_singleton.1 hv];exact ⟨hwf,fun h=>absurd rfl h⟩
   ·have:=t6 j
    simp only [occN]
    omega

structure WsOK (n:NetL) (m:Nat) (w0:List Int) (ws:List (List Nat)) (w:List Int):Prop where
 les:Les w w0
 bal:∀ v,n.kept.testBit v=false→n.wanted.testBit v=false→n.net w v=0
 tot:(ws.length:Int)+n.outOf w n.kept=m
 gas:∀ l∈ws,∃ k,n.kept.testBit k=true∧n.gas k (l.map fun i=>((i:Nat):Int))=true
 use:∀ i,occN i ws.flatten+(nowAt w i).natAbs≤(nowAt w0 i).natAbs

theorem sumS_ge {f:Nat→Int} {a:Nat}:∀ {k:Nat},(∀ i,i<k→0≤f i)→a<k→f a≤sumS k f
 | 0,_,h=>by omega
 | k+1,h,ha=>by
  have h0:0≤sumS k f:=by
   have:=sumS_le (f:=fun _=>0) (g:=f) (k:=k) fun i hi=>h i (by omega)
   rw [sumS_zero] at this
   exact this
  simp only [sumS]
  by_cases e:a=k
  ·subst e;omega
  ·have:=sumS_ge (f:=f) (a:=a) (k:=k) (fun i hi=>h i (by omega)) (by omega)
   have:=h k (by omega)
   omega
theorem out_ge {n:NetL} (hn:n.Ok) {w:List Int} (hs:Sg n w) {v:Nat} (hv:n.kept.testBit v=true):n.net w v≤n.outOf w n.kept:=by
 have h:=sumS_ge (f:=fun v=>if n.kept.testBit v=true then n.net w v else 0) (a:=v) (k:=7) (fun i _=>by
  cases hk:n.kept.testBit i with
  | true=>simp only [if_true];exact netN_pos hs hk _
  | false=>simp) (bit_lt hn.k hv)
 simp only [hv,if_true] at h
 exact h
theorem out_step {n:NetL} (hn:n.Ok) (hf:n.Free) {w w':List Int} {fr t:Nat} (hfr:n.kept.testBit fr=true) (ht:n.wanted.testBit t=true) (h:∀ v,n.net w' v=n.net w v - b2i (decide (v=fr))+b2i (decide (v=t))):n.outOf w' n.kept=n.outOf w n.kept - 1:=by
 have hkt:=hf t ht
 unfold NetL.outOf
 have e:(sumS 7 fun v=>if n.kept.testBit v=true then n.net w' v else 0)=(sumS 7 fun v=>if n.kept.testBit v=true then n.net w v else 0) - sumS 7 fun v=>if fr=v then 1 else 0:=by
  rw [← sumS_sub]
  refine sumS_congr fun v _=>?_
  rw [h v]
  cases hkv:n.kept.testBit v with
  | false =>
   have:fr≠v:=fun e=>by subst e;rw [hfr] at hkv;cases hkv
   simp [this]
  | true =>
   have h2:b2i (decide (v=t))=0:=b2i_false (by simp;rintro rfl;rw [hkt] at hkv;cases hkv)
   rw [h2]
   simp only [if_true]
   unfold b2i
   by_cases e:v=fr
   ·subst e;simp
   ·have e':¬ fr=v:=fun h=>e h.symm
    simp [e,e']
 rw [e,sumS_one,if_pos (bit_lt hn.k hfr)]

theorem fromF_ok {n:NetL} (hn:n.Ok) (hf:n.Free) {w0:List Int} (hs0:Sg n w0) {m:Nat} {fr:Nat} (hfr:n.kept.testBit fr=true) :
    ∀ (r:Nat) (ws:List (List Nat)) (w:List Int),WsOK n m w0 ws w→n.net w fr≤r→∃ ws' w',n.fromF fr r ws w=some (ws',w')∧WsOK n m w0 ws' w'∧n.net w' fr=0∧∀ v,n.kept.testBit v=true→v≠fr→n.net w' v=n.net w v
  | 0,ws,w,h,hr=>by
   have h0:=netN_pos (hs0.les h.les) hfr n.pipes.length
   rw [NetL.fromF_zero,if_neg (by omega)]
   exact ⟨ws,w,rfl,h,by unfold NetL.net at hr ⊢;omega,fun _ _ _=>rfl⟩
  | r+1,ws,w,h,hr=>by
   have hs:=hs0.les h.les
   have h0:=netN_pos hs hfr n.pipes.length
   rw [NetL.fromF_succ]
   by_cases hpos:n.net w fr > 0
   ·rw [if_pos hpos]
    obtain ⟨l,w1,h1,h2⟩:=trace_ok hn hf hs hfr h.bal hpos
    rw [h1]
    dsimp only
    obtain ⟨t,ht,hnet⟩:=h2.net
    have hkt:=hf t ht
    have hnew:WsOK n m w0 (ws++[l]) w1:=by
     refine ⟨h2.les.trans h.les,fun v a b=>?_,?_,fun l' hl'=>?_,fun i=>?_⟩
     ·rw [hnet v]
      have e1:v≠fr:=fun e=>by subst e;rw [hfr] at a;cases a
      have e2:v≠t:=fun e=>by subst e;rw [ht] at b;cases b
      rw [h.bal v a b,b2i_false (decide_eq_false e1),b2i_false (decide_eq_false e2)];rfl
     ·rw [out_step hn hf hfr ht hnet,List.length_append]
      have:=h.tot
      simp only [List.length_singleton]
      omega
     ·rcases List.mem_append.1 hl' with hl' | hl'
      ·exact h.gas l' hl'
      ·rw [List.mem_singleton.1 hl'];exact ⟨fr,hfr,h2.gas⟩
     ·have a:=h.use i
      have b:=h2.use i
      rw [List.flatten_append,occN_app]
      simp only [List.flatten_cons,List.flatten_nil,List.append_nil]
      omega
    have hdrop:n.net w1 fr=n.net w fr - 1:=by
     rw [hnet fr,b2i_true (decide_eq_true rfl),b2i_false (decide_eq_false fun e=>by subst e;rw [hkt] at hfr;cases hfr)]
     omega
    obtain ⟨ws',w',g1,g2,g3,g4⟩:=fromF_ok hn hf hs0 hfr r (ws++[l]) w1 hnew (by omega)
    refine ⟨ws',w',g1,g2,g3,fun v hv hne=>?_⟩
    rw [g4 v hv hne,hnet v,b2i_false (decide_eq_false hne),b2i_false (decide_eq_false fun e=>by subst e;rw [hkt] at hv;cases hv)]
    omega
   ·rw [if_neg hpos]
    exact ⟨ws,w,rfl,h,by unfold NetL.net at hpos ⊢;omega,fun _ _ _=>rfl⟩

theorem fromL_ok {n:NetL} (hn:n.Ok) (hf:n.Free) {w0:List Int} (hs0:Sg n w0) {m:Nat} (hm:m≤100) :
    ∀ (ks:List Nat) (ws:List (List Nat)) (w:List Int),(∀ k∈ks,n.kept.testBit k=true)→WsOK n m w0 ws w→∃ ws' w',n.fromL ks ws w=some (ws',w')∧WsOK n m w0 ws' w'∧∀ v,n.kept.testBit v=true→(v∈ks∨n.net w v=0)→n.net w' v=0
  | [],ws,w,_,h=>⟨ws,w,rfl,h,fun v _ hc=>hc.resolve_left (by simp)⟩
  | k::ks,ws,w,hks,h=>by
   have hk:=hks k (by simp)
   have h1:=out_ge hn (hs0.les h.les) hk
   have h2:=h.tot
   obtain ⟨ws1,w1,g1,g2,g3,g4⟩:=fromF_ok hn hf hs0 hk 100 ws w h (by omega)
   obtain ⟨ws',w',e1,e2,e3⟩:=fromL_ok hn hf hs0 hm ks ws1 w1 (fun v hv=>hks v (by simp [hv])) g2
   unfold NetL.fromL
   rw [g1]
   dsimp only
   refine ⟨ws',w',e1,e2,fun v hv hc=>?_⟩
   refine e3 v hv ?_
   by_cases e:v=k
   ·subst e;exact .inr g3
   ·rcases hc with hc | hc
    ·rcases List.mem_cons.1 hc with h | h
     ·exact absurd h e
     ·exact .inl h
    ·exact .inr ((g4 v hv e).trans hc)

theorem NetL.ways_ok {n:NetL} (hn:n.Ok) (hf:n.Free):match n.flow with
    | none=>n.waysF=some none
    | some (_,m)=>∃ ws,n.waysF=some (some ws)∧ws.length=m∧n.provesL (ws.map fun l=>l.map fun i=>((i:Nat):Int)) []=true:=by
  have hfl:=NetL.flow_ok hn hf
  unfold NetL.waysF
  cases hx:n.flow with
  | none=>rfl
  | some x =>
   obtain ⟨w,m⟩:=x
   rw [hx] at hfl
   dsimp only at hfl ⊢
   obtain ⟨hflow,_⟩:=hfl
   obtain ⟨_,hml⟩:=NetL.flow_inv hn hx
   have h12:=hn.p
   by_cases hm0:m=0
   ·rw [if_pos hm0]
    exact ⟨[],rfl,hm0.symm,rfl⟩
   ·rw [if_neg hm0]
    have hi:=hflow.inv
    have hs:Sg n w:=⟨hi.len,hi.kfr,hi.kto,fun i=>by have:=hi.bnd i;omega⟩
    have h0:WsOK n m w [] w:=⟨.refl w,hflow.bal,by rw [hflow.val];simp,fun l h=>by (cases h),fun i=>by simp [occN]⟩
    obtain ⟨ws,w',h1,h2,h3⟩:=fromL_ok hn hf hs (by omega) (tanksU n.kept) [] w (fun k hk=>(mem_tanksU.1 hk).2) h0
    rw [h1]
    dsimp only
    have hout:n.outOf w' n.kept=0:=by
     unfold NetL.outOf
     rw [sumS_congr (g:=fun _=>0) fun v hv=>?_,sumS_zero]
     cases hk:n.kept.testBit v with
     | false=>simp
     | true=>simp only [if_true];exact h3 v hk (.inl (mem_tanksU.2 ⟨hv,hk⟩))
    have htot:=h2.tot
    rw [hout] at htot
    have hlen:ws.length=m:=by omega
    rw [if_pos hlen]
    refine ⟨ws,rfl,hlen,NetL.proves_ok hn _ [] (fun l hl=>?_) (fun v=>Int.le_refl _) (fun i p hp hw=>?_)⟩
    ·obtain ⟨l',hl',rfl⟩:=List.mem_map.1 hl
     exact h2.gas l' hl'
    ·have a:=h2.use i
     have b:=hi.unit i p hp hw
     rw [← List.map_flatten,occN_cast]
     have c:countU [] (i:Nat)=0:=rfl
     rw [c]
     omega

end Go.Proofs.Vent
