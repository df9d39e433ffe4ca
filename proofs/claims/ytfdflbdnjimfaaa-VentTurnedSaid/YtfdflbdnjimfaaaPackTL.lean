/- The first list of the fewest blanks is the one that cut finds. No condition. -/
import Derived.Test.YtfdflbdnjimfaaaPackTC

namespace Go.Proofs.Vent
open Go.V Go.Proofs

/-! Counting. -/
theorem cnt_or (p q:Nat→Bool):∀ k,((List.range k).filter fun j=>p j || q j).length≤((List.range k).filter p).length+((List.range k).filter q).length
 | 0=>by simp
 | k+1=>by
  have ih:=cnt_or p q k
  simp only [List.range_succ,List.filter_append,List.length_append]
  cases hp:p k <;> cases hq:q k <;> simp [hp,hq] <;> omega
theorem cnt_sub {p q:Nat→Bool} (h:∀ j,q j=true→p j=true):∀ k,((List.range k).filter fun j=>p j && !(q j)).length+((List.range k).filter q).length=((List.range k).filter p).length
 | 0=>by simp
 | k+1=>by
  have ih:=cnt_sub h k
  simp only [List.range_succ,List.filter_append,List.length_append]
  cases hq:q k with
  | true=>simp [hq,h k hq];omega
  | false=>cases hp:p k <;> simp [hp,hq] <;> omega
theorem cnt_range_le {p q:Nat→Bool}:∀ {k:Nat},(∀ j,j<k→p j=true→q j=true)→((List.range k).filter p).length≤((List.range k).filter q).length
 | 0,_=>by simp
 | k+1,h=>by
  have ih:=cnt_range_le (p:=p) (q:=q) (k:=k) fun j hj=>h j (by omega)
  simp only [List.range_succ,List.filter_append,List.length_append]
  cases hp:p k with
  | false=>simp [hp];omega
  | true=>simp [hp,h k (by omega) hp];exact ih

theorem NetL.Con.map {a b:NetL} (h:∀ u v,a.adj u v→b.adj u v) {u v:Nat} (hc:a.Con u v):b.Con u v:=by
 induction hc with
 | refl=>exact .refl _
 | step _ h2 ih=>exact .step ih (h _ _ h2)
theorem NetL.Sep.mono {n:NetL} (hn:n.Ok) {D E:Nat→Bool} (h:∀ j,j<n.pipes.length→D j=true→E j=true) (hs:n.Sep D):n.Sep E:=by
 intro k t hk ht hc
 refine hs k t hk ht (hc.map fun u v ha=>?_)
 obtain ⟨i,p,hp,ho,he⟩:=ha
 have hil:i<n.pipes.length:=(List.getElem?_eq_some_iff.1 hp).1
 refine ⟨i,p,hp,?_,he⟩
 rw [n.less_op hn] at ho ⊢
 rw [Bool.and_eq_true] at ho ⊢
 refine ⟨ho.1,?_⟩
 cases hd:D i with
 | false=>rfl
 | true=>have h2:=ho.2;rw [h i hil hd] at h2;cases h2

def OpOf (n:NetL) (op:List Bool) (bl:List Nat):Prop:=op.length=12∧∀ j,op.getD j false=(n.opN j && !(bset bl j))
abbrev NetL.at (n:NetL) (op:List Bool):NetL:={ n with op:=op }
theorem at_ok {n:NetL} (h:n.Ok) {op:List Bool} (ho:op.length=12):(n.at op).Ok:=⟨h.t1,h.t7,h.p,h.pe,h.k,h.w,ho⟩
theorem OpOf.sep {n:NetL} (hn:n.Ok) {op:List Bool} {bl:List Nat} (ho:OpOf n op bl) (D:Nat→Bool):(n.at op).Sep D↔n.Sep fun j=>bset bl j || D j:=by
 have hop:∀ j,((n.at op).less D).opN j=(n.less fun j=>bset bl j || D j).opN j:=fun j=>by
  rw [(n.at op).less_op (at_ok hn ho.1),n.less_op hn]
  show ((n.at op).op.getD j false && !(D j))=_
  have h1:(n.at op).op.getD j false=(n.opN j && !(bset bl j)):=ho.2 j
  rw [h1]
  cases n.opN j <;> cases bset bl j <;> cases D j <;> rfl
 constructor
 ·intro h k t hk ht hc
  refine h k t hk ht (hc.map fun u v ha=>?_)
  obtain ⟨i,p,hp,h1,he⟩:=ha
  exact ⟨i,p,hp,by rw [hop i];exact h1,he⟩
 ·intro h k t hk ht hc
  refine h k t hk ht (hc.map fun u v ha=>?_)
  obtain ⟨i,p,hp,h1,he⟩:=ha
  exact ⟨i,p,hp,by rw [← hop i];exact h1,he⟩
theorem bset_app {l:List Nat} {i j:Nat}:bset (l++[i]) j=(bset l j || decide (j=i)):=by
 apply Bool.eq_iff_iff.2
 rw [bset_iff,List.mem_append,List.mem_singleton,Bool.or_eq_true,bset_iff,decide_eq_true_iff]
theorem OpOf.cons {n:NetL} {op:List Bool} {bl:List Nat} (ho:OpOf n op bl) {i:Nat} (hi:i<12):OpOf n (op.set i false) (bl++[i]):=by
 refine ⟨by rw [List.length_set];exact ho.1,fun j=>?_⟩
 have h1:=ho.2 j
 rw [bset_app]
 rw [List.getD_eq_getElem?_getD] at h1 ⊢
 rw [List.getElem?_set]
 by_cases e:i=j
 ·subst e
  rw [if_pos rfl,if_pos (by rw [ho.1];exact hi)]
  simp
 ·rw [if_neg e,h1,decide_eq_false (fun h=>e h.symm),Bool.or_false]
theorem OpOf.back {n:NetL} {op:List Bool} {bl:List Nat} (ho:OpOf n op bl) {i:Nat} (hi:i<12) (hop:n.opN i=true) (hb:bset bl i=false):OpOf n ((op.set i false).set i true) bl:=by
 refine ⟨by rw [List.length_set,List.length_set];exact ho.1,fun j=>?_⟩
 have h1:=ho.2 j
 rw [List.getD_eq_getElem?_getD] at h1 ⊢
 rw [List.getElem?_set,List.getElem?_set,List.length_set]
 by_cases e:i=j
 ·subst e
  rw [if_pos rfl,if_pos (by rw [ho.1];exact hi),hop,hb]
  rfl
 ·rw [if_neg e,if_neg e,h1]

theorem flow_need {n:NetL} (hn:n.Ok) (hf:n.Free) {D:Nat→Bool} (hs:n.Sep D) (hfl:n.Fl D):∃ m:Nat,n.flowZ=m∧n.Need m:=by
 have h:=NetL.flow_ok hn hf
 unfold NetL.flowZ
 cases hx:n.flow with
 | none=>rw [hx] at h;exact absurd hfl (h D hs)
 | some x =>
  obtain ⟨w,m⟩:=x
  rw [hx] at h
  exact ⟨m,rfl,h.2⟩

structure Gr (n:NetL) (T i:Nat) (op:List Bool) (most:Nat) (bl:List Nat):Prop where
 isop:OpOf n op bl
 tot:most+bl.length=T
 flow:(n.at op).flowZ=most
 need:(n.at op).Need most
 lt:∀ j∈bl,j<i
 asc:bl.Pairwise (·<·)
 fl:∀ j p,j∈bl→n.pipes[j]?=some p→p.welded=false
 only:∀ D,n.Sep D→n.Fl D→n.many D=T→(∀ j∈bl,D j=true)→∀ j,j<i→D j=true→j∈bl

theorem Gr.nd {n:NetL} {T i:Nat} {op:List Bool} {most:Nat} {bl:List Nat} (h:Gr n T i op most bl):bl.Nodup:=h.asc.imp fun h=>by omega
theorem Gr.len {n:NetL} {T i:Nat} {op:List Bool} {most:Nat} {bl:List Nat} (h:Gr n T i op most bl) (hi:i≤n.pipes.length):n.many (bset bl)=bl.length:=many_list h.nd fun j hj=>by have:=h.lt j hj;omega

theorem Gr.done {n:NetL} (hn:n.Ok) {T i:Nat} {op:List Bool} {bl:List Nat} (h:Gr n T i op 0 bl):n.Sep (bset bl):=by
 obtain ⟨B,h1,h2,h3⟩:=h.need.some
 have h4:=(h.isop.sep hn B).1 h1
 refine h4.mono hn fun j hj hd=>?_
 rw [Bool.or_eq_true] at hd
 rcases hd with hd | hd
 ·exact hd
 ·have h5:n.many B=0:=h3
  unfold NetL.many at h5
  have h6:j∈(List.range n.pipes.length).filter B:=List.mem_filter.2 ⟨List.mem_range.2 hj,hd⟩
  rw [List.length_eq_zero_iff.1 h5] at h6
  cases h6

section
variable {n:NetL} {T i:Nat} {op:List Bool} {most:Nat} {bl:List Nat}

theorem Gr.last (hn:n.Ok) (hT:n.Need T) (h:Gr n T i op most bl) (hi:i=n.pipes.length):most=0:=by
 obtain ⟨B,h1,h2,h3⟩:=h.need.some
 have h4:=(h.isop.sep hn B).1 h1
 have h5:n.Fl fun j=>bset bl j || B j:=fun j p hp hd=>by
  simp only [Bool.or_eq_true] at hd
  rcases hd with hd | hd
  ·exact h.fl j p (bset_iff.1 hd) hp
  ·exact h2 j p hp hd
 have h6:=hT.most _ h4 h5
 have h7:=cnt_or (bset bl) B n.pipes.length
 have h8:=h.len (by omega)
 have h3:n.many B=most:=h3
 have h9:n.many (fun j=>bset bl j || B j)≤bl.length+most:=by
  unfold NetL.many at h3 h8 ⊢
  omega
 have htot:=h.tot
 have h10:n.many (fun j=>bset bl j || B j)=T:=by omega
 have h11:=h.only _ h4 h5 h10 fun j hj=>by rw [bset_iff.2 hj];rfl
 have h12:n.many (fun j=>bset bl j || B j)≤n.many (bset bl):=cnt_range_le fun j hj hd=>bset_iff.2 (h11 j (by omega) hd)
 omega

theorem Gr.less (hn:n.Ok) (hf:n.Free) (h:Gr n T i op most bl) {p:Pp} (hp:n.pipes[i]?=some p) (hw:p.welded=false) :
    ∃ m:Nat,(n.at (op.set i false)).flowZ=m∧(n.at (op.set i false)).Need m∧m≤most∧most≤m+1:=by
  have hil:i<n.pipes.length:=(List.getElem?_eq_some_iff.1 hp).1
  have h12:=hn.p
  have ho2:=h.isop.cons (i:=i) (by omega)
  obtain ⟨B,h1,h2,h3⟩:=h.need.some
  have h4:=(h.isop.sep hn B).1 h1
  have h5:(n.at (op.set i false)).Sep B:=(ho2.sep hn B).2 (h4.mono hn fun j _ hd=>by
   rw [bset_app]
   rw [Bool.or_eq_true] at hd
   rcases hd with hd | hd <;> rw [hd] <;> simp)
  obtain ⟨m,hm1,hm2⟩:=flow_need (at_ok hn ho2.1) hf h5 h2
  have h3:n.many B=most:=h3
  refine ⟨m,hm1,hm2,?_,?_⟩
  ·have:=hm2.most B h5 h2
   have h6:(n.at (op.set i false)).many B=most:=h3
   omega
  ·obtain ⟨C,c1,c2,c3⟩:=hm2.some
   have c4:=(ho2.sep hn C).1 c1
   have c5:(n.at op).Sep fun j=>decide (j=i) || C j:=(h.isop.sep hn _).2 (c4.mono hn fun j _ hd=>by
    rw [bset_app] at hd
    rw [← Bool.or_assoc]
    exact hd)
   have c6:(n.at op).Fl fun j=>decide (j=i) || C j:=fun j q hq hd=>by
    simp only [Bool.or_eq_true,decide_eq_true_iff] at hd
    rcases hd with rfl | hd
    ·have hq:n.pipes[j]?=some q:=hq
     rw [hp] at hq;cases hq;exact hw
    ·exact c2 j q hq hd
   have c7:=h.need.most _ c5 c6
   have c8:=cnt_or (fun j=>decide (j=i)) C n.pipes.length
   have c9:((List.range n.pipes.length).filter fun j=>decide (j=i)).length≤1:=by
    have:=many_list (n:=n) (l:=[i]) (by simp) (by simp;exact hil)
    have e:((List.range n.pipes.length).filter fun j=>decide (j=i)).length≤n.many (bset [i]):=cnt_range_le fun j _ hd=>bset_iff.2 (by simpa using hd)
    rw [this] at e
    exact e
   have c3:n.many C=m:=c3
   have c10:(n.at op).many (fun j=>decide (j=i) || C j)≤1+m:=by
    unfold NetL.many at c3 ⊢
    show ((List.range n.pipes.length).filter _).length≤_
    omega
   omega

theorem Gr.take (h:Gr n T i op most bl) (hn:n.Ok) {p:Pp} (hp:n.pipes[i]?=some p) (hw:p.welded=false) {m:Nat} (h1:(n.at (op.set i false)).flowZ=m) (h2:(n.at (op.set i false)).Need m) (h3:m+1=most) :
    Gr n T (i+1) (op.set i false) m (bl++[i]):=by
  have hil:i<n.pipes.length:=(List.getElem?_eq_some_iff.1 hp).1
  have h12:=hn.p
  refine ⟨h.isop.cons (by omega),by have:=h.tot;simp;omega,h1,h2,fun j hj=>?_,?_,fun j q hj hq=>?_,fun D d1 d2 d3 d4 j hj hd=>?_⟩
  ·rw [List.mem_append,List.mem_singleton] at hj
   rcases hj with hj | rfl
   ·have:=h.lt j hj;omega
   ·omega
  ·rw [List.pairwise_append]
   exact ⟨h.asc,by simp,fun x hx y hy=>by rw [List.mem_singleton] at hy;have:=h.lt x hx;omega⟩
  ·rw [List.mem_append,List.mem_singleton] at hj
   rcases hj with hj | rfl
   ·exact h.fl j q hj hq
   ·rw [hp] at hq;cases hq;exact hw
  ·rw [List.mem_append,List.mem_singleton]
   by_cases e:j=i
   ·exact .inr e
   ·exact .inl (h.only D d1 d2 d3 (fun x hx=>d4 x (by simp [hx])) j (by omega) hd)

theorem Gr.none (h:Gr n T i op most bl) (hn:n.Ok) {p:Pp} (hp:n.pipes[i]?=some p) {m:Nat} (h2:(n.at (op.set i false)).Need m) (h3:most≤m) {D:Nat→Bool} (d1:n.Sep D) (d2:n.Fl D) (d3:n.many D=T) (d4:∀ j∈bl,D j=true):D i=false:=by
 have hil:i<n.pipes.length:=(List.getElem?_eq_some_iff.1 hp).1
 have h12:=hn.p
 cases hd:D i with
 | false=>rfl
 | true =>
  exfalso
  have ho2:=h.isop.cons (i:=i) (by omega)
  have e1:∀ j,bset (bl++[i]) j=true→D j=true:=fun j hj=>by
   rw [bset_iff,List.mem_append,List.mem_singleton] at hj
   rcases hj with hj | rfl
   ·exact d4 j hj
   ·exact hd
  have e2:(n.at (op.set i false)).Sep fun j=>D j && !(bset (bl++[i]) j):=(ho2.sep hn _).2 (d1.mono hn fun j _ hj=>by
   rw [hj]
   cases bset (bl++[i]) j <;> rfl)
  have e3:(n.at (op.set i false)).Fl fun j=>D j && !(bset (bl++[i]) j):=fun j q hq hj=>by
   simp only [Bool.and_eq_true] at hj
   exact d2 j q hq hj.1
  have e4:=h2.most _ e2 e3
  have e5:=cnt_sub e1 n.pipes.length
  have hnd:(bl++[i]).Nodup:=by
   rw [List.nodup_append]
   refine ⟨h.nd,by simp,fun x hx y hy=>?_⟩
   rw [List.mem_singleton] at hy
   have:=h.lt x hx
   omega
  have e6:=many_list (n:=n) hnd fun j hj=>by
   rw [List.mem_append,List.mem_singleton] at hj
   rcases hj with hj | rfl
   ·have:=h.lt j hj;omega
   ·exact hil
  have e7:(n.at (op.set i false)).many (fun j=>D j && !(bset (bl++[i]) j))=((List.range n.pipes.length).filter fun j=>D j && !(bset (bl++[i]) j)).length:=rfl
  have htot:=h.tot
  unfold NetL.many at d3 e6
  rw [List.length_append] at e6
  simp at e6
  omega

theorem Gr.skip (h:Gr n T i op most bl) (hn:n.Ok) {p:Pp} (hp:n.pipes[i]?=some p) (hop:n.opN i=true) {m:Nat} (h2:(n.at (op.set i false)).Need m) (h3:most≤m):Gr n T (i+1) ((op.set i false).set i true) most bl:=by
 have hil:i<n.pipes.length:=(List.getElem?_eq_some_iff.1 hp).1
 have h12:=hn.p
 have hb:bset bl i=false:=by
  cases hb:bset bl i with
  | false=>rfl
  | true=>have:=h.lt i (bset_iff.1 hb);omega
 have hback:=h.isop.back (i:=i) (by omega) hop hb
 have e:(op.set i false).set i true=op:=by
  rw [List.set_set]
  apply List.ext_getElem?
  intro j
  rw [List.getElem?_set]
  by_cases ej:i=j
  ·subst ej
   have h1:=h.isop.2 i
   have hlen:i<op.length:=by rw [h.isop.1];omega
   rw [if_pos rfl,if_pos hlen]
   rw [List.getD_eq_getElem?_getD,List.getElem?_eq_getElem hlen,hop,hb] at h1
   rw [List.getElem?_eq_getElem hlen]
   simp at h1
   rw [h1]
  ·rw [if_neg ej]
 refine ⟨hback,h.tot,by rw [e];exact h.flow,by rw [e];exact h.need,fun j hj=>by have:=h.lt j hj;omega,h.asc,h.fl,fun D d1 d2 d3 d4 j hj hd=>?_⟩
 by_cases ej:j=i
 ·subst ej
  rw [h.none hn hp h2 h3 d1 d2 d3 d4] at hd
  cases hd
 ·exact h.only D d1 d2 d3 d4 j (by omega) hd
theorem Gr.weld (h:Gr n T i op most bl) {p:Pp} (hp:n.pipes[i]?=some p) (hw:p.welded=true):Gr n T (i+1) op most bl:=by
 refine ⟨h.isop,h.tot,h.flow,h.need,fun j hj=>by have:=h.lt j hj;omega,h.asc,h.fl,fun D d1 d2 d3 d4 j hj hd=>?_⟩
 by_cases ej:j=i
 ·subst ej
  rw [d2 j p hp hd] at hw
  cases hw
 ·exact h.only D d1 d2 d3 d4 j (by omega) hd
end

structure Found (n:NetL) (T:Nat) (l:List Nat):Prop where
 sep:n.Sep (bset l)
 len:l.length=T
 asc:l.Pairwise (·<·)
 fl:∀ j p,j∈l→n.pipes[j]?=some p→p.welded=false
 lt:∀ j∈l,j<n.pipes.length

theorem NetL.listsF_zero (n:NetL):∀ (c i:Nat) (b:List Nat),n.listsF c i 0 b=[b]
 | 0,_,_=>rfl
 | _+1,_,_=>rfl

theorem Gr.find {n:NetL} (hn:n.Ok) (hf:n.Free) {T:Nat} (hT:n.Need T) (hopen:∀ j,j<n.pipes.length→n.opN j=true) {s:List Nat→Bool} (hs:∀ l,s l=true↔n.Sep (bset l)) :
    ∀ (c i:Nat) (op:List Bool) (most:Nat) (bl:List Nat),i+c=n.pipes.length→Gr n T i op most bl→(n.listsF c i most bl).find? s=some (n.cutF c i op most bl)∧Found n T (n.cutF c i op most bl)
  | 0,i,op,most,bl,hi,h=>by
   have h0:=h.last hn hT (by omega)
   subst h0
   have hsep:=h.done hn
   refine ⟨?_,hsep,by have:=h.tot;simp [NetL.cutF];omega,h.asc,h.fl,fun j hj=>by have:=h.lt j hj;omega⟩
   rw [NetL.listsF_zero]
   simp [List.find?,(hs bl).2 hsep,NetL.cutF]
  | c+1,i,op,most,bl,hi,h=>by
   by_cases h0:most=0
   ·subst h0
    have hsep:=h.done hn
    have e:n.cutF (c+1) i op ((0:Nat):Int) bl=bl:=by unfold NetL.cutF;rw [if_pos (show ((0:Nat):Int)=0 from rfl)]
    rw [e,NetL.listsF_zero]
    refine ⟨by simp [List.find?,(hs bl).2 hsep],hsep,by have:=h.tot;omega,h.asc,h.fl,fun j hj=>by have:=h.lt j hj;omega⟩
   ·obtain ⟨m,rfl⟩:∃ m,most=m+1:=⟨most - 1,by omega⟩
    have hil:i<n.pipes.length:=by omega
    obtain ⟨p,hp⟩:∃ p,n.pipes[i]?=some p:=⟨_,List.getElem?_eq_getElem hil⟩
    have hcut:n.cutF (c+1) i op ((m+1:Nat):Int) bl=match p.welded with
        | true=>n.cutF c (i+1) op ((m+1:Nat):Int) bl
        | false=>if (n.at (op.set i false)).flowZ<((m+1:Nat):Int) then n.cutF c (i+1) (op.set i false) (n.at (op.set i false)).flowZ (bl++[i])
         else n.cutF c (i+1) ((op.set i false).set i true) ((m+1:Nat):Int) bl:=by
      conv=>lhs;unfold NetL.cutF
      rw [if_neg (by omega),hp]
      dsimp only
      cases p.welded <;> rfl
    have hlist:n.listsF (c+1) i (m+1) bl=(match p.welded with
        | true=>[]
        | false=>n.listsF c (i+1) m (bl++[i]))++n.listsF c (i+1) (m+1) bl:=by
      conv=>lhs;unfold NetL.listsF
      rw [hp]
      dsimp only
      cases p.welded <;> rfl
    cases hw:p.welded with
    | true =>
     rw [hw] at hcut hlist
     rw [hcut,hlist]
     exact Gr.find hn hf hT hopen hs c (i+1) op (m+1) bl (by omega) (h.weld hp hw)
    | false =>
     rw [hw] at hcut hlist
     obtain ⟨m',h1,h2,h3,h4⟩:=h.less hn hf hp hw
     by_cases hlt:(n.at (op.set i false)).flowZ<((m+1:Nat):Int)
     ·simp only [if_pos hlt] at hcut
      rw [h1] at hlt hcut
      obtain rfl:m'=m:=by omega
      rw [hcut,hlist]
      have ih:=Gr.find hn hf hT hopen hs c (i+1) (op.set i false) m' (bl++[i]) (by omega) (h.take hn hp hw h1 h2 rfl)
      refine ⟨?_,ih.2⟩
      simp only
      rw [List.find?_append,ih.1]
      rfl
     ·simp only [if_neg hlt] at hcut
      rw [h1] at hlt
      rw [hcut,hlist]
      have ih:=Gr.find hn hf hT hopen hs c (i+1) ((op.set i false).set i true) (m+1) bl (by omega) (h.skip hn hp (hopen i hil) h2 (by omega))
      refine ⟨?_,ih.2⟩
      simp only
      rw [List.find?_append,ih.1]
      have hnone:(n.listsF c (i+1) m (bl++[i])).find? s=Option.none:=by
       rw [List.find?_eq_none]
       intro l hl hsl
       have hsep:=(hs l).1 hsl
       have hnd:(bl++[i]).Nodup:=by
        rw [List.nodup_append]
        refine ⟨h.nd,by simp,fun x hx y hy=>?_⟩
        rw [List.mem_singleton] at hy
        have:=h.lt x hx
        omega
       obtain ⟨l1,l2,l3,l4,l5⟩:=NetL.listsF_mem c (i+1) m (bl++[i]) l hl (by omega) (fun j hj=>by
        rw [List.mem_append,List.mem_singleton] at hj
        rcases hj with hj | rfl
        ·have:=h.lt j hj;omega
        ·omega) hnd (fun j q hj hq=>by
        rw [List.mem_append,List.mem_singleton] at hj
        rcases hj with hj | rfl
        ·exact h.fl j q hj hq
        ·rw [hp] at hq;cases hq;exact hw)
       have htot:=h.tot
       have h6:=h.none hn hp h2 (by omega) hsep (fun j q hq hj=>l4 j q (bset_iff.1 hj) hq) (by rw [many_list l2 l5,l1,List.length_append];simp;omega) (fun j hj=>bset_iff.2 (l3 j (by simp [hj])))
       have h7:bset l i=true:=bset_iff.2 (l3 i (by simp))
       rw [h6] at h7
       cases h7
      rw [hnone]
      rfl

theorem NetL.cut_ok {n:NetL} (hn:n.Ok) (hf:n.Free) (hopen:∀ j,j<n.pipes.length→n.opN j=true) {s:List Nat→Bool} (hs:∀ l,s l=true↔n.Sep (bset l)):match n.cut with
    | some l=>∃ T,n.Need T∧Found n T l∧(n.listsF n.pipes.length 0 T []).find? s=some l
    | none=>∀ D,n.Sep D→¬ n.Fl D:=by
  have hflow:=NetL.flow_ok hn hf
  unfold NetL.cut
  cases hx:n.flow with
  | none =>
   rw [hx] at hflow
   have e:n.flowZ=-1:=by unfold NetL.flowZ;rw [hx]
   rw [e]
   exact hflow
  | some x =>
   obtain ⟨w,T⟩:=x
   rw [hx] at hflow
   have e:n.flowZ=T:=by unfold NetL.flowZ;rw [hx]
   rw [e,if_neg (by omega)]
   have g:Gr n T 0 n.op T []:=⟨⟨hn.o,fun j=>by show n.opN j=_;simp [bset]⟩,rfl,e,hflow.2,fun j h=>(by cases h),.nil,fun j p h=>(by cases h),fun D _ _ _ _ j hj=>(by omega)⟩
   have:=Gr.find hn hf hflow.2 hopen hs n.pipes.length 0 n.op T [] (by omega) g
   exact ⟨T,hflow.2,this.2,this.1⟩

end Go.Proofs.Vent
