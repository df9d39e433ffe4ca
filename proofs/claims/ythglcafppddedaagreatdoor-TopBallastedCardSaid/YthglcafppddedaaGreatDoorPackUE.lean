/- What ballasted_holds leans on, part UE. No condition. -/
import Derived.Laws.AppendOwn
import Derived.Test.YthglcafppddedaaGreatDoorPackUD

set_option linter.all false
namespace Go.V
open Go.RowKit
section
variable{P:Program}[aM]{T:Nat->Option TI}{cx:Cx}{V:Nat->Prop}{U:St}{β:BE}{I:aW}{S:Nat->Prop}{N:Nat}{a:Act}{w:World}
theorem bf.Bj(h:bf cx V U β I S N a w){B:Nat}(hB:cx.dP B)(hm:Mem I B):Mem cx.I0 B:=let⟨c,hc⟩:=hm;⟨c,(h.fV B _ hB).symm.trans hc⟩
theorem bf.xT(ak:cx.Ok)(h:bf cx V U β I S N a w){w':World}(k:dG I w w')(ha:bc I w'):bf cx V U β I S N a w':=
 {h with
  agree:=ha
  bx:=λi b hb=>let⟨box,h1,h2⟩:=h.bx i b hb;⟨box,h1,h2.mono I.le_refl (BE.le_refl β) λR hR=>k.block R ⟨h2.slt hR,by
   rcases hR with hR|hR
   .exact h.nt R (.inr ⟨i,b,hb,hR⟩)
   cases box with
   |aJ=>obtain⟨bm,h3,h4⟩:=hR;exact h.nt R (.inr ⟨_,bm,h3,h4⟩)
   |_=>exact hR.elim⟩⟩
  fr:=ak.fr _ _ h.fr (k.mono λB hB=>⟨h.n0 B hB.1,λhm=>hB.2 (h.Bj hB.1 hm)⟩)
  n0:=λB hB=>Nat.lt_of_lt_of_le (h.n0 B hB) k.size
  j:=ak.j _ _ _ _ h.j (k.mono λB hB=>⟨h.sb B hB,h.nt B (.inl hB)⟩)
  sb:=λB hB=>Nat.lt_of_lt_of_le (h.sb B hB) k.size
  marks:=λd hd hD=>let⟨R,h1,h2,h3⟩:=h.marks d hd hD;⟨R,h1,(k.block R ⟨bo h2,λ⟨c,hc⟩=>by
   obtain⟨es,q,h4,_⟩:=kc (h.agree R _ _ hc);rw[h2]at h4;cases h4⟩).trans h2,h3⟩}
theorem bf.aE(ak:cx.Ok)(h:bf cx V U β I S N a w){w':World}(k:aB (·<w.heap.size) w w'):bf cx V U β I S N a w':=h.xT ak k.toM (h.agree.aE k)
omit [aM]in
theorem bf.freeze(h:bf cx V U β I S N a w){bs:List af}(hb:∀(i:Nat)(box:af),U.boxes[i]?=some box->bs[i]?=some box\/bs[i]?=some box.freeze)(hl:bs.length=U.boxes.length):
    bf cx V ⟨U.tmps,bs,U.y⟩ β I S N a w:=
  {h with
   tm:=h.tm
   j:=h.j
   bx:=λi b hβ=>by
    obtain⟨box,h1,h2⟩:=h.bx i b hβ;rcases hb i box h1 with h3|h3
    .exact⟨box,h3,h2⟩
    exact⟨_,h3,by cases box<;>exact h2⟩
   clear:=λi b R box hβ hR aN hf=>by
    have hi:i<U.boxes.length:=by rw[<-hl];exact(List.getElem?_eq_some_iff.1 aN).1
    have h0:U.boxes[i]?=some U.boxes[i]:=List.getElem?_eq_getElem hi;rcases hb i _ h0 with h3|h3
    .have aN:bs[i]?=some box:=aN
     rw[aN]at h3;cases h3;exact h.clear i b R _ hβ hR h0 hf
    have aN:bs[i]?=some box:=aN;rw[aN]at h3;cases h3;revert hf
    generalize U.boxes[i]=bb
    cases bb<;>(intro hf;cases hf)}
omit [aM]in
theorem ck:∀(bs:List af)(k:Nat)(l:List Nat)(i:Nat)(box:af),bs[i]?=some box->(au bs k l)[i]?=some (match l.contains (k+i)with|true=>box.freeze|false=>box)
 |[],_,_,_,_,h=>by simp at h
 |b::r,k,l,0,box,h=>by
  simp only[List.getElem?_cons_zero,Option.some.injEq]at h;subst h;simp only[au,List.getElem?_cons_zero,Nat.add_zero];cases l.contains k<;>rfl
 |b::r,k,l,i+1,box,h=>by
  simp only[au,List.getElem?_cons_succ];have:=ck r (k+1) l i box (by simpa using h);rw[this,Nat.add_assoc,Nat.add_comm 1 i]
omit [aM]in
theorem aO:∀(bs:List af)(k:Nat)(l:List Nat),(au bs k l).length=bs.length
 |[],_,_=>rfl
 |_::r,k,l=>by simp[au,aO r (k+1) l]
omit [aM]in
theorem jz(bs:List af)(L:List Nat)(i:Nat)(box:af)(hi:i∈L)(hb:(au bs 0 L)[i]?=some box):box.fz=true:=by
 have qp:i<bs.length:=by
  have:=(List.getElem?_eq_some_iff.1 hb).1
  rwa[aO]at this
 rw[ck _ _ _ _ _ (List.getElem?_eq_getElem qp)]at hb;have:L.contains (0+i)=true:=by rw[Nat.zero_add];simpa using hi
 rw[this]at hb;cases hb;cases bs[i]<;>rfl
omit [aM]in
theorem af.lO(b:af):b.freeze.fz=true:=by cases b<;>rfl
omit [aM]in
theorem cZ:∀{ds:List D}{i:Nat}{d:D},bT ds=true->ds[i]?=some d->plain d=true
 |[],i,d,_,h=>by simp at h
 |e::r,i,d,hp,h=>by
  simp only[bT]at hp;cases he:plain e with
  |false=>rw[he]at hp;cases hp
  |true=>
   rw[he]at hp;cases i with
   |zero=>simp at h;subst h;exact he
   |succ i=>exact cZ hp (by simpa using h)
omit [aM]in
theorem Rel.fX{I I':aW}{β β':BE}{v:Value}{d:D}(h:Rel I β v d):plain d=true->Rel I' β' v d:=by
 induction h with
 |eL v=>intro _;exact .eL v
 |j7|loc|bH|bM|dT|sl|cJ|j8|cn|iY|gj|gp=>intro hp;cases hp
 |ro=>intro hp;cases hp
 |nk=>intro hp;cases hp
 |dY=>intro hp;cases hp
 |fh=>intro _;exact .fh
 |dI=>intro _;exact .dI
 |tt=>intro _;exact .tt
 |ff=>intro _;exact .ff
 |bool b=>intro _;exact .bool b
 |int k n=>intro _;exact .int k n
 |str s=>intro _;exact .str s
 |agg cs ds hl h1 _ ih=>intro hp;exact .agg cs ds hl h1 λi v d hv hd=>ih i v d hv hd (cZ (by simpa[plain]using hp) hd)
 |b9 cs ds hl _ ih=>intro hp;exact .b9 cs ds hl λi v d hv hd=>ih i v d hv hd (cZ (by simpa[plain]using hp) hd)
 |cO=>intro _;exact .cO
 |dj=>intro hp;cases hp
 |list=>intro hp;cases hp
 |ao a=>intro _;exact .ao a
 |bR fn vs us ds es hl hm _ _ ih G7=>
  intro hp;simp only[plain]at hp;cases hd:bT ds with
  |false=>rw[hd]at hp;cases hp
  |true=>
   rw[hd]at hp;exact .bR fn vs us ds es hl hm (λi v d hv gq=>ih i v d hv gq (cZ hd gq)) λi v d hv gq=>G7 i v d hv gq (cZ hp gq)
 |a7=>intro _;exact .a7
open Classical in
noncomputable def kn(U:St)(β:BE)(I I':aW):aW:=λB off=>
 if∃i b box,β i=some b/\b.R=some B/\U.boxes[i]?=some box/\box.fz=false then I B off else I' B off
theorem bf.UN(ak:cx.Ok)(h:bf cx V U β I S N a w){w':World}(k:dG I w w'){L:List Nat}{I':aW}(hg:Grow w.heap.size (bQ L β w I) I')(ha:bc I' w'):
    bf cx V U β (kn U β I I') S N a w'/\I.le (kn U β I I')/\((∀(i:Nat)(box:af),i∈L->U.boxes[i]?=some box->box.fz=true)->I'.le (kn U β I I')):=by
  have hle:I.le I':=aW.le_trans (dU h.agree L β) hg.1;have hk:=h.xT ak k (ha.of_le hle);have Hq:I.le (kn U β I I'):=λB off v hv=>by
   unfold kn;split
   .exact hv
   exact hle B off v hv
  have lB:bc (kn U β I I') w':=⟨λB off v hv=>by
   unfold kn at hv;split at hv
   .exact hk.agree B off v hv
   .exact ha B off v hv,λB c h1 off v h2=>by
   unfold kn at h1 h2;split at h1
   .rename_i hc
    rw[if_pos hc]at h2;exact h.agree.ex B c h1 off v h2
   rename_i hc;rw[if_neg hc]at h2;exact ha.ex B c h1 off v h2⟩
  refine⟨{hk with tm:=?_,agree:=lB,bx:=?_,clear:=?_,I0:=aW.le_trans h.I0 Hq,fV:=?_,sI:=?_,nt:=?_,gh:=λv d hg=>(h.gh v d hg).mono Hq (BE.le_refl β)},Hq,λph B off u hu=>?_⟩
  .intro t e hV he
   obtain⟨u,hu,Nz⟩:=h.tm t e hV he;exact⟨u,hu,Nz.mono Hq (BE.le_refl β)⟩
  .intro i b hb
   obtain⟨box,h1,h2⟩:=hk.bx i b hb;exact⟨box,h1,h2.mono Hq (BE.le_refl β) λR hR=>rfl⟩
  .intro i b R box hb hR aN hf off
   unfold kn;rw[if_pos ⟨i,b,box,hb,hR,aN,hf⟩];exact h.clear i b R box hb hR aN hf off
  .intro B off hB
   unfold kn;split
   .exact h.fV B off hB
   rw[hg.2 B off (h.n0 B hB)];unfold bQ;rw[if_neg]
   .exact h.fV B off hB
   rintro⟨⟨i,b,_,hb,hR⟩,_⟩;exact(h.own i b B hb hR).1 hB
  .intro B off v hv hB
   unfold kn at hv;split at hv
   .exact h.sI B off v hv hB
   intro hS;have cG:=h.sb B hS;rw[hg.2 B off cG]at hv;unfold bQ at hv;split at hv
   .rename_i hx
    obtain⟨⟨i,b,_,hb,hR⟩,_⟩:=hx;exact(h.own i b B hb hR).2 hS
   exact h.sI B off v hv hB hS
  .rintro B hB⟨c,hc⟩
   have cG:B<w.heap.size:=by
    rcases hB with hS|⟨i,b,hb,hR⟩
    .exact h.sb B hS
    obtain⟨bx,_,h2⟩:=h.bx i b hb;obtain⟨_,_,hh⟩:=h2.lt hR;exact bo hh
   unfold kn at hc;split at hc
   .exact h.nt B hB ⟨c,hc⟩
   rw[hg.2 B _ cG]at hc;exact h.nt B hB (oI ⟨c,hc⟩)
  unfold kn;split
  .rename_i hx
   obtain⟨i,b,box,hb,hR,aN,hf⟩:=hx;obtain⟨_,_,hh⟩:=(let⟨bx,h1,h2⟩:=h.bx i b hb;h2.lt hR);rw[hg.2 B off (bo hh)]at hu;unfold bQ at hu;split at hu
   .rename_i hy
    obtain⟨⟨i',b',bC,eW,dh⟩,_⟩:=hy;obtain rfl:=h.apart i i' b b' B hb eW hR dh;rw[ph i box bC aN]at hf;cases hf
   exact hu
  exact hu
theorem bf.res(ak:cx.Ok)(h:bf cx V U β I S N a w){w':World}(k:dG I w w'){L:List Nat}{I':aW}(hg:Grow w.heap.size (bQ L β w I) I')(ha:bc I' w'){v:Value}{d:D}(hr:Rel I' dM v d)
    (hL:plain d=true\/∀(i:Nat)(box:af),i∈L->U.boxes[i]?=some box->box.fz=true):
    ∃Ds,bf cx V U β Ds S N a w'/\Rel Ds β v d/\I.le Ds:=by
  obtain⟨h1,h2,h3⟩:=h.UN ak k hg ha;refine⟨_,h1,?_,h2⟩;rcases hL with hp|ph
  .exact hr.fX hp
  exact hr.mono (h3 ph) (nA β)
theorem bf.Hr(ak:cx.Ok)(h:bf cx V U β I S N a w){w':World}(k:dG I w w')(ha:bc I w'){bs:List af}{n:Nat}{b:af}{bi:BI}(hn:β n=none)(k6:bs[n]?=some b)
    (hold:∀(i:Nat),(β i).isSome=true->bs[i]?=U.boxes[i]?)(hR:∀R,bi.R=some R->w.heap.size<=R)(cV:bA I β w' bi b):
    bf cx V ⟨U.tmps,bs,U.y⟩ (λi=>if i=n then some bi else β i) I S N a w'/\β.le (λi=>if i=n then some bi else β i):=by
  have hk:=h.xT ak k ha;have hle:β.le (λi=>if i=n then some bi else β i):=by
   intro i b' hb;have:i≠n:=λe=>by subst e;rw[hn]at hb;cases hb
   exact⟨b',by simp[this,hb],.inl rfl⟩
  have bG:∀{i b'},(if i=n then some bi else β i)=some b'->(i=n/\b'=bi)\/(i≠n/\β i=some b'):=by
   intro i b' hb;by_cases hi:i=n
   .rw[if_pos hi]at hb;cases hb;exact .inl ⟨hi,rfl⟩
   rw[if_neg hi]at hb;exact .inr ⟨hi,hb⟩
  refine⟨{hk with tm:=?_,bx:=?_,apart:=?_,own:=?_,clear:=?_,nt:=?_,j:=hk.j,gh:=λv d hg=>(h.gh v d hg).mono I.le_refl hle,qw:=BE.le_trans h.qw hle},hle⟩
  .intro t e hV he
   obtain⟨u,hu,Nz⟩:=h.tm t e hV he;exact⟨u,hu,Nz.mono I.le_refl hle⟩
  .intro i b' hb
   rcases bG hb with⟨rfl,rfl⟩|⟨_,hb⟩
   .exact⟨b,k6,cV.mono I.le_refl hle λR _=>rfl⟩
   obtain⟨box,h1,h2⟩:=hk.bx i b' hb;exact⟨box,(hold i (by simp[hb])).trans h1,h2.mono I.le_refl hle λR _=>rfl⟩
  .intro i j b1 b2 R h1 h2 Bk AL
   rcases bG h1 with⟨e1,Hf⟩|⟨hi,g1⟩<;>rcases bG h2 with⟨e2,JA⟩|⟨hj,g2⟩
   .rw[e1,e2]
   .obtain⟨box,_,jQ⟩:=h.bx _ _ g2
    obtain⟨_,_,hh⟩:=jQ.lt AL;have:=bo hh;have:=hR R (Hf▸Bk);omega
   .obtain⟨box,_,jQ⟩:=h.bx _ _ g1
    obtain⟨_,_,hh⟩:=jQ.lt Bk;have:=bo hh;have:=hR R (JA▸AL);omega
   exact h.apart i j b1 b2 R g1 g2 Bk AL
  .intro i b' R hb qD
   rcases bG hb with⟨rfl,rfl⟩|⟨_,hb⟩
   .have:=hR R qD
    exact⟨λho=>by have:=h.n0 R ho;omega,λhS=>by have:=h.sb R hS;omega⟩
   exact h.own i b' R hb qD
  .intro i b' R box hb qD aN hf off
   rcases bG hb with⟨rfl,rfl⟩|⟨_,hb⟩
   .have cG:=hR R qD
    cases hI:I R off with
    |none=>rfl
    |some v=>have:=cy (h.agree R off v hI);omega
   exact h.clear i b' R box hb qD ((hold i (by simp[hb])).symm.trans aN) hf off
  rintro B(hS|⟨i,b',hb,qD⟩)
  .exact h.nt B (.inl hS)
  rcases bG hb with⟨rfl,rfl⟩|⟨_,hb⟩
  .rintro⟨c,hc⟩
   have:=cy (h.agree B _ _ hc);have:=hR B qD;omega
  exact h.nt B (.inr ⟨i,b',hb,qD⟩)
theorem bf.new(ak:cx.Ok)(h:bf cx V U β I S N a w){w':World}(k:aB (·<w.heap.size) w w'){bs:List af}{n:Nat}{b:af}{bi:BI}(hn:β n=none)(k6:bs[n]?=some b)
    (hold:∀(i:Nat),(β i).isSome=true->bs[i]?=U.boxes[i]?)(hR:∀R,bi.R=some R->w.heap.size<=R)(cV:bA I β w' bi b):
    bf cx V ⟨U.tmps,bs,U.y⟩ (λi=>if i=n then some bi else β i) I S N a w'/\β.le (λi=>if i=n then some bi else β i):=h.Hr ak k.toM (h.agree.aE k) hn k6 hold hR cV
omit [aM]in
theorem bf.newAt(h:bf cx V U β I S N a w){bs:List af}{n:Nat}{b:af}{bi:BI}(hn:β n=none)(k6:bs[n]?=some b)
    (hold:∀(i:Nat),(β i).isSome=true->bs[i]?=U.boxes[i]?)(hR:∀R,bi.R=some R->¬cx.dP R/\¬S R/\(∀j c,β j=some c->c.R≠some R)/\∀off,I R off=none)(cV:bA I β w bi b):
    bf cx V ⟨U.tmps,bs,U.y⟩ (λi=>if i=n then some bi else β i) I S N a w/\β.le (λi=>if i=n then some bi else β i):=by
  have hle:β.le (λi=>if i=n then some bi else β i):=by
   intro i b' hb;have:i≠n:=λe=>by subst e;rw[hn]at hb;cases hb
   exact⟨b',by simp[this,hb],.inl rfl⟩
  have bG:∀{i b'},(if i=n then some bi else β i)=some b'->(i=n/\b'=bi)\/(i≠n/\β i=some b'):=by
   intro i b' hb;by_cases hi:i=n
   .rw[if_pos hi]at hb;cases hb;exact .inl ⟨hi,rfl⟩
   rw[if_neg hi]at hb;exact .inr ⟨hi,hb⟩
  refine⟨{h with tm:=?_,bx:=?_,apart:=?_,own:=?_,clear:=?_,nt:=?_,j:=h.j,gh:=λv d hg=>(h.gh v d hg).mono I.le_refl hle,qw:=BE.le_trans h.qw hle},hle⟩
  .intro t e hV he
   obtain⟨u,hu,Nz⟩:=h.tm t e hV he;exact⟨u,hu,Nz.mono I.le_refl hle⟩
  .intro i b' hb
   rcases bG hb with⟨rfl,rfl⟩|⟨_,hb⟩
   .exact⟨b,k6,cV.mono I.le_refl hle λR _=>rfl⟩
   obtain⟨box,h1,h2⟩:=h.bx i b' hb;exact⟨box,(hold i (by simp[hb])).trans h1,h2.mono I.le_refl hle λR _=>rfl⟩
  .intro i j b1 b2 R h1 h2 Bk AL
   rcases bG h1 with⟨e1,Hf⟩|⟨hi,g1⟩<;>rcases bG h2 with⟨e2,JA⟩|⟨hj,g2⟩
   .rw[e1,e2]
   .exact((hR R (Hf▸Bk)).2.2.1 _ _ g2 AL).elim
   .exact((hR R (JA▸AL)).2.2.1 _ _ g1 Bk).elim
   exact h.apart i j b1 b2 R g1 g2 Bk AL
  .intro i b' R hb qD
   rcases bG hb with⟨rfl,rfl⟩|⟨_,hb⟩
   .exact⟨(hR R qD).1,(hR R qD).2.1⟩
   exact h.own i b' R hb qD
  .intro i b' R box hb qD aN hf off
   rcases bG hb with⟨rfl,rfl⟩|⟨_,hb⟩
   .exact(hR R qD).2.2.2 off
   exact h.clear i b' R box hb qD ((hold i (by simp[hb])).symm.trans aN) hf off
  rintro B(hS|⟨i,b',hb,qD⟩)
  .exact h.nt B (.inl hS)
  rcases bG hb with⟨rfl,rfl⟩|⟨_,hb⟩
  .rintro⟨c,hc⟩
   rw[(hR B qD).2.2.2]at hc;cases hc
  exact h.nt B (.inr ⟨i,b',hb,qD⟩)
theorem bf.eo(ak:cx.Ok)(h:bf cx V U β I S N a w){w':World}(k:dG I w w'){L:List Nat}{I':aW}(hg:Grow w.heap.size (bQ L β w I) I')(ha:bc I' w')
    (hL:∀(i:Nat)(box:af),i∈L->U.boxes[i]?=some box->box.fz=true){bs:List af}{n:Nat}{b:af}{bi:BI}(hn:β n=none)(k6:bs[n]?=some b)
    (hold:∀(i:Nat),(β i).isSome=true->bs[i]?=U.boxes[i]?)(hR:∀R,bi.R=some R->w.heap.size<=R/\∀off,I' R off=none)(cV:bA I' β w' bi b){v:Value}{d:D}
    (aq:Rel I' (λi=>if i=n then some bi else β i) v d):
    ∃Ds,bf cx V ⟨U.tmps,bs,U.y⟩ (λi=>if i=n then some bi else β i) Ds S N a w'/\β.le (λi=>if i=n then some bi else β i)/\Rel Ds (λi=>if i=n then some bi else β i) v d:=by
  obtain⟨h1,_,h3⟩:=h.UN ak k hg ha;have hI:=h3 hL;have Bm:∀R,bi.R=some R->¬cx.dP R/\¬S R/\(∀j c,β j=some c->c.R≠some R)/\∀off,kn U β I I' R off=none:=λR qD=>by
   obtain⟨h6,h7⟩:=hR R qD;refine⟨λho=>by have:=h.n0 R ho;omega,λhS=>by have:=h.sb R hS;omega,λj c hc nH=>?_,λoff=>?_⟩
   .obtain⟨box,_,jQ⟩:=h.bx _ _ hc
    obtain⟨_,_,hh⟩:=jQ.lt nH;have:=bo hh;omega
   unfold kn;split
   .cases hI:I R off with
    |none=>rfl
    |some v=>have:=cy (h.agree R off v hI);omega
   exact h7 off
  obtain⟨h4,h5⟩:=h1.newAt hn k6 hold Bm (cV.mono hI (BE.le_refl β) λR _=>rfl);exact⟨_,h4,h5,aq.mono hI (BE.le_refl _)⟩
theorem bf.set(ak:cx.Ok)(h:bf cx V U β I S N a w){i:Nat}{b b':BI}{box box':af}(hb:β i=some b)(aN:U.boxes[i]?=some box)(hf:box.fz=false)(ZQ:∀fz ks vs,box=.map fz ks vs->kS i U.boxes=true){w':World}
    (k:aB (λB=>B<w.heap.size/\b.R≠some B) w w')(hR:∀R,b'.R=some R->b.R=some R\/w.heap.size<=R)(hle:β.le (λj=>if j=i then some b' else β j))
    (cV:bA I (λj=>if j=i then some b' else β j) w' b' box'):
    bf cx V ⟨U.tmps,U.boxes.set i box',U.y⟩ (λj=>if j=i then some b' else β j) I S N a w':=by
  have bG:∀{j c},(if j=i then some b' else β j)=some c->(j=i/\c=b')\/(j≠i/\β j=some c):=by
   intro j c hc;by_cases hj:j=i
   .rw[if_pos hj]at hc;cases hc;exact .inl ⟨hj,rfl⟩
   rw[if_neg hj]at hc;exact .inr ⟨hj,hc⟩
  have qp:i<U.boxes.length:=(List.getElem?_eq_some_iff.1 aN).1;have lB:bc I w':=⟨λB off v hv=>by
   have h1:=h.agree B off v hv;rw[k.cell ⟨cy h1,λe=>by have:=h.clear i b B box hb e aN hf off;rw[this]at hv;cases hv⟩];exact h1,h.agree.ex⟩
  have me:∀j c R,j≠i->β j=some c->c.R=some R->w'.heap[R]?=w.heap[R]?:=by
   intro j c R hj hc nH;obtain⟨bx,_,h2⟩:=h.bx j c hc;obtain⟨_,_,hh⟩:=h2.lt nH;exact k.block R ⟨bo hh,λe=>hj (h.apart j i c b R hc hb nH e)⟩
  refine{h with tm:=?_,agree:=lB,bx:=?_,apart:=?_,own:=?_,clear:=?_,nt:=?_,fr:=?_,n0:=λB hB=>Nat.lt_of_lt_of_le (h.n0 B hB) k.size,j:=?_,sb:=λB hB=>Nat.lt_of_lt_of_le (h.sb B hB) k.size,gh:=λv d hg=>(h.gh v d hg).mono I.le_refl hle,qw:=BE.le_trans h.qw hle,marks:=?_}
  .intro t e hV he
   obtain⟨u,hu,Nz⟩:=h.tm t e hV he;exact⟨u,hu,Nz.mono I.le_refl hle⟩
  .intro j c hc
   rcases bG hc with⟨rfl,rfl⟩|⟨hj,hc⟩
   .exact⟨box',by simp[qp],cV⟩
   obtain⟨bx,h1,h2⟩:=h.bx j c hc;refine⟨bx,by simp[Ne.symm hj,h1],h2.mono I.le_refl hle λR nH=>?_⟩;rcases nH with nH|nH
   .exact me j c R hj hc nH
   cases bx with
   |aJ fz q ks vs seen=>
    obtain⟨bm,oE,JL⟩:=nH;by_cases hqi:q=i
    .subst hqi
     obtain⟨_,R',bm',Rm,es,clock,_,_,_,_,Ns,_,A7,_,JM,_⟩:=h2;rw[oE]at Ns;cases Ns;rw[hb]at oE;cases oE;rw[JL]at A7;cases A7;obtain⟨D0,h3,h4⟩:=h.bx q b hb;rw[aN]at h3;cases h3;cases box with
     |map xp TS oz=>exact absurd rfl (rS (ZQ _ _ _ rfl) h1)
     |flat=>obtain⟨_,R2,c2,t2,e1,e2,_⟩:=h4;rw[JL]at e1;cases e1;rw[JM]at e2;cases e2
     |rows=>
      obtain⟨_,_,_,_,_,_,h4⟩:=h4;rw[JL]at h4;obtain⟨c2,t2,e2,_⟩:=h4;rw[JM]at e2;cases e2
     |aA _ s0 p0=>
      rcases h4 with⟨_,_,R2,e1,e2⟩|h4
      .rw[JL]at e1;cases e1;rw[JM]at e2;rcases ma s0 p0 with e|⟨c,t,e⟩<;>rw[e]at e2<;>cases e2
      obtain⟨c,t,e2⟩:=h4.cells JL;rw[JM]at e2;cases e2
     |aJ=>obtain⟨_,R2,_,_,_,_,_,_,_,e1,_,_,_,e2,_⟩:=h4;rw[JL]at e1;cases e1;rw[JM]at e2;cases e2
    exact me q bm R hqi oE JL
   |_=>exact nH.elim
  .intro j1 j2 c1 c2 R h1 h2 Bk AL
   have JN:∀j c,j≠i->β j=some c->c.R=some R->b'.R=some R->False:=by
    intro j c hj hc nH JL;rcases hR R JL with e|e
    .exact hj (h.apart j i c b R hc hb nH e)
    obtain⟨bx,_,h2⟩:=h.bx j c hc;obtain⟨_,_,hh⟩:=h2.lt nH;have:=bo hh;omega
   rcases bG h1 with⟨e1,Hf⟩|⟨hi,g1⟩<;>rcases bG h2 with⟨e2,JA⟩|⟨hj,g2⟩
   .rw[e1,e2]
   .exact(JN _ _ hj g2 AL (Hf▸Bk)).elim
   .exact(JN _ _ hi g1 Bk (JA▸AL)).elim
   exact h.apart j1 j2 c1 c2 R g1 g2 Bk AL
  .intro j c R hc nH
   rcases bG hc with⟨rfl,rfl⟩|⟨_,hc⟩
   .rcases hR R nH with e|e
    .exact h.own j b R hb e
    exact⟨λho=>by have:=h.n0 R ho;omega,λhS=>by have:=h.sb R hS;omega⟩
   exact h.own j c R hc nH
  .intro j c R bx hc nH fp ph off
   rcases bG hc with⟨rfl,rfl⟩|⟨hj,hc⟩
   .rcases hR R nH with e|e
    .exact h.clear j b R box hb e aN hf off
    cases hI:I R off with
    |none=>rfl
    |some v=>have:=cy (h.agree R off v hI);omega
   have dD:U.boxes[j]?=some bx:=by
     have:=fp;simp only[List.getElem?_set,if_neg (Ne.symm hj)]at this;exact this
   exact h.clear j c R bx hc nH dD ph off
  .refine ak.fr _ _ h.fr (k.mono λB hB=>⟨h.n0 B hB.1,λe=>?_⟩)
   exact(h.own i b B hb e).1 hB.1
  .refine ak.j _ _ _ _ h.j (k.mono λB hB=>⟨h.sb B hB,λe=>(h.own i b B hb e).2 hB⟩)
  .rintro B(hS|⟨j,c,hc,nH⟩)
   .exact h.nt B (.inl hS)
   rcases bG hc with⟨rfl,rfl⟩|⟨hj,hc⟩
   .rcases hR B nH with e|e
    .exact h.nt B (.inr ⟨j,b,hb,e⟩)
    rintro⟨q,hq⟩;have:=cy (h.agree B _ _ hq);omega
   exact h.nt B (.inr ⟨j,c,hc,nH⟩)
  intro d hd hD;obtain⟨M,h1,h2,h3⟩:=h.marks d hd hD;refine⟨M,h1,(k.block M ⟨bo h2,λe=>?_⟩).trans h2,h3⟩;obtain⟨bx,_,jQ⟩:=h.bx i b hb;obtain⟨_,eX,hh⟩:=jQ.lt e;rw[h2]at hh;cases hh;exact Bool.noConfusion eX
end
end Go.V
namespace Go.V
open Go.RowKit
section
variable{P:Program}[aM]{T:Nat->Option TI}{cx:Cx}{V:Nat->Prop}{U:St}{β:BE}{I:aW}{S:Nat->Prop}{N:Nat}{a:Act}{w:World}
omit [aM]in
theorem aB.setRow(w:World)(R:Nat)(cs:Array Value):aB (λB=>B<w.heap.size/\some R≠some B) w (w.setRow R cs):=
 ⟨rfl,rfl,rfl,by simp[World.setRow],λk hk=>setRow_other w R k cs (λe=>hk.2 (by rw[e]))⟩
omit [aM]in
theorem qE{t:TypeId}{ti:TI}(h:aj P t ti){v:Value}(hl:v.cells.size=ti.size){R off:Nat}{cur:Array Value}{t':TypeId}(hg:w.heap[R]?=some (.cells cur t' (0,0)))
    (ud:off+v.cells.size<=cur.size)(h1:∀u∈v.cells.toList,u.oneCell'=true):
    (Instr.storeAt t (.pointer (some ⟨R,off,none⟩)) v).run P w=.ok () (w.setRow R (bt cur.toList off v.cells.toList).toArray):=by
  have cH:=run_storeCells_at P R off t' v.cells.toList 0 cur w hg (by simpa using ud) h1;have eh:¬v.cells.size≠ti.size:=by omega
  simp only[Nat.add_zero]at cH;have e:(List.take off cur.toList++v.cells.toList++List.drop (off+v.cells.toList.length) cur.toList)=bt cur.toList off v.cells.toList:=by
   simp[bt]
  rw[e]at cH;unfold Instr.storeAt;simp only[Instr.sureAddr,Sem.run_bind,Sem.run_pure,Result.andThen_ok,storeVar,h.run_sizeOf,Sem.run_ite,if_neg eh];exact cH
omit [aM]in
theorem k8{β:BE}{i:Nat}{b:BI}(hb:β i=some b):β.le (λj=>if j=i then some b else β j):=by
 intro j c hc;by_cases hj:j=i
 .subst hj;rw[hb]at hc;cases hc;exact⟨b,by simp,.inl rfl⟩
 exact⟨c,by simp[hj,hc],.inl rfl⟩
omit [aM]in
theorem dA{β:BE}{i:Nat}{b:BI}(hb:β i=some b):(λj=>if j=i then some b else β j)=β:=by
 funext j;by_cases hj:j=i
 .subst hj;simp[hb]
 simp[hj]
omit [aM]in
theorem za{cs us:List Value}{off n:Nat}(h:off+us.length<=n)(hn:n<=cs.length):(bt cs off us).take n=bt (cs.take n) off us:=by
 apply List.ext_getElem?;intro m;rw[fW _ _ _ _ (by simp;omega),List.getElem?_take,fW _ _ _ _ (by omega),List.getElem?_take];split<;>split<;>first|rfl|(rw[List.getElem?_eq_none (by omega)])
omit [aM]in
theorem zb{cs us:List Value}{o off:Nat}(h:o+off+us.length<=cs.length):(bt cs (o+off) us).drop o=bt (cs.drop o) off us:=by
 apply List.ext_getElem?;intro m;rw[List.getElem?_drop,fW _ _ _ _ h,fW _ _ _ _ (by simp;omega),List.getElem?_drop];have e:(o+off<=o+m/\o+m<o+off+us.length)↔(off<=m/\m<off+us.length):=by omega
 by_cases hc:off<=m/\m<off+us.length
 .rw[if_pos hc,if_pos (e.2 hc)];congr 1;omega
 rw[if_neg hc,if_neg λhh=>hc (e.1 hh)]
theorem nI(ak:cx.Ok)(hs:bf cx V U β I S N a w){t:TypeId}{ti:TI}(h:aj P t ti){pv xv:Value}{p x:D}(hp:Rel I β pv p)(hx:Rel I β xv x){k:bE->Prop}
    (hk:nu ti U.boxes p x k):∃w' i b,(Instr.storeAt t pv xv).run P w=.ok () w'/\k (.set i b .eL)/\bf cx V ⟨U.tmps,U.boxes.set i b,U.y⟩ β I S N a w':=by
  unfold nu at hk;cases hc:cellsOf x with
  |none=>rw[hc]at hk;exact hk.elim
  |some ds=>
   rw[hc]at hk;obtain⟨hl,hk⟩:=ae hk;have hl:=Nat.eq_of_beq_eq_true hl;have UO:=hx.cells hc;have vn:xv.cells.size=ds.length:=by have:=UO.1.1;simpa using this
   have flat:∀(i off:Nat)(b:BI)(R:Nat)(cells:List D),β i=some b->b.R=some R->U.boxes[i]?=some (.flat false cells)->off+ds.length<=cells.length->
       ∃w',(Instr.storeAt t (.pointer (some ⟨R,b.o+off,none⟩)) xv).run P w=.ok () w'/\bf cx V ⟨U.tmps,U.boxes.set i (.flat false (cd cells off ds)),U.y⟩ β I S N a w':=by
     intro i off b R cells hb hR aN hle;obtain⟨box,k9,cV⟩:=hs.bx i b hb;rw[aN]at k9;cases k9;obtain⟨dN,R',c,t',dh,hh,hr⟩:=cV;rw[hR]at dh;cases dh;have lL:min cells.length (c.size-b.o)=cells.length:=by have:=hr.1.1;simpa using this
     rcases Nat.eq_zero_or_pos ds.length with h0|h0
     .have UE:=List.eq_nil_of_length_eq_zero h0
      refine⟨w,?_,?_⟩
      .have hv:xv.cells.toList=[]:=List.eq_nil_of_length_eq_zero (by rw[Array.length_toList];omega)
       have eh:¬xv.cells.size≠ti.size:=by omega
       unfold Instr.storeAt;simp only[Instr.sureAddr,Sem.run_bind,Sem.run_pure,Result.andThen_ok,storeVar,h.run_sizeOf,Sem.run_ite,if_neg eh,hv];rfl
      have e1:cd cells off ds=cells:=by rw[UE];simp[cd]
      have e2:U.boxes.set i (.flat false cells)=U.boxes:=by
       apply List.ext_getElem?;intro j;rw[List.getElem?_set];split
       .rename_i e;subst e
        have:=(List.getElem?_eq_some_iff.1 aN).1;rw[if_pos this,aN]
       rfl
      rw[e1,e2];exact hs
     refine⟨_,qE h (by omega) hh (by omega) UO.2,?_⟩;have:=hs.set ak hb aN rfl (λ_ _ _ e=>by cases e) (w':=w.setRow R (bt c.toList (b.o+off) xv.cells.toList).toArray) (b':=b) (box':=.flat false (cd cells off ds)) (by rw[hR];exact aB.setRow w R _) (λR hR=>.inl hR) (k8 hb)
      ⟨dN,R,_,t',hR,setRow_heap w R c _ t' _ hh,by
       rw[dA hb];have h3:=hr.cd UO off;have UP:xv.cells.toList.length=ds.length:=by simpa using vn
       rw[<-za (cs:=c.toList.drop b.o) (us:=xv.cells.toList) (off:=off) (n:=cells.length) (by omega) (by simp;omega),<-zb (by simp;omega)]at h3;rw[vf _ _ _ hle];simpa using h3⟩
     rw[dA hb]at this;exact this
   cases p with
   |loc i off=>
    cases aN:U.boxes[i]? with
    |none=>simp only[aN]at hk
    |some box=>
     simp only[aN]at hk;cases box with
     |rows=>exact hk.elim
     |map=>exact hk.elim
     |aA=>exact hk.elim
     |aJ=>exact hk.elim
     |flat fz cells=>
      cases fz with
      |true=>exact hk.elim
      |false=>
       simp only at hk;cases hf:fits cells off ds.length with
       |false=>rw[hf]at hk;exact hk.elim
       |true=>
        rw[hf]at hk;cases hp with
        |loc _ _ b R hb _ hR=>
         obtain⟨w',h1,h2⟩:=flat i off b R cells hb hR aN (Nat.le_of_ble_eq_true hf);exact⟨w',i,_,h1,hk,h2⟩
   |bH i off=>
    cases aN:U.boxes[i]? with
    |none=>simp only[aN]at hk
    |some box=>
     simp only[aN]at hk;cases box with
     |rows=>exact hk.elim
     |map=>exact hk.elim
     |aA=>exact hk.elim
     |aJ=>exact hk.elim
     |flat fz cells=>
      cases fz with
      |true=>exact hk.elim
      |false=>
       obtain⟨hle,cs,rfl,hk⟩:=hk;cases hp with
       |bH _ _ b R hb _ hR=>
        obtain⟨w',h1,h2⟩:=flat i off b R cells hb hR aN hle;exact⟨w',i,_,h1,hk,h2⟩
   |bM i g r off=>
    cases aN:U.boxes[i]? with
    |none=>simp only[aN]at hk
    |some box=>
     simp only[aN]at hk;cases box with
     |flat=>exact hk.elim
     |map=>exact hk.elim
     |aA=>exact hk.elim
     |aJ=>exact hk.elim
     |rows fz g' sz rs=>
      cases fz with
      |true=>exact hk.elim
      |false=>
       simp only at hk;obtain⟨QH,row,aI,hle,O6,rfl,hk⟩:=ae hk;cases mI:Nat.beq g g' with
       |false=>rw[mI]at QH;cases QH
       |true=>
        rw[mI]at QH;have mI:=Nat.eq_of_beq_eq_true mI;cases hp with
        |dT _ _ _ _ _ b hb _ hg=>
         obtain⟨box',k9,cV⟩:=hs.bx i b hb;rw[aN]at k9;cases k9;obtain⟨_,h2,_⟩:=cV;omega
        |bM _ _ _ _ b R hb _ hR hg=>
         obtain⟨box',k9,cV⟩:=hs.bx i b hb;rw[aN]at k9;cases k9;obtain⟨dN,eu,dQ,hn,cb,ia,hm⟩:=cV;rw[hR]at hm;obtain⟨c,t',hh,fS,hd⟩:=hm;have gi:=cb r row aI;have abN:r<rs.length:=(List.getElem?_eq_some_iff.1 aI).1;have ud:b.o+(r*sz+off)+xv.cells.size<=c.size:=by
          rw[fS,vn];have:(r+1)*sz<=b.cap*sz:=Nat.mul_le_mul_right _ (by omega);rw[Nat.add_mul,Nat.one_mul]at this;omega
         rw[dQ];refine⟨_,i,_,qE h (by omega) hh ud UO.2,hk,?_⟩;have:=hs.set ak hb aN rfl (λ_ _ _ e=>by cases e) (w':=w.setRow R (bt c.toList (b.o+(r*sz+off)) xv.cells.toList).toArray) (b':=b) (box':=.rows false g' sz (rs.set r (cd row off ds))) (by rw[hR];exact aB.setRow w R _) (λR hR=>.inl hR) (k8 hb) (by
          rw[dA hb];refine⟨dN,eu,dQ,by simp[hn],?_,by simp[ia],?_⟩
          .intro r' ib e8
           rw[List.getElem?_set]at e8;split at e8
           .rename_i e
            simp only[Option.some.injEq]at e8;subst e8;rw[vf _ _ _ (by omega)];exact gi
           exact cb r' ib e8
          rw[hR];refine⟨_,t',setRow_heap w R c _ t' _ hh,?_,?_⟩
          .simp only[List.size_toArray,bt,List.length_append,List.length_take,List.length_drop,Array.length_toList]
           omega
          intro r' ib j d e8 hj;have UP:xv.cells.toList.length=ds.length:=by simpa using vn
          have cM:∀m,(bt c.toList (b.o+(r*sz+off)) xv.cells.toList).toArray[m]?=if b.o+(r*sz+off)<=m/\m<b.o+(r*sz+off)+ds.length then xv.cells.toList[m-(b.o+(r*sz+off))]? else c[m]?:=by
           intro m;have:=fW c.toList xv.cells.toList (b.o+(r*sz+off)) m (by simp;omega);rw[UP]at this;simpa using this
          rw[cM];rw[List.getElem?_set]at e8;split at e8
          .rename_i e
           subst e;simp only[Option.some.injEq]at e8;subst e8;unfold cd at hj;have mf:(row.take off).length=off:=by simp;omega
           by_cases h1:j<off
           .rw[List.getElem?_append_left (by omega),List.getElem?_take,if_pos h1]at hj
            rw[if_neg (by omega)];exact hd r row j d aI hj
           rw[List.getElem?_append_right (by omega),mf]at hj;by_cases h2:j<off+ds.length
           .rw[List.getElem?_append_left (by omega)]at hj
            rw[if_pos ⟨by omega,by omega⟩];obtain⟨v,xn,xc,hv3⟩:=UO.get hj;exact⟨v,by rw[<-xn];congr 1;omega,xc.gr (gW QH hj),hv3⟩
           rw[List.getElem?_append_right (by omega),List.getElem?_drop]at hj;rw[if_neg (by omega)];exact hd r row j d aI (by rw[<-hj];congr 1;omega)
          rename_i e;have ng:j<sz:=by rw[<-cb r' ib e8];exact(List.getElem?_eq_some_iff.1 hj).1
          have eh:¬(b.o+(r*sz+off)<=b.o+(r'*sz+j)/\b.o+(r'*sz+j)<b.o+(r*sz+off)+ds.length):=by
           rcases Nat.lt_or_gt_of_ne e with cG|cG
           .have:(r+1)*sz<=r'*sz:=Nat.mul_le_mul_right _ cG
            rw[Nat.add_mul,Nat.one_mul]at this;omega
           have:(r'+1)*sz<=r*sz:=Nat.mul_le_mul_right _ cG;rw[Nat.add_mul,Nat.one_mul]at this;omega
          rw[if_neg eh];exact hd r' ib j d e8 hj)
         rw[dA hb]at this;exact this
   |_=>exact hk.elim
omit [aM]in
theorem D1{ti:TI}{bs:List af}{p x:D}{k:bE->Prop}(h:nu ti bs p x k):∃i b,k (.set i b .eL):=by
 unfold nu at h;split at h
 .exact h.elim
 have h:=(ae h).2;split at h
 .split at h
  .split at h
   .exact⟨_,_,h⟩
   exact h.elim
  exact h.elim
 .split at h
  .obtain⟨_,cs,_,h⟩:=h
   exact⟨_,_,h⟩
  exact h.elim
 .split at h
  .obtain⟨_,row,_,_,O6,_,h⟩:=ae h
   exact⟨_,_,h⟩
  exact h.elim
 exact h.elim
omit [aM]in
theorem pj{rs:List (List D)}{off len:Nat}{z:List D}(h:off+len<=rs.length):(gn rs off len z).length=rs.length:=by
 simp only[gn,List.length_append,List.length_take,List.length_replicate,List.length_drop];omega
omit [aM]in
theorem pk{rs:List (List D)}{off len:Nat}{z:List D}(h:off+len<=rs.length)(r:Nat):(gn rs off len z)[r]?=if off<=r/\r<off+len then some z else rs[r]?:=by
 have ho:(rs.take off).length=off:=by simp;omega
 unfold gn;by_cases h1:r<off
 .rw[List.getElem?_append_left (by omega),if_neg (by omega),List.getElem?_take,if_pos h1]
 rw[List.getElem?_append_right (by omega),ho];by_cases h2:r<off+len
 .rw[if_pos ⟨by omega,h2⟩,List.getElem?_append_left (by simp;omega),List.getElem?_replicate,if_pos (by omega)]
 rw[if_neg (by omega),List.getElem?_append_right (by simp;omega),List.getElem?_drop];congr 1;simp;omega
theorem Bn(ak:cx.Ok)(hs:bf cx V U β I S N a w){t e:TypeId}{ti te:TI}(h:aj P t ti)(hd:ti.desc=.slice e)(eU:aj P e te){v:Value}{x:D}(hx:Rel I β v x){k:bE->Prop}
    (hk:uT U.boxes te x k){vo:Array TypeId}(h0:vo[0]?=some t)(ty:TypeId):
    ∃w' pn,(Builtin.clear_ vo ty #[v]).run P w=.ok (.tuple #[]) w'/\k pn/\((pn=.val (.b9 [])/\w'=w)\/∃i b,pn=.set i b (.b9 [])/\bf cx V ⟨U.tmps,U.boxes.set i b,U.y⟩ β I S N a w'):=by
  have JO:∀A c,(Builtin.clear_ vo ty #[.slice A 0 c]).run P w=.ok (.tuple #[]) w:=λA c=>by
   unfold Builtin.clear_;simp only[h0];cases A<;>simp[run_underlying h.desc,hd]
  unfold uT at hk;cases x with
  |ao=>
   cases hx with
   |ao A=>exact⟨w,_,JO _ _,hk,.inl ⟨rfl,rfl⟩⟩
  |sl i g off len=>
   cases DS:Nat.beq len 0 with
   |true=>
    obtain rfl:=Nat.eq_of_beq_eq_true DS;have hk:=hk.1 rfl;cases hx with
    |sl A c=>exact⟨w,_,JO _ _,hk,.inl ⟨rfl,rfl⟩⟩
    |cJ A c=>exact⟨w,_,JO _ _,hk,.inl ⟨rfl,rfl⟩⟩
   |false=>
    have hlen:len≠0:=λe=>by subst e;cases DS
    replace hk:=hk.2 hlen;cases aN:U.boxes[i]? with
    |none=>rw[aN]at hk;exact hk.elim
    |some box=>
     rw[aN]at hk;cases box with
     |rows fz g' sz rs=>
      cases fz with
      |true=>exact hk.elim
      |false=>
       simp only at hk;obtain⟨ua,O6,rfl,hk⟩:=ae hk;cases mI:Nat.beq g g' with
       |false=>rw[mI]at ua;cases ua
       |true=>
       cases MY:Nat.beq sz te.size with
       |false=>rw[mI,MY]at ua;cases ua
       |true=>
        rw[mI,MY]at ua;have mI:=Nat.eq_of_beq_eq_true mI;have MY:=Nat.eq_of_beq_eq_true MY;cases hx with
        |cJ A c _ _ _ _ b hb hf hg=>
         obtain⟨box',k9,cV⟩:=hs.bx i b hb;rw[aN]at k9;cases k9;obtain⟨_,h2,_⟩:=cV;omega
        |sl A c _ _ _ _ b hb hf hg UL hl Pr hA=>
         obtain⟨box',k9,cV⟩:=hs.bx i b hb;rw[aN]at k9;cases k9;obtain⟨dN,eu,dQ,hn,cb,ia,hm⟩:=cV;obtain⟨R,hR,rfl⟩:=hA (by omega);rw[hR]at hm;obtain⟨c',t',hh,fS,ca⟩:=hm;rw[dQ];have MZ:off+len<=rs.length:=by omega
         obtain⟨z,hz,Hl⟩:=eU.nD (P:=P) w I β;have UK:z.cells.size=te.size:=by have:=Hl.1.1;have h3:=eU.u7;simp at this;omega
         obtain⟨cs,UQ⟩:∃cs,cs=Builtin.zeroCells z.cells len:=⟨_,rfl⟩;have NA:eE I te.size cs.toList (List.replicate len te.zero):=by
          have:=rV Hl eU.u7 ua len;rw[UQ];unfold Builtin.zeroCells;rw[show len*z.cells.size=len*te.size by rw[UK]];exact this
         have lL:cs.toList.length=len*sz:=by rw[NA.len,List.length_replicate,MY]
         have h1:∀u∈cs.toList,u.oneCell'=true:=λu hu=>by
          obtain⟨m,hm,rfl⟩:=List.getElem_of_mem hu;have dw:0<te.size:=by
           rcases Nat.eq_zero_or_pos te.size with h|h
           .rw[lL,MY,h]at hm;omega
           exact h
          have hr:m/te.size<len:=by rw[Nat.div_lt_iff_lt_mul dw,<-MY,<-lL];exact hm
          have hj:m %te.size<te.zero.length:=by rw[eU.u7];exact Nat.mod_lt _ dw
          obtain⟨u,h2,_,h3⟩:=NA.cell (m/te.size) te.zero (m %te.size) _ (by rw[List.getElem?_replicate,if_pos hr]) (List.getElem?_eq_getElem hj);rw[Nat.div_add_mod' m te.size,List.getElem?_eq_getElem hm]at h2;cases h2;exact h3
         have ud:b.o+off*sz+len*sz<=c'.size:=by
          rw[fS,Nat.add_assoc,<-Nat.add_mul];exact Nat.add_le_add_left (Nat.mul_le_mul_right _ (by omega)) _
         have cH:=run_storeCells_at P R (b.o+off*sz) t' cs.toList 0 c' w hh (by rw[lL];simpa using ud) h1;simp only[Nat.add_zero]at cH;have e1:(List.take (b.o+off*sz) c'.toList++cs.toList++List.drop (b.o+off*sz+cs.toList.length) c'.toList)=bt c'.toList (b.o+off*sz) cs.toList:=by
          simp[bt]
         rw[e1]at cH;refine⟨w.setRow R (bt c'.toList (b.o+off*sz) cs.toList).toArray,_,?_,hk,.inr ⟨i,_,rfl,?_⟩⟩
         .obtain⟨m,rfl⟩:∃m,len=m+1:=⟨len-1,by omega⟩
          unfold Builtin.clear_;simp only[h0,List.getElem?_toArray,List.getElem?_cons_zero,Sem.run_bind,run_underlying h.desc,hd,Result.andThen_ok,hz,<-UQ,cH,Sem.run_pure]
         have cM:∀m,(bt c'.toList (b.o+off*sz) cs.toList).toArray[m]?=if b.o+off*sz<=m/\m<b.o+off*sz+len*sz then cs.toList[m-(b.o+off*sz)]? else c'[m]?:=by
           intro m;have:=fW c'.toList cs.toList (b.o+off*sz) m (by rw[lL];simpa using ud);rw[lL]at this;simpa using this
         have:=hs.set ak hb aN rfl (λ_ _ _ e=>by cases e) (w':=w.setRow R (bt c'.toList (b.o+off*sz) cs.toList).toArray) (b':=b) (box':=.rows false g' sz (gn rs off len te.zero)) (by rw[hR];exact aB.setRow w R _) (λR' h=>.inl h) (k8 hb) (by
          rw[dA hb];refine⟨dN,eu,dQ,by rw[pj MZ];exact hn,?_,by rw[pj MZ];exact ia,?_⟩
          .intro r' ib e8
           rw[pk MZ]at e8;split at e8
           .cases e8;rw[eU.u7,MY]
           exact cb r' ib e8
          rw[hR];refine⟨_,t',setRow_heap w R c' _ t' _ hh,?_,?_⟩
          .simp only[List.size_toArray,bt,List.length_append,List.length_take,List.length_drop,Array.length_toList,<-fS]
           have:cs.size=len*sz:=by simpa using lL
           omega
          intro r' ib j d e8 hj;rw[cM];rw[pk MZ]at e8;split at e8
          .rename_i dv
           cases e8;have ng:j<sz:=by rw[MY,<-eU.u7];exact(List.getElem?_eq_some_iff.1 hj).1
           obtain⟨u,h2,h3,h4⟩:=NA.cell (r'-off) te.zero j d (by rw[List.getElem?_replicate,if_pos (by omega)]) hj;have e2:(r'-off)*sz=r'*sz-off*sz:=Nat.sub_mul _ _ _;have e3:off*sz<=r'*sz:=Nat.mul_le_mul_right _ dv.1;have e4:(r'-off+1)*sz<=len*sz:=Nat.mul_le_mul_right _ (by omega);rw[Nat.add_mul,Nat.one_mul]at e4;rw[if_pos ⟨by omega,by omega⟩];exact⟨u,by rw[<-h2,<-MY];congr 1;omega,h3,h4⟩
          rename_i bp;have ng:j<sz:=by rw[<-cb r' ib e8];exact(List.getElem?_eq_some_iff.1 hj).1
          have eh:¬(b.o+off*sz<=b.o+(r'*sz+j)/\b.o+(r'*sz+j)<b.o+off*sz+len*sz):=by
           rcases Nat.lt_or_ge r' off with cG|Dt
           .have:(r'+1)*sz<=off*sz:=Nat.mul_le_mul_right _ cG
            rw[Nat.add_mul,Nat.one_mul]at this;omega
           have:(off+len)*sz<=r'*sz:=Nat.mul_le_mul_right _ (by omega);rw[Nat.add_mul]at this;omega
          rw[if_neg eh];exact ca r' ib j d e8 hj)
         rw[dA hb]at this;exact this
     |_=>exact hk.elim
  |_=>exact hk.elim
end
end Go.V
namespace Go.V
open Go.RowKit
section
variable{P:Program}[aM]{T:Nat->Option TI}{cx:Cx}{V:Nat->Prop}{U:St}{β:BE}{I:aW}{S:Nat->Prop}{N:Nat}{a:Act}{w:World}
omit [aM]in
theorem nJ{size:Nat}{rows:List (List D)}{f:Nat->Value}(aI:∀(r:Nat)(row:List D),rows[r]?=some row->row.length=size)
    (h:∀(r:Nat)(row:List D)(j:Nat)(d:D),rows[r]?=some row->row[j]?=some d->Rel I dM (f (r*size+j)) d/\(f (r*size+j)).oneCell'=true):
    eE I size ((List.range (rows.length*size)).map f) rows:=by
  refine⟨by simp,aI,λr row j d hr hj=>?_⟩;have gi:r<rows.length:=(List.getElem?_eq_some_iff.1 hr).1;have ng:j<size:=by rw[<-aI r row hr];exact(List.getElem?_eq_some_iff.1 hj).1
  have dv:r*size+j<rows.length*size:=by
   calc r*size+j<r*size+size:=by omega
    _=(r+1)*size:=by rw[Nat.add_mul,Nat.one_mul]
    _<=rows.length*size:=Nat.mul_le_mul_right _ gi
  obtain⟨h1,h2⟩:=h r row j d hr hj;exact⟨_,by simp[dv],h1,h2⟩
omit [aM]in
theorem Hs(hs:bf cx V U β I S N a w){v:Value}{d:D}(hv:Rel I β v d){sz:Nat}{rows:List (List D)}(hr:rowsOf U.boxes d=some (sz,rows)){size:Nat}(dw:0<size)(dQ:rows=[]\/sz=size)(Po:∀s,d≠.str s):
    ∃A c2 f,v=.slice A rows.length c2/\(0<rows.length->∃B o,A=some ⟨B,o,none⟩/\∀n,n<rows.length*size->w.cell? ⟨B,o+n,none⟩=some (f n))/\eE I size ((List.range (rows.length*size)).map f) rows:=by
  have empty:∀A c2,v=.slice A 0 c2->rows=[]->∃A c2 f,v=.slice A rows.length c2/\(0<rows.length->∃B o,A=some ⟨B,o,none⟩/\∀n,n<rows.length*size->w.cell? ⟨B,o+n,none⟩=some (f n))/\eE I size ((List.range (rows.length*size)).map f) rows:=by
   intro A c2 hv hr;subst hr;exact⟨A,c2,λ_=>undef,hv,λh=>absurd h (by simp),⟨by simp,λr row h=>by simp at h,λr row j d h=>by simp at h⟩⟩
  unfold rowsOf at hr;cases d with
  |str s=>exact(Po s rfl).elim
  |list Ng sX=>
   cases hr;cases hv with
   |dj A cap _=>exact empty A cap rfl rfl
   |list B off cap _ _ u ia aI hI h1 hu=>
    rcases dQ with rfl|rfl
    .exact empty _ _ rfl rfl
    refine⟨some ⟨B,off,none⟩,cap,λn=>u (n/sz) (n %sz),rfl,λhl=>⟨B,off,rfl,λn hn=>?_⟩,?_⟩
    .have MW:n/sz<rows.length:=Nat.div_lt_of_lt_mul (by rw[Nat.mul_comm];exact hn)
     have YA:n %sz<sz:=Nat.mod_lt _ dw;have:=jX (hs.agree _ _ _ (hI (n/sz) (n %sz) MW YA)) (h1 (n/sz) (n %sz) MW YA);have e:n/sz*sz+n %sz=n:=by rw[Nat.mul_comm];exact Nat.div_add_mod n sz
     rw[e]at this;exact this
    refine nJ aI λr row j d hr hj=>?_;have ng:j<sz:=by rw[<-aI r row hr];exact(List.getElem?_eq_some_iff.1 hj).1
    have e1:(r*sz+j)/sz=r:=by rw[Nat.mul_comm,Nat.mul_add_div dw,Nat.div_eq_of_lt ng,Nat.add_zero]
    have e2:(r*sz+j)%sz=j:=by rw[Nat.mul_comm,Nat.mul_add_mod,Nat.mod_eq_of_lt ng]
    simp only[e1,e2];exact⟨hu r row j d hr hj,h1 r j (List.getElem?_eq_some_iff.1 hr).1 ng⟩
  |ao=>
   cases hr;cases hv with|ao A=>?_
   exact empty A 0 rfl rfl
  |sl i g off len=>
   simp only at hr;cases hb:U.boxes[i]? with
   |none=>rw[hb]at hr;cases hr
   |some box=>
    rw[hb]at hr;cases box with
    |flat=>cases hr
    |map=>cases hr
    |aA=>cases hr
    |aJ=>cases hr
    |rows fz g' Ng rs=>
     simp only at hr;cases mI:Nat.beq g g' with
     |false=>rw[mI]at hr;cases hr
     |true=>
      rw[mI]at hr;cases hr;have mI:=Nat.eq_of_beq_eq_true mI;cases hv with
      |cJ _ _ _ _ _ _ b hβ _ hg=>
       obtain⟨box',dD,cV⟩:=hs.bx i b hβ;rw[hb]at dD;cases dD;obtain⟨_,h2,_⟩:=cV;omega
      |sl A c _ _ _ _ b hβ _ hg hc hl hn ha=>
       obtain⟨box',dD,cV⟩:=hs.bx i b hβ;rw[hb]at dD;cases dD;obtain⟨_,_,JP,Yx,aI,ia,hm⟩:=cV;have hlen:((rs.drop off).take len).length=len:=by simp;omega
       rcases dQ with he|rfl
       .have h0:len=0:=by rw[<-hlen,he];rfl
        subst h0;exact empty A c rfl he
       rcases Nat.eq_zero_or_pos len with h0|h0
       .subst h0
        exact empty A c rfl rfl
       obtain⟨R,hR,rfl⟩:=ha (by omega);rw[hR]at hm;obtain⟨cc,t,hh,fS,hd⟩:=hm;have cM:∀(r:Nat)(row:List D),((rs.drop off).take len)[r]?=some row->rs[off+r]?=some row:=by
        intro r row hr;rw[List.getElem?_take]at hr;split at hr
        .simpa using hr
        cases hr
       rw[hlen];refine⟨some ⟨R,b.o+off*b.sz,none⟩,c,λn=>cc.getD (b.o+off*sz+n) undef,rfl,λ_=>⟨R,b.o+off*b.sz,rfl,λn xe=>?_⟩,?_⟩
       .rw[bO hh,JP]
        have:b.o+off*sz+n<cc.size:=by
         rw[fS];have:(off+len)*sz<=b.cap*sz:=Nat.mul_le_mul_right _ (by omega);rw[Nat.add_mul]at this;omega
        simp[Array.getD_eq_getD_getElem?,Array.getElem?_eq_getElem this]
       have:=nJ (I:=I) (size:=sz) (rows:=(rs.drop off).take len) (f:=λn=>cc.getD (b.o+off*sz+n) undef) (λr row hr=>aI _ _ (cM r row hr)) (λr row j d hr hj=>by
         obtain⟨v,h3,h4,h5⟩:=hd (off+r) row j d (cM r row hr) hj;have e:b.o+off*sz+(r*sz+j)=b.o+((off+r)*sz+j):=by rw[Nat.add_mul];omega
         simp only[e,Array.getD_eq_getD_getElem?,h3,Option.getD_some];exact⟨h4,h5⟩)
       rw[hlen]at this;exact this
  |_=>cases hr
omit [aM]in
theorem ko{A:Option Addr}{m c2 size:Nat}{f:Nat->Value}(h:0<m->∃B o,A=some ⟨B,o,none⟩/\∀n,n<m*size->w.cell? ⟨B,o+n,none⟩=some (f n)){w':World}(k:aB (·<w.heap.size) w w'):
    (Builtin.firstCells size m (.slice A m c2)).run P w'=.ok ((List.range (m*size)).map f).toArray w':=by
  rcases Nat.eq_zero_or_pos m with rfl|hm
  .cases A with
   |none=>simp[Builtin.firstCells]
   |some A=>simp[Builtin.firstCells,loadCells,loadCellsFrom]
  obtain⟨B,o,rfl,hc⟩:=h hm;have:(loadCells ⟨B,o,none⟩ (m*size)).run P w'=.ok ((List.range (m*size)).map f).toArray w':=run_loadCells w' ⟨B,o,none⟩ (m*size) f (λj hj=>by
   have:=hc j hj;rw[cU,k.Pe (va this)];exact this)
  simpa[Builtin.firstCells]using this
omit [aM]in
theorem vp(hs:bf cx V U β I S N a w){v:Value}{d:D}(hv:Rel I β v d){sz:Nat}{rows:List (List D)}(hr:rowsOf U.boxes d=some (sz,rows)){size:Nat}(dw:0<size)(dQ:rows=[]\/sz=size):
    ∃f:Nat->Value,(∀w',(Builtin.lenOf v).run P w'=.ok rows.length w')/\(∀w',aB (·<w.heap.size) w w'->(Builtin.firstCells size rows.length v).run P w'=.ok ((List.range (rows.length*size)).map f).toArray w')/\
     eE I size ((List.range (rows.length*size)).map f) rows:=by
  by_cases UR:∃s,d=.str s
  .obtain⟨s,rfl⟩:=UR
   cases hv with|str s=>?_
   unfold rowsOf at hr;cases hr;have hl:(s.data.toList.map λb=>[D.int .u8 b.toNat]).length=s.size:=by rw[List.length_map,Array.length_toList];rfl
   have hk:s.size=0\/size=1:=by
    rcases dQ with h|h
    .left;rw[<-hl,h];rfl
    exact .inr h.symm
   have hm:((List.range (s.size*size)).map λn=>(s.data.toList[n]?).elim undef λb=>Value.int .u8 b.toNat)=s.data.toList.map λb=>Value.int .u8 b.toNat:=by
    rcases hk with h|h
    .have h2:s.data.toList=[]:=List.eq_nil_of_length_eq_zero (by rw[Array.length_toList];exact h)
     simp[h,h2]
    subst h;apply List.ext_getElem?;intro n;by_cases hn:n<s.size
    .have xe:n<s.data.toList.length:=by rw[Array.length_toList];exact hn
     rw[List.getElem?_map,List.getElem?_map,List.getElem?_range (by omega),List.getElem?_eq_getElem xe,Option.map_some,List.getElem?_eq_getElem xe];rfl
    have xe:s.data.toList.length<=n:=by rw[Array.length_toList];exact Nat.le_of_not_lt hn
    rw[List.getElem?_eq_none (by simp;omega),List.getElem?_eq_none (by rw[List.length_map];exact xe)]
   refine⟨λn=>(s.data.toList[n]?).elim undef λb=>.int .u8 b.toNat,λw'=>by rw[hl];rfl,λw' _=>?_,?_⟩
   .rw[hl,hm]
    have:s.extract 0 s.size=s:=ByteArray.extract_zero_size;simp only[Builtin.firstCells,this,Sem.run_pure];congr 1;apply Array.toList_inj.1;simp
   rw[hl,hm];rcases hk with h|h
   .have h2:s.data.toList=[]:=List.eq_nil_of_length_eq_zero (by rw[Array.length_toList];exact h)
    rw[h2];exact⟨by simp,λr row h=>by simp at h,λr row j d h=>by simp at h⟩
   subst h;refine⟨by simp,λr row hr=>?_,λr row j d hr hj=>?_⟩
   .simp only[List.getElem?_map,Option.map_eq_some_iff]at hr
    obtain⟨b,_,rfl⟩:=hr;rfl
   simp only[List.getElem?_map,Option.map_eq_some_iff]at hr;obtain⟨b,hb,rfl⟩:=hr;cases j with
   |succ j=>simp at hj
   |zero=>
    simp at hj;subst hj;refine⟨.int .u8 b.toNat,?_,.int _ _,rfl⟩;simp only[Nat.mul_one,Nat.add_zero,List.getElem?_map,hb,Option.map_some]
  obtain⟨A,c2,f,rfl,FR,cb⟩:=Hs hs hv hr dw dQ (λs e=>UR ⟨s,e⟩);exact⟨f,λw'=>rfl,λw' kk=>ko FR kk,cb⟩
omit [aM]in
theorem ei{t t1:TypeId}{ti rZ te:TI}(h:aj P t ti){e:TypeId}(hd:ti.desc=.slice e)(he:aj P e te)(h1:aj P t1 rZ)(la:xg rZ.desc=true){vo:Array TypeId}(h0:vo[0]?=some t)(AM:vo[1]?=some t1)
    (ty:TypeId)(A:Option Addr)(x:Value)(len c m:Nat)(hl:∀w,(Builtin.lenOf x).run P w=.ok m w)(mK:len+m<=c){news:Array Value}(hf:(Builtin.firstCells te.size m x).run P w=.ok news w){w':World}
    (cH:match(A:Option Addr)with|some a=>(storeCells (a.add (len*te.size)) news.toList).run P w=.ok () w'|none=>w'=w):
    (Builtin.append_ vo ty #[.slice A len c,x]).run P w=.ok (.slice A (len+m) c) w':=by
  cases A with
  |none=>
   subst cH;cases s5:rZ.desc<;>rw[s5]at la<;>first|(cases la;done)|simp[Builtin.append_,h0,AM,run_underlying h.desc,hd,run_underlying h1.desc,s5,he.run_sizeOf,hl,mK,hf]
  |some a=>
   simp only at cH;cases s5:rZ.desc<;>rw[s5]at la<;>first|(cases la;done)|simp[Builtin.append_,h0,AM,run_underlying h.desc,hd,run_underlying h1.desc,s5,he.run_sizeOf,hl,mK,hf,cH]
omit [aM]in
theorem gN{t t1:TypeId}{ti rZ te:TI}(h:aj P t ti){e:TypeId}(hd:ti.desc=.slice e)(he:aj P e te)(h1:aj P t1 rZ)(la:xg rZ.desc=true){vo:Array TypeId}(h0:vo[0]?=some t)(AM:vo[1]?=some t1)
    (ty:TypeId)(A:Option Addr)(x:Value)(len c m:Nat)(hl:∀w,(Builtin.lenOf x).run P w=.ok m w)(FT:c<len+m)(pg:0<te.bytes)(ld:(len+m)*te.bytes<=ay){olds news:Array Value}(ho:(Builtin.firstCells te.size len (.slice A len c)).run P w.drew=.ok olds w.drew)
    (hf:(Builtin.firstCells te.size m x).run P w.drew=.ok news w.drew):
    ∃z:Value,z.cells.size=te.size/\(Builtin.append_ vo ty #[.slice A len c,x]).run P w=
     .ok (.slice (some ⟨w.heap.size,0,none⟩) (len+m) (grownCap w (len+m) c e)) (w.drew.alloc (.cells (olds++news++Builtin.zeroCells z.cells (grownCap w (len+m) c e-(len+m))) e)):=by
  obtain⟨i,hi,his,ZK,hp,z,hz,ZG,_⟩:=he.run_typeInfo (P:=P) w;have UK:z.cells.size=te.size:=by have:=he.u7;simp at ZG;omega
  refine⟨z,UK,?_⟩;have Yx:¬len+m<=c:=by omega
  have ZR:(len+m)*1<=(len+m)*te.bytes:=Nat.mul_le_mul_left _ pg;have ZS:¬((9223372036854775807:Int)<((len:Int)+(m:Int))):=by unfold ay at ld;omega
  have ud:Builtin.nextslicecap (len+m) c*i.bytes<=281474976710656:=growslice_fits FT (by rw[ZK];unfold ay at ld;omega);have h48:¬(281474976710656<Builtin.nextslicecap (len+m) c*i.bytes):=by omega
  have hzv:(zeroValue e).run P w.drew=.ok z w.drew:=by simp[zeroValue,typeInfo,hp,hz]
  have YB:∀w:World,(typeInfo e).run P w=.ok i w:=λw=>by simp[typeInfo,hp]
  cases s5:rZ.desc<;>rw[s5]at la<;>first|(cases la;done)|simp[Builtin.append_,h0,AM,run_underlying h.desc,hd,run_underlying h1.desc,s5,he.run_sizeOf,hl,Yx,ZS,YB,h48,Question.forced,ho,hf,hzv,newRow,grownCap]
omit [aM]in
theorem gO(z:Array Value)(n:Nat):(Builtin.zeroCells z n).size=n*z.size:=by simp[Builtin.zeroCells]
omit [aM]in
theorem r0{size n cap:Nat}{c:Array Value}{cs more:List Value}{e:TypeId}{rows:List (List D)}(hr:eE I size cs rows)(hn:rows.length=n)(ia:n<=cap)(hc:c.toList=cs++more)(dQ:c.size=cap*size)(w:World)(g:Nat):
    bA I β (w.alloc (.cells c e)) ⟨some w.heap.size,false,g,size,cap,n,0⟩ (.rows false g size rows):=by
  refine⟨rfl,rfl,rfl,hn.symm,hr.row,by simp[hn,ia],c,e,World.alloc_heap_new w _,by simpa using dQ,?_⟩;intro r row j d h1 h2;obtain⟨v,h3,h4,h5⟩:=hr.cell r row j d h1 h2;refine⟨v,?_,h4,h5⟩;have:c.toList[r*size+j]?=some v:=by
   rw[hc,List.getElem?_append_left (List.getElem?_eq_some_iff.1 h3).1];exact h3
  simpa using this
omit [aM]in
theorem eE.append{size:Nat}{cs ds:List Value}{xs ys:List (List D)}(h:eE I size cs xs)(h':eE I size ds ys):eE I size (cs++ds) (xs++ys):=by
 refine⟨by simp[h.len,h'.len,Nat.add_mul],?_,?_⟩
 .intro r row hr
  by_cases hi:r<xs.length
  .rw[List.getElem?_append_left hi]at hr;exact h.row r row hr
  rw[List.getElem?_append_right (by omega)]at hr;exact h'.row _ row hr
 intro r row j d hr hj;by_cases hi:r<xs.length
 .rw[List.getElem?_append_left hi]at hr
  obtain⟨v,h1,h2⟩:=h.cell r row j d hr hj;exact⟨v,by rw[List.getElem?_append_left (List.getElem?_eq_some_iff.1 h1).1];exact h1,h2⟩
 rw[List.getElem?_append_right (by omega)]at hr;obtain⟨v,h1,h2⟩:=h'.cell _ row j d hr hj;have hle:xs.length*size<=r*size:=Nat.mul_le_mul_right _ (by omega);refine⟨v,?_,h2⟩;rw[List.getElem?_append_right (by rw[h.len];omega),h.len,<-h1];congr 1;rw[Nat.sub_mul];omega
omit [aM]in
theorem JQ{b:BI}{fz:Bool}{g sz:Nat}{rs:List (List D)}(h:bA I β w b (.rows fz g sz rs)){R:Nat}(hR:b.R=some R):
    ∃c t,w.heap[R]?=some (.cells c t (0,0))/\c.size=b.o+b.cap*sz:=by
  obtain⟨_,_,_,_,aI,ia,hm⟩:=h;rw[hR]at hm;obtain⟨c,t,hh,fS,hd⟩:=hm;exact⟨c,t,hh,fS⟩
theorem ZT{a b c d e:Bool}(h:(match a,b,c,d,e with|true,true,true,true,true=>true|_,_,_,_,_=>false)=true):a=true/\b=true/\c=true/\d=true/\e=true:=by
 cases a<;>cases b<;>cases c<;>cases d<;>cases e<;>first|exact⟨rfl,rfl,rfl,rfl,rfl⟩|cases h
theorem zc(ak:cx.Ok)(hs:bf cx V U β I S N a w){t t1:TypeId}{ti rZ te:TI}(h:aj P t ti){e:TypeId}(hd:ti.desc=.slice e)(he:aj P e te)(h1:aj P t1 rZ)(la:xg rZ.desc=true)
    {vo:Array TypeId}(h0:vo[0]?=some t)(AM:vo[1]?=some t1)(ty:TypeId)(pg:0<te.bytes){sv xv:Value}{i g off len pos:Nat}{s x:ByteArray}(Ht:Rel I β sv (.sl i g off len))(ub:Rel I β xv (.str x))
    (hb:U.boxes[i]?=some (.aA false s pos))(h5:te.size=1)(QI:off=0)(zd:len=s.size)(dw:pos=dR s.size g e)(cG:e<1099511627776)(ld:(len+x.size)*te.bytes<=ay):
    ∃v w',(Builtin.append_ vo ty #[sv,xv]).run P w=.ok v w'/\∃b',bf cx V ⟨U.tmps,U.boxes.set i (.aA false (s++x) (dR (len+x.size) (g+1) e)),U.y⟩ (λj=>if j=i then some b' else β j) I S N a w'/\
     Rel I (λj=>if j=i then some b' else β j) v (.sl i (g+1) 0 (len+x.size))/\(β i).isSome=true:=by
  have gi:(x.data.toList.map λb=>[D.int .u8 b.toNat]).length=x.size:=by rw[List.length_map,Array.length_toList];rfl
  obtain⟨f,vn,hf,cb⟩:=vp (P:=P) hs ub (sz:=1) (rows:=x.data.toList.map λb=>[D.int .u8 b.toNat]) rfl (size:=te.size) (by omega) (.inr h5.symm);rw[gi]at vn hf cb;obtain⟨news,FU⟩:∃l,(List.range (x.size*te.size)).map f=l:=⟨_,rfl⟩;rw[FU]at hf cb;have tY:news.length=x.size:=by rw[<-FU,List.length_map,List.length_range,h5,Nat.mul_one]
  have ZU:∀(j:Nat)(y:UInt8),x.data.toList[j]?=some y->news[j]?=some (.int .u8 y.toNat):=λj y hy=>by
   obtain⟨v,h2,h3,_⟩:=cb.cell j [.int .u8 y.toNat] 0 (.int .u8 y.toNat) (by rw[List.getElem?_map,hy];rfl) rfl;rw[h5,Nat.mul_one,Nat.add_zero]at h2;rw[h2,h3.aT]
  have US:∀u∈news,u.oneCell'=true:=λu hu=>by
   obtain⟨n,hn,rfl⟩:=List.getElem_of_mem hu;have xe:n<x.data.toList.length:=by rw[Array.length_toList];show n<x.size;rw[<-tY];exact hn
   have h2:=ZU n _ (List.getElem?_eq_getElem xe);rw[List.getElem?_eq_getElem hn]at h2;rw[Option.some.inj h2];rfl
  have NB:(s++x).size=len+x.size:=by rw[ByteArray.size_append,zd]
  have ZV:(s++x).data.toList=s.data.toList++x.data.toList:=by simp
  have qo:s.data.toList.length=len:=by rw[zd,Array.length_toList];rfl
  subst QI;have jt:∀b:BI,β i=some b->b.flat=false->lz w b s pos/\b.g=g:=λb hβ dN=>by
   obtain⟨box',dD,cV⟩:=hs.bx i b hβ;rw[hb]at dD;cases dD;have h2:=cV.resolve_left λh=>by rw[h.1]at dN;cases dN
   refine⟨h2,?_⟩;obtain⟨_,_,_,_,_,e',h6,h7,_⟩:=h2;have h8:@LT.lt Nat _ e 1099511627776:=cG;rw[dw]at h7;unfold dR at h7;omega
  cases Ht with
  |cJ _ _ _ _ _ _ b hβ dN hg=>have:=(jt b hβ dN).2;omega
  |sl A c _ _ _ _ b hβ dN hg hc hl hn ha=>
   obtain⟨⟨_,dQ,ho,hbn,ia,e',fL,NC,hm⟩,_⟩:=jt b hβ dN;obtain rfl:e'=e:=by rw[dw,hg]at NC;unfold dR at NC;omega
   have hle:∀b':BI,b'.flat=false->b'.g=g+1->β.le (λj=>if j=i then some b' else β j):=by
    intro b' qm jQ j cj JR;by_cases hj:j=i
    .subst hj
     rw[hβ]at JR;cases JR;exact⟨b',by simp,.inr ⟨dN,qm,by omega⟩⟩
    exact⟨cj,by simp[hj,JR],.inl rfl⟩
   have Bo:(β i).isSome=true:=by rw[hβ];rfl
   have UL:c=b.cap:=by omega
   by_cases mK:len+x.size<=c
   .rcases Nat.eq_zero_or_pos c with ua|ZW
    .have xR:len=0:=by omega
     have JS:x.size=0:=by omega
     have FQ:news=[]:=List.eq_nil_of_length_eq_zero (by omega);have aP:=ei (w:=w) h hd he h1 la h0 AM ty A xv len c x.size vn mK (hf w (aB.refl _ w)) (w':=w) (by
      cases A with
      |none=>rfl
      |some A=>simp[FQ,storeCells])
     have bq:=hs.set ak hβ hb rfl (λ_ _ _ e=>by cases e) (w':=w) (b':=⟨none,false,g+1,1,0,0,0⟩) (box':=.aA false (s++x) (dR (len+x.size) (g+1) e')) (aB.refl _ w) (λR hR=>by cases hR) (hle _ rfl rfl)
      (.inr ⟨rfl,rfl,rfl,by rw[NB];show(0:Nat)=_;omega,by rw[NB];show _<=0;omega,e',fL,by rw[NB],rfl⟩)
     refine⟨_,_,aP,_,bq,?_,Bo⟩;rw[ua,xR,JS];exact Rel.sl (I:=I) (β:=λj=>if j=i then some ⟨none,false,g+1,1,0,0,0⟩else β j) A 0 i (g+1) 0 0 _ (by simp;rfl) rfl rfl rfl (Nat.le_refl _) (Nat.le_refl _) (λh=>absurd h (by omega))
    obtain⟨R,hR,rfl⟩:=ha ZW;rw[hR]at hm;obtain⟨cc,hh,fS,s5⟩:=hm;have cH:=run_storeCells_at P R len e' news 0 cc w hh (by omega) US;have aP:=ei (w:=w) h hd he h1 la h0 AM ty (some ⟨R,b.o+0*b.sz,none⟩) xv len c x.size vn mK (hf w (aB.refl _ w)) (w':=w.setRow R (bt cc.toList len news).toArray) (by
     simp only[cU];rw[ho,dQ,h5];simp only[Nat.add_zero]at cH;simp only[Nat.zero_mul,Nat.zero_add,Nat.mul_one];rw[cH];simp[bt])
    have lL:cc.toList.length=c:=by rw[Array.length_toList,fS,UL]
    have mf:(cc.toList.take len).length=len:=by rw[List.length_take,lL];omega
    have bq:=hs.set ak hβ hb rfl (λ_ _ _ e=>by cases e) (w':=w.setRow R (bt cc.toList len news).toArray) (b':=⟨b.R,false,g+1,1,c,len+x.size,0⟩) (box':=.aA false (s++x) (dR (len+x.size) (g+1) e'))
     (by rw[hR];exact aB.setRow w R _) (λR hR=>.inl hR) (hle _ rfl rfl) (by
      refine .inr ⟨rfl,rfl,rfl,NB.symm,by rw[NB];exact mK,e',fL,by rw[NB],?_⟩;show match b.R with
       |none=>_
       |some R=>_
      rw[hR];refine⟨_,setRow_heap w R cc _ e' _ hh,?_,λj y hj=>?_⟩
      .simp only[List.size_toArray,bt,List.length_append,mf,List.length_drop,lL,tY]
       show _=c;omega
      rw[List.getElem?_toArray];unfold bt;rw[ZV]at hj;by_cases ng:j<len
      .rw[List.getElem?_append_left (by rw[mf];exact ng),List.getElem?_take,if_pos ng]
       rw[List.getElem?_append_left (by omega)]at hj;have:=s5 j y hj;simpa using this
      rw[List.getElem?_append_right (by rw[mf];omega),mf];rw[List.getElem?_append_right (by omega),qo]at hj;have h2:=ZU _ y hj;rw[List.getElem?_append_left (List.getElem?_eq_some_iff.1 h2).1];exact h2)
    refine⟨_,_,aP,_,bq,?_,Bo⟩;exact Rel.sl (I:=I) (β:=λj=>if j=i then some ⟨b.R,false,g+1,1,c,len+x.size,0⟩else β j) (some ⟨R,b.o+0*b.sz,none⟩) c i (g+1) 0 (len+x.size) ⟨b.R,false,g+1,1,c,len+x.size,0⟩ (by simp) rfl rfl (Nat.zero_add c) mK (by simp) (λ_=>⟨R,hR,by simp[ho]⟩)
   have MZ:(Builtin.firstCells te.size len (.slice A len c)).run P w.drew=.ok ((List.range (len*te.size)).map λn=>(match b.R with|some R=>(w.cell? ⟨R,n,none⟩).getD undef|none=>undef)).toArray w.drew:=by
     refine ko (w:=w) (λhp=>?_) (aB.drew _ w);obtain⟨R,hR,rfl⟩:=ha (by omega);refine⟨R,b.o+0*b.sz,rfl,λn xe=>?_⟩;rw[hR]at hm;obtain⟨cc,hh,fS,_⟩:=hm;rw[h5,Nat.mul_one]at xe;have cG:n<cc.size:=by omega
     simp[hR,ho,bO hh,Array.getElem?_eq_getElem cG]
   rw[h5,Nat.mul_one]at MZ;obtain⟨olds,holds⟩:∃l,((List.range len).map λn=>(match b.R with|some R=>(w.cell? ⟨R,n,none⟩).getD undef|none=>undef))=l:=⟨_,rfl⟩;rw[holds]at MZ;have QJ:olds.length=len:=by rw[<-holds,List.length_map,List.length_range]
   have hoc:∀(j:Nat)(y:UInt8),s.data.toList[j]?=some y->olds[j]?=some (.int .u8 y.toNat):=λj y hy=>by
    have hj:=(List.getElem?_eq_some_iff.1 hy).1;rw[<-holds,List.getElem?_map,List.getElem?_range (by omega)];obtain⟨R,hR,_⟩:=ha (by omega);rw[hR]at hm;obtain⟨cc,hh,fS,s5⟩:=hm;simp only[Option.map_some,hR,bO hh,s5 j y hy,Option.getD_some]
   obtain⟨z,hz,aP⟩:=gN (w:=w) h hd he h1 la h0 AM ty A xv len c x.size vn (by omega) pg ld (by rw[h5];exact MZ) (hf w.drew (aB.drew _ w));have Dt:=grownCap_ge w (len+x.size) c e';obtain⟨cells,lC⟩:∃q,(olds.toArray++news.toArray++Builtin.zeroCells z.cells (grownCap w (len+x.size) c e'-(len+x.size)))=q:=⟨_,rfl⟩;rw[lC]at aP;have bq:=hs.set ak hβ hb rfl (λ_ _ _ e=>by cases e) (w':=w.drew.alloc (.cells cells e')) (b':=⟨some w.drew.heap.size,false,g+1,1,grownCap w (len+x.size) c e',len+x.size,0⟩) (box':=.aA false (s++x) (dR (len+x.size) (g+1) e'))
    (((aB.drew _ w).trans (aB.alloc w.drew _)).mono λB hB=>hB.1) (λR hR=>by cases hR;exact .inr (Nat.le_refl _)) (hle _ rfl rfl) (by
     refine .inr ⟨rfl,rfl,rfl,NB.symm,by rw[NB];exact Dt,e',fL,by rw[NB],cells,World.alloc_heap_new w.drew _,?_,λj y hj=>?_⟩
     .rw[<-lC]
      simp only[Array.size_append,gO,hz,h5,List.size_toArray,QJ,tY];show _=grownCap w (len+x.size) c e';omega
     rw[<-lC,Array.getElem?_append_left (by
       have:=(List.getElem?_eq_some_iff.1 hj).1;rw[ZV,List.length_append,qo,Array.length_toList]at this;simp only[Array.size_append,List.size_toArray,QJ,tY];exact this)]
     rw[show olds.toArray++news.toArray=(olds++news).toArray by simp,List.getElem?_toArray];rw[ZV]at hj;by_cases ng:j<len
     .rw[List.getElem?_append_left (by omega)]at hj⊢
      exact hoc j y hj
     rw[List.getElem?_append_right (by omega)]at hj⊢;rw[qo]at hj;rw[QJ];exact ZU _ y hj)
   refine⟨_,_,aP,_,bq,?_,Bo⟩;exact Rel.sl (I:=I) (β:=λj=>if j=i then some ⟨some w.drew.heap.size,false,g+1,1,grownCap w (len+x.size) c e',len+x.size,0⟩else β j) (some ⟨w.heap.size,0,none⟩) (grownCap w (len+x.size) c e') i (g+1) 0 (len+x.size) ⟨some w.drew.heap.size,false,g+1,1,grownCap w (len+x.size) c e',len+x.size,0⟩ (by simp) rfl rfl (Nat.zero_add _) Dt (by simp) (λ_=>⟨w.heap.size,rfl,by simp⟩)
theorem qF(ak:cx.Ok)(hs:bf cx V U β I S N a w){t t1:TypeId}{ti rZ te:TI}(h:aj P t ti){e:TypeId}(hd:ti.desc=.slice e)(he:aj P e te)(h1:aj P t1 rZ)(la:xg rZ.desc=true)
    {vo:Array TypeId}(h0:vo[0]?=some t)(AM:vo[1]?=some t1)(ty:TypeId)(dw:0<te.size)(pg:0<te.bytes){sv xv:Value}{s x:D}(Ht:Rel I β sv s)(ub:Rel I β xv x)(nK:∀i,(β i).isSome=true->i<U.boxes.length){k:bE->Prop}
    (hk:gL e U.boxes te.size te.bytes s x k):
    ∃v w' pn,(Builtin.append_ vo ty #[sv,xv]).run P w=.ok v w'/\k pn/\∃β',bf cx V ⟨U.tmps,cD U pn,U.y⟩ β' I S N a w'/\Rel I β' v (nv U pn)/\(Jl U pn=U.y/\G4 U pn=U.tmps)/\
     ((∀i,i<(cD U pn).length->(i<U.boxes.length->(β i).isSome=true)->(β' i).isSome=true)/\∀i,i<U.boxes.length->(β' i).isSome=(β i).isSome):=by
  unfold gL at hk;cases hr:rowsOf U.boxes x with
  |none=>rw[hr]at hk;exact hk.elim
  |some q=>
   obtain⟨sz,rows⟩:=q;rw[hr]at hk;simp only at hk;obtain⟨dQ,hk⟩:=hk;have QK:rows=[]\/sz=te.size:=by
    split at dQ
    .rename_i hq;exact .inr (Nat.eq_of_beq_eq_true hq)
    exact .inl dQ
   obtain⟨f,vn,hf,cb⟩:=vp (P:=P) hs ub hr dw QK;have FU:∀u∈((List.range (rows.length*te.size)).map f),u.oneCell'=true:=by
    intro u hu;obtain⟨n,hn,rfl⟩:=List.getElem_of_mem hu;have xe:n<rows.length*te.size:=by simpa using hn
    have e8:n/te.size<rows.length:=Nat.div_lt_of_lt_mul (by rw[Nat.mul_comm];exact xe);have xm:n %te.size<te.size:=Nat.mod_lt _ dw;have aI:=cb.row _ _ (List.getElem?_eq_getElem e8);obtain⟨v,h2,_,h3⟩:=cb.cell (n/te.size) _ (n %te.size) _ (List.getElem?_eq_getElem e8) (List.getElem?_eq_getElem (by rw[aI];exact xm));have e':n/te.size*te.size+n %te.size=n:=by rw[Nat.mul_comm];exact Nat.div_add_mod n te.size
    rw[e',List.getElem?_eq_getElem hn]at h2;cases h2;exact h3
   cases s with
   |ao=>
    obtain⟨ld,hk⟩:=hk;cases Ht with|ao A0=>?_
    have hn:β U.boxes.length=none:=by
     cases hb:β U.boxes.length with
     |none=>rfl
     |some b=>exact absurd (nK _ (by simp[hb])) (Nat.lt_irrefl _)
    have hold:∀(b:af)(i:Nat),(β i).isSome=true->(U.boxes++[b])[i]?=U.boxes[i]?:=λb i hi=>List.getElem?_append_left (nK i hi);have cK:∀(b:af)(bi:BI),(∀(i:Nat),i<(U.boxes++[b]).length->(i<U.boxes.length->(β i).isSome=true)->((λi=>if i=U.boxes.length then some bi else β i) i).isSome=true)/\
        ∀i,i<U.boxes.length->((λi=>if i=U.boxes.length then some bi else β i) i).isSome=(β i).isSome:=by
      intro b bi;refine⟨λi hi ht=>?_,λi hi=>?_⟩
      .by_cases hl:i=U.boxes.length
       .simp[hl]
       simp only[hl,if_false];exact ht (by simp at hi;omega)
      have hl:i≠U.boxes.length:=by omega
      simp only[hl,if_false]
    rcases Nat.eq_zero_or_pos rows.length with JT|hp
    .have aP:=ei (w:=w) h hd he h1 la h0 AM ty A0 xv 0 0 rows.length vn (by omega) (hf w (aB.refl _ w)) (w':=w) (by cases A0 with|none=>rfl|some A0=>simp[JT,storeCells])
     have hrn:rows=[]:=List.eq_nil_of_length_eq_zero JT;obtain⟨bq,hle⟩:=hs.new ak (aB.refl _ w) (bs:=U.boxes++[.rows false 0 te.size rows]) (n:=U.boxes.length) (b:=.rows false 0 te.size rows) (bi:=⟨none,false,0,te.size,0,0,0⟩) hn (by simp) (hold _) (λR h=>by cases h)
      ⟨rfl,rfl,rfl,JT.symm,cb.row,by simp[JT],rfl⟩
     refine⟨_,_,_,aP,hk,_,bq,?_,⟨rfl,rfl⟩,cK _ _⟩;rw[JT];exact .sl A0 0 U.boxes.length 0 0 0 ⟨none,false,0,te.size,0,0,0⟩ (by simp) rfl rfl rfl (Nat.le_refl _) (Nat.le_refl _) (λh=>absurd h (by omega))
    obtain⟨z,hz,aP⟩:=gN (w:=w) h hd he h1 la h0 AM ty A0 xv 0 0 rows.length vn (by omega) pg (by simpa using ld) (olds:=#[]) (by cases A0 with|none=>simp[Builtin.firstCells]|some A0=>simp[Builtin.firstCells,loadCells,loadCellsFrom]) (hf w.drew (aB.drew _ w));have Dt:=grownCap_ge w (0+rows.length) 0 e;have hb:=r0 (β:=β) (e:=e) (c:=#[]++((List.range (rows.length*te.size)).map f).toArray++Builtin.zeroCells z.cells (grownCap w (0+rows.length) 0 e-(0+rows.length))) (cap:=grownCap w (0+rows.length) 0 e)
     (more:=(Builtin.zeroCells z.cells (grownCap w (0+rows.length) 0 e-(0+rows.length))).toList) cb (by simp) Dt (by simp) (by
      simp only[Array.size_append,gO,hz,List.size_toArray,List.length_map,List.length_range,Nat.zero_add,List.length_nil];have QL:=Dt;simp only[Nat.zero_add]at QL;rw[<-Nat.add_mul];congr 1;omega) w.drew 0
    obtain⟨bq,hle⟩:=hs.new ak ((aB.drew _ w).trans (aB.alloc w.drew _)) (bs:=U.boxes++[.rows false 0 te.size rows]) (n:=U.boxes.length) hn (by simp) (hold _) (λR h=>by cases h;exact Nat.le_refl _) hb;refine⟨_,_,_,aP,hk,_,bq,?_,⟨rfl,rfl⟩,cK _ _⟩;have:=Rel.sl (I:=I) (β:=λi=>if i=U.boxes.length then some ⟨some w.drew.heap.size,false,0,te.size,grownCap w (0+rows.length) 0 e,0+rows.length,0⟩else β i) (some ⟨w.heap.size,0,none⟩) (grownCap w (0+rows.length) 0 e) U.boxes.length 0 0 (0+rows.length) _ (by simp;rfl) rfl rfl (by simp) Dt (by simp) (λ_=>⟨w.heap.size,rfl,by simp⟩);simpa[nv]using this
   |sl i g off len=>
    simp only at hk;cases hb:U.boxes[i]? with
    |none=>rw[hb]at hk;exact hk.elim
    |some box=>
     rw[hb]at hk;cases box with
     |flat=>exact hk.elim
     |map=>exact hk.elim
     |aA fz b pos=>
      cases fz with
      |true=>exact hk.elim
      |false=>
       cases x with
       |str x=>
        obtain⟨hq,ld,ze⟩:=ae hk;obtain⟨q1,q2,q3,q4,q5⟩:=ZT hq;obtain⟨v,w',aP,b',bq,aq,Bo⟩:=zc ak hs h hd he h1 la h0 AM ty pg Ht ub hb (Nat.eq_of_beq_eq_true q1) (Nat.eq_of_beq_eq_true q2) (Nat.eq_of_beq_eq_true q3) (Nat.eq_of_beq_eq_true q4) (Nat.blt_eq.mp q5) ld;refine⟨v,w',_,aP,ze,_,bq,aq,⟨rfl,rfl⟩,λj hj ht=>?_,λj hj=>?_⟩
        .by_cases hl:j=i
         .simp[hl]
         simp only[hl,if_false];exact ht (by have h9:j<(U.boxes.set i (.aA false (b++x) (dR (len+x.size) (g+1) e))).length:=hj;simpa using h9)
        by_cases hl:j=i
        .subst hl;simp only[if_true];rw[Bo];rfl
        simp only[hl,if_false]
       |_=>exact hk.elim
     |aJ=>exact hk.elim
     |rows fz g' Ng rs=>
      cases fz with
      |true=>exact hk.elim
      |false=>
       simp only at hk;obtain⟨k6,hlen,ld,dP,hold,all,cW,ze⟩:=ae hk;cases mI:Nat.beq g g' with
       |false=>rw[mI]at k6;cases k6
       |true=>
           rw[mI]at k6;have mI:=Nat.eq_of_beq_eq_true mI;obtain rfl:Ng=te.size:=Nat.eq_of_beq_eq_true k6;have JU:dP.length=len:=by rw[<-hold];simp;omega
           have s6:all.length=len+rows.length:=by rw[<-cW,List.length_append,JU]
           have uy:∀(r:Nat)(row:List D),dP[r]?=some row->r<len/\rs[off+r]?=some row:=by
            intro r row hr;rw[<-hold,List.getElem?_take]at hr;split at hr
            .exact⟨by assumption,by simpa using hr⟩
            cases hr
           rw[mI]at ze;cases Ht with
           |cJ _ _ _ _ _ _ b hβ _ hg=>
            obtain⟨box',dD,cV⟩:=hs.bx i b hβ;rw[hb]at dD;cases dD;obtain⟨_,h2,_⟩:=cV;omega
           |sl A c _ _ _ _ b hβ dN hg hc hl hn ha=>
            obtain⟨box',dD,cV⟩:=hs.bx i b hβ;rw[hb]at dD;cases dD;have QM:=cV;obtain⟨_,eu,JP,Yx,aI,ia,hm⟩:=cV;have hle:∀b':BI,b'.flat=false->b'.g=g'+1->β.le (λj=>if j=i then some b' else β j):=by
             intro b' qm jQ j cj JR;by_cases hj:j=i
             .subst hj
              rw[hβ]at JR;cases JR;exact⟨b',by simp,.inr ⟨dN,qm,by omega⟩⟩
             exact⟨cj,by simp[hj,JR],.inl rfl⟩
            have cK:∀(bx:af)(bi:BI),(∀(j:Nat),j<(U.boxes.set i bx).length->(j<U.boxes.length->(β j).isSome=true)->((λj=>if j=i then some bi else β j) j).isSome=true)/\
                ∀j,j<U.boxes.length->((λj=>if j=i then some bi else β j) j).isSome=(β j).isSome:=by
              intro bx bi;refine⟨λj hj ht=>?_,λj hj=>?_⟩
              .by_cases hl:j=i
               .simp[hl]
               simp only[hl,if_false];exact ht (by simpa using hj)
              by_cases hl:j=i
              .subst hl;simp[hβ]
              simp only[hl,if_false]
            by_cases mK:len+rows.length<=c
            ·
             rcases Nat.eq_zero_or_pos c with ua|ZW
             .have xR:len=0:=by omega
              have QN:rows=[]:=List.eq_nil_of_length_eq_zero (by omega);have aP:=ei (w:=w) h hd he h1 la h0 AM ty A xv len c rows.length vn mK (hf w (aB.refl _ w)) (w':=w) (by
               cases A with
               |none=>rfl
               |some A=>simp[QN,storeCells])
              have Ps:all=[]:=List.eq_nil_of_length_eq_zero (by rw[s6,QN,xR];rfl);have bq:=hs.set ak hβ hb rfl (λ_ _ _ e=>by cases e) (w':=w) (b':=⟨none,false,g'+1,te.size,0,0,0⟩) (box':=.rows false (g'+1) te.size all) (aB.refl _ w) (λR hR=>by cases hR) (hle _ rfl rfl) (by
               rw[Ps];exact⟨rfl,rfl,rfl,rfl,λr row hr=>by simp at hr,Nat.le_refl _,rfl⟩)
              refine⟨_,_,.set i (.rows false (g'+1) te.size all) (.sl i (g'+1) 0 all.length),aP,ze,_,bq,?_,⟨rfl,rfl⟩,cK _ _⟩;rw[ua,xR,QN,Ps];exact Rel.sl (I:=I) (β:=λj=>if j=i then some ⟨none,false,g'+1,te.size,0,0,0⟩else β j) A 0 i (g'+1) 0 0 _ (by simp;rfl) rfl rfl rfl (Nat.le_refl _) (Nat.le_refl _) (λh=>absurd h (by omega))
             obtain⟨R,hR,rfl⟩:=ha ZW;rw[hR]at hm;obtain⟨cc,tt,hh,fS,s5⟩:=hm;obtain⟨p0,hp0⟩:∃p0,b.o+off*te.size+len*te.size=p0:=⟨_,rfl⟩;have ZX:cc.size=b.o+off*te.size+c*te.size:=by rw[fS,<-hc,Nat.add_mul,Nat.add_assoc]
             have ZY:len*te.size+rows.length*te.size<=c*te.size:=by rw[<-Nat.add_mul];exact Nat.mul_le_mul_right _ mK
             have ud:p0+((List.range (rows.length*te.size)).map f).length<=cc.size:=by
              rw[ZX];simp only[List.length_map,List.length_range];omega
             have cH:=run_storeCells_at P R p0 tt ((List.range (rows.length*te.size)).map f) 0 cc w hh (by simpa using ud) FU;have aP:=ei (w:=w) h hd he h1 la h0 AM ty (some ⟨R,b.o+off*b.sz,none⟩) xv len c rows.length vn mK (hf w (aB.refl _ w)) (w':=w.setRow R (bt cc.toList p0 ((List.range (rows.length*te.size)).map f)).toArray) (by
              simp only[cU];rw[JP,hp0];simp only[Nat.add_zero]at cH;rw[cH];simp[bt])
             have bq:=hs.set ak hβ hb rfl (λ_ _ _ e=>by cases e) (w':=w.setRow R (bt cc.toList p0 ((List.range (rows.length*te.size)).map f)).toArray) (b':=⟨b.R,false,g'+1,te.size,c,len+rows.length,b.o+off*te.size⟩) (box':=.rows false (g'+1) te.size all)
              (by rw[hR];exact aB.setRow w R _) (λR hR=>.inl hR) (hle _ rfl rfl) (by
               have cG:∀(r:Nat)(row:List D),all[r]?=some row->(r<len/\rs[off+r]?=some row)\/(len<=r/\rows[r-len]?=some row):=by
                intro r row e8;rw[<-cW]at e8;by_cases Hu:r<len
                .rw[List.getElem?_append_left (by omega)]at e8
                 exact .inl (uy r row e8)
                rw[List.getElem?_append_right (by omega),JU]at e8;exact .inr ⟨by omega,e8⟩
               refine⟨rfl,rfl,rfl,s6.symm,λr row e8=>?_,by rw[s6];exact mK,?_⟩
               .rcases cG r row e8 with⟨_,h3⟩|⟨_,h3⟩
                .exact aI _ _ h3
                exact cb.row _ _ h3
               show match b.R with
                |none=>_
                |some R=>_
               rw[hR];refine⟨_,tt,setRow_heap w R cc _ tt _ hh,?_,λr row j d e8 hj=>?_⟩
               .simp only[List.size_toArray,bt,List.length_append,List.length_take,List.length_drop,Array.length_toList]
                simp only[List.length_map,List.length_range]at ud⊢;omega
               rw[List.getElem?_toArray];unfold bt;have QO:(cc.toList.take p0).length=p0:=by
                rw[List.length_take,Array.length_toList];omega
               rcases cG r row e8 with⟨h2,h3⟩|⟨h2,h3⟩
               .have ng:j<te.size:=by rw[<-aI _ row h3];exact(List.getElem?_eq_some_iff.1 hj).1
                have h4:(r+1)*te.size<=len*te.size:=Nat.mul_le_mul_right _ h2;rw[Nat.add_mul,Nat.one_mul]at h4;have dv:b.o+off*te.size+(r*te.size+j)<p0:=by omega
                obtain⟨v,h5,h6⟩:=s5 _ row j d h3 hj;refine⟨v,?_,h6⟩;rw[List.getElem?_append_left (by rw[QO];exact dv),List.getElem?_take,if_pos dv];rw[Nat.add_mul]at h5;rw[show b.o+off*te.size+(r*te.size+j)=b.o+(off*te.size+r*te.size+j)by omega];simpa using h5
               obtain⟨v,h5,h6⟩:=cb.cell _ row j d h3 hj;refine⟨v,?_,h6⟩;have Hq:len*te.size<=r*te.size:=Nat.mul_le_mul_right _ h2;show(_:List Value)[b.o+off*te.size+(r*te.size+j)]?=some v;rw[List.getElem?_append_right (by rw[QO];omega),QO];have e':b.o+off*te.size+(r*te.size+j)-p0=(r-len)*te.size+j:=by rw[Nat.sub_mul];omega
               rw[e',List.getElem?_append_left (List.getElem?_eq_some_iff.1 h5).1];exact h5)
             refine⟨_,_,.set i (.rows false (g'+1) te.size all) (.sl i (g'+1) 0 all.length),aP,ze,_,bq,?_,⟨rfl,rfl⟩,cK _ _⟩;have:=Rel.sl (I:=I) (β:=λj=>if j=i then some ⟨b.R,false,g'+1,te.size,c,len+rows.length,b.o+off*te.size⟩else β j) (some ⟨R,b.o+off*b.sz,none⟩) c i (g'+1) 0 all.length ⟨b.R,false,g'+1,te.size,c,len+rows.length,b.o+off*te.size⟩ (by simp) rfl rfl (by simp) (by omega) (by show 0+all.length<=len+rows.length;omega) (λ_=>⟨R,hR,by simp[JP]⟩);rw[s6]at this⊢;simpa[nv]using this
            ·
             have MZ:(Builtin.firstCells te.size len (.slice A len c)).run P w.drew=.ok ((List.range (len*te.size)).map λn=>(match b.R with|some R=>(w.cell? ⟨R,b.o+off*te.size+n,none⟩).getD undef|none=>undef)).toArray w.drew:=by
              refine ko (w:=w) (λhp=>?_) (aB.drew _ w);obtain⟨R,hR,rfl⟩:=ha (by omega);refine⟨R,b.o+off*b.sz,rfl,λn xe=>?_⟩;obtain⟨cc,tt,hh,fS⟩:=JQ QM hR;have cG:b.o+off*te.size+n<cc.size:=by
               rw[fS];have h5:(off+len)*te.size<=b.cap*te.size:=Nat.mul_le_mul_right _ (by omega);rw[Nat.add_mul]at h5;omega
              simp[hR,JP,bO hh,Array.getElem?_eq_getElem cG]
             have UT:eE I te.size ((List.range (dP.length*te.size)).map λn=>(match b.R with|some R=>(w.cell? ⟨R,b.o+off*te.size+n,none⟩).getD undef|none=>undef)) dP:=by
              refine nJ (λr row e8=>aI _ _ (uy r row e8).2) λr row j d e8 hj=>?_;cases hR:b.R with
              |none=>
               rw[hR]at hm;have:=(uy r row e8).1;omega
              |some R=>
               rw[hR]at hm;obtain⟨cc,tt,hh,fS,s5⟩:=hm;obtain⟨v,h3,h4,h5⟩:=s5 _ row j d (uy r row e8).2 hj;have e':b.o+off*te.size+(r*te.size+j)=b.o+((off+r)*te.size+j):=by rw[Nat.add_mul];omega
               simp only[e',bO hh,h3,Option.getD_some];exact⟨h4,h5⟩
             rw[JU]at UT;obtain⟨z,hz,aP⟩:=gN (w:=w) h hd he h1 la h0 AM ty A xv len c rows.length vn (by omega) pg ld MZ (hf w.drew (aB.drew _ w));have Dt:=grownCap_ge w (len+rows.length) c e;have Pu:=UT.append cb;rw[cW]at Pu;have fp:=λβ=>r0 (β:=β) (e:=e) (c:=(((List.range (len*te.size)).map λn=>(match b.R with|some R=>(w.cell? ⟨R,b.o+off*te.size+n,none⟩).getD undef|none=>undef)).toArray++((List.range (rows.length*te.size)).map f).toArray++Builtin.zeroCells z.cells (grownCap w (len+rows.length) c e-(len+rows.length)))) (cap:=grownCap w (len+rows.length) c e)
              (more:=(Builtin.zeroCells z.cells (grownCap w (len+rows.length) c e-(len+rows.length))).toList) Pu s6 Dt (by simp) (by
               simp only[Array.size_append,gO,hz,List.size_toArray,List.length_map,List.length_range];rw[<-Nat.add_mul,<-Nat.add_mul];congr 1;omega) w.drew (g'+1)
             have bq:=hs.set ak hβ hb rfl (λ_ _ _ e=>by cases e) (b':=⟨some w.drew.heap.size,false,g'+1,te.size,grownCap w (len+rows.length) c e,len+rows.length,0⟩) (box':=.rows false (g'+1) te.size all)
              (((aB.drew _ w).trans (aB.alloc w.drew _)).mono λB hB=>hB.1) (λR hR=>by cases hR;exact .inr (Nat.le_refl _)) (hle _ rfl rfl) (fp _)
             refine⟨_,_,.set i (.rows false (g'+1) te.size all) (.sl i (g'+1) 0 all.length),aP,ze,_,bq,?_,⟨rfl,rfl⟩,cK _ _⟩;have:=Rel.sl (I:=I) (β:=λj=>if j=i then some ⟨some w.drew.heap.size,false,g'+1,te.size,grownCap w (len+rows.length) c e,len+rows.length,0⟩else β j) (some ⟨w.heap.size,0,none⟩) (grownCap w (len+rows.length) c e) i (g'+1) 0 all.length
              ⟨some w.drew.heap.size,false,g'+1,te.size,grownCap w (len+rows.length) c e,len+rows.length,0⟩ (by simp) rfl rfl (by simp) (by rw[s6];exact Dt) (by simp[s6]) (λ_=>⟨w.heap.size,rfl,by simp⟩)
             rw[s6]at this⊢;simpa[nv]using this
   |_=>exact hk.elim
end
end Go.V
