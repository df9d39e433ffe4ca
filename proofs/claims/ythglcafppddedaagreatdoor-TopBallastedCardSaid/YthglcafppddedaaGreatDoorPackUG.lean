/- What ballasted_holds leans on, part UG. No condition. -/
import Derived.Carry
import Derived.Laws.RangeString
import Derived.Test.YthglcafppddedaaGreatDoorPackUE
import Derived.Test.YthglcafppddedaaGreatDoorPackVA
import Derived.Test.YthglcafppddedaaGreatDoorPackUF

set_option linter.all false
namespace Go.V
open Go.RowKit
def aac(cx:Cx)(U:St)(N:Nat)(a:Act)(w:World):Prop:=
 ∃β I S,bf cx (λ_=>True) U β I S N a w/\∀i,i<U.boxes.length->(β i).isSome=true
theorem FW.round{F:Fence}(h:FW F){n:Nat}{P:Program}{l:Nat}{f:FuncId}{tmps:Array Value}{assign body:Code}{w:World}{R:Ending->World->Prop}(hr:RoundIn Fence.wide 0 P l f tmps assign body w R):
    RoundIn F n P l f tmps assign body w R:=by
  rcases h with rfl|⟨l,rfl⟩
  .exact⟨trivial,λc cs _=>hr.2 c cs (room_wide _)⟩
  exact⟨trivial,λc cs _=>hr.2 c cs (room_wide _)⟩
section
variable{P:Program}[aM]{sh:er}{ish:Nat->Bool}{T:Nat->Option TI}{cx:Cx}{U:St}{β:BE}{I:aW}{S:Nat->Prop}{N:Nat}{a:Act}{w:World}
omit [aM]in
theorem bf.last{V:Nat->Prop}(h:bf cx V U β I S N a w):∀i,(β i).isSome=true->i<U.boxes.length:=λi hi=>by
 obtain⟨b,hb⟩:=Option.isSome_iff_exists.1 hi;obtain⟨box,h1,_⟩:=h.bx i b hb;exact(List.getElem?_eq_some_iff.1 h1).1
omit [aM]in
theorem bf.fresh{V:Nat->Prop}(h:bf cx V U β I S N a w):β U.boxes.length=none:=by
 cases hb:β U.boxes.length with
 |none=>rfl
 |some b=>exact absurd (h.last _ (by simp[hb])) (Nat.lt_irrefl _)
omit [aM]in
theorem bf.round{V:Nat->Prop}{y':eG}{S':Nat->Prop}{w':World}{G:Nat->Prop}(h:bf cx V U β I S N a w)(hG:∀B,G B->(∃es c,w.heap[B]?=some (.map es c))/\(∀i b,β i=some b->b.R≠some B)/\(¬cx.dP B->∀off,I B off=none)/\¬cx.dP B)
    (hj:cx.J y' S' w')(k:aB (λk=>k<w.heap.size/\¬(cx.dP k/\Mem cx.I0 k)/\¬S k/\¬G k) w w')
    (hS:∀B,S' B->S B\/w.heap.size<=B\/G B)(NJ:∀B,S' B->B<w'.heap.size)(uv:bc cx.I0 w')(Bm:cx.Fr w'):bf cx V ⟨U.tmps,U.boxes,y'⟩ β I S' N a w':=by
  have eh:∀{B:Nat},B<w.heap.size->¬S B->¬G B->¬S' B:=λhB hn hg hs=>(hS _ hs).elim hn λh=>h.elim (λh=>by omega) hg;have U6:∀{i b R},β i=some b->b.R=some R->R<w.heap.size/\¬(cx.dP R/\Mem cx.I0 R)/\¬S R/\¬G R:=λ{i b R} hb hR=>by
   obtain⟨box,_,h2⟩:=h.bx i b hb;obtain⟨_,_,hh⟩:=h2.lt hR;exact⟨bo hh,λho=>(h.own i b R hb hR).1 ho.1,(h.own i b R hb hR).2,λhg=>(hG R hg).2.1 i b hb hR⟩
  refine{h with tm:=h.tm,agree:=?_,bx:=?_,own:=?_,clear:=h.clear,fr:=Bm,n0:=λB hB=>Nat.lt_of_lt_of_le (h.n0 B hB) k.size,j:=hj,sb:=NJ,sI:=?_,nt:=?_,marks:=?_}
  .refine⟨λB off v hv=>?_,h.agree.ex⟩
   by_cases hB:cx.dP B
   .rw[h.fV B off hB]at hv
    exact uv B off v hv
   have h1:=h.agree B off v hv;rw[k.cell ⟨cy h1,λho=>hB ho.1,h.sI B off v hv hB,λhg=>by rw[(hG B hg).2.2.1 hB off]at hv;cases hv⟩];exact h1
  .intro i b hb
   obtain⟨box,h1,h2⟩:=h.bx i b hb;refine⟨box,h1,h2.mono I.le_refl (BE.le_refl β) λR hR=>?_⟩;rcases hR with hR|hR
   .exact k.block R (U6 hb hR)
   cases box with
   |aJ=>
    obtain⟨bm,oE,A7⟩:=hR;exact k.block R (U6 oE A7)
   |_=>exact hR.elim
  .intro i b R hb hR
   obtain⟨h1,_,h2,h3⟩:=U6 hb hR;exact⟨(h.own i b R hb hR).1,eh h1 h2 h3⟩
  .intro B off v hv hB
   exact eh (cy (h.agree B off v hv)) (h.sI B off v hv hB) λhg=>by rw[(hG B hg).2.2.1 hB off]at hv;cases hv
  .rintro B(hB|hB)
   .rintro⟨c,hc⟩
    rcases hS B hB with h1|h1|h1
    .exact h.nt B (.inl h1) ⟨c,hc⟩
    .rw[h.agree.out h1]at hc;cases hc
    rw[(hG B h1).2.2.1 (hG B h1).2.2.2]at hc;cases hc
   exact h.nt B (.inr hB)
  intro d hd hD;obtain⟨R,h1,h2,h3,h4⟩:=h.marks d hd hD;have h5:¬G R:=λhg=>by
   obtain⟨⟨es,c,h6⟩,_⟩:=hG R hg;rw[h2]at h6;cases h6
  exact⟨R,h1,(k.block R ⟨bo h2,λho=>h3 ho.1,h4,h5⟩).trans h2,h3,eh (bo h2) h4 h5⟩
omit [aM]in
theorem bf.plus{V:Nat->Prop}(hs:bf cx V U β I S N a w){L:List Nat}(hL:∀(i:Nat)(box:af),i∈L->U.boxes[i]?=some box->box.fz=true):bf cx V U β (bQ L β w I) S N a w:=by
 have hle:=dU hs.agree L β;have bG:∀(B off:Nat),(∃i b,i∈L/\β i=some b/\b.R=some B)\/bQ L β w I B off=I B off:=λB off=>by
  unfold bQ;split
  .rename_i h;exact .inl h.1
  exact .inr rfl
 refine{hs with tm:=?_,agree:=db hs.agree L β,bx:=?_,clear:=?_,I0:=aW.le_trans hs.I0 hle,fV:=?_,sI:=?_,nt:=λB hB hm=>hs.nt B hB (oI hm),gh:=λv d hg=>(hs.gh v d hg).mono hle (BE.le_refl β),j:=hs.j,marks:=hs.marks,ep:=hs.ep,dn:=hs.dn,nd:=hs.nd}
 .intro t d hV hl
  obtain⟨v,hv,hr⟩:=hs.tm t d hV hl;exact⟨v,hv,hr.mono hle (BE.le_refl β)⟩
 .intro i b hb
  obtain⟨box,h1,h2⟩:=hs.bx i b hb;exact⟨box,h1,h2.mono hle (BE.le_refl β) λ_ _=>rfl⟩
 .intro i b R box hb hR aN ph off
  rcases bG R off with⟨j,c,hj,hc,nH⟩|h
  .obtain rfl:=hs.apart i j b c R hb hc hR nH
   rw[hL i box hj aN]at ph;cases ph
  rw[h];exact hs.clear i b R box hb hR aN ph off
 .intro B off hB
  rcases bG B off with⟨j,c,hj,hc,nH⟩|h
  .exact absurd hB (hs.own j c B hc nH).1
  rw[h];exact hs.fV B off hB
 intro B off v hv hB;rcases bG B off with⟨j,c,hj,hc,nH⟩|h
 .exact(hs.own j c B hc nH).2
 rw[h]at hv;exact hs.sI B off v hv hB
omit [aM]in
theorem aac.put{cx:Cx}{U:St}{N:Nat}{a:Act}{w:World}{β:BE}{I:aW}{S:Nat->Prop}(h:bf cx (λ_=>True) U β I S N a w)(ht:∀i,i<U.boxes.length->(β i).isSome=true){dst:Option Nat}{v:Value}{d:D}
    (hd:∀t,dst=some t->t<N)(hr:Rel I β v d):aac cx (U.put dst d) N (a.put dst v) w:=
  ⟨β,I,S,h.put hd λ_=>hr,by cases dst<;>exact ht⟩
theorem By(hT:br P T){F:Fence}(hF:FW F)(ak:cx.Ok)(hy:bB P cx)(hs:aac cx U N a w){n:Nat}{o:Oper}(bZ:∀t,o.dst=some t->t<N){k:bE->Prop}(hk:dC T (CD P sh) U o k)(cY:∀b y nb,k (.fO b y nb)->cx.lo<=nb)
    {next:Act->World->Prop}{Q:Exit->Act->World->Prop}(bU:∀e a' w',k e->aac cx (bJ U o.dst e) N a' w'->next a' w'):o.wpIn F n P a w next Q:=by
  obtain⟨β,I,S,hs,cK⟩:=hs;by_cases QB:∃c f l,o.op=.call c/\c.callee=.value f/\U.ev f=some (.j8 l)
  .obtain⟨c,f,l,ho,hc,hf⟩:=QB
   simp only[dC,ho,hc,hf]at hk;cases ha:U.jv c.args.toList with
   |none=>rw[ha]at hk;exact hk.elim
   |some as=>
    rw[ha]at hk;simp only at hk;cases pZ:U.y with
    |rem l' xs=>
     rw[pZ]at hk;cases xs with
     |nil=>exact hk.elim
     |cons x r=>
      have hfv:=(hs.ev (x:=f) (λt e=>trivial) hf).No;have h3:=hs.jv (λx t hx e=>trivial) ha;have uv:bc cx.I0 w:=hs.agree.of_le hs.I0;have hj:=hs.j;rw[pZ]at hj;have aP:∀{fn tmps assign body},(Instr.yield l (c.args.toList.map a.eval).toArray).run P w=.ok (.round l fn tmps assign body) w->(execOp a.eval o).run P w=.ok (.round l fn tmps assign body) w:=λ{fn tmps assign body} FY=>by
       unfold execOp;simp only[ho,resolve,hc,hfv,Deferred.ofValue,Sem.run_bind,Sem.run_pure,Result.andThen_ok,invoke];have e:(#[]:Array Value)++c.args.map a.eval=(c.args.toList.map a.eval).toArray:=by apply Array.toList_inj.1;simp
       rw[e];exact FY
      simp only at hk;split at hk
      .rename_i i
       split at hk
       .rename_i ks us aN
        obtain⟨rfl,rfl,hk⟩:=hk;obtain⟨Bz,xq,ze⟩:=ae hk;have Bz:bT ks=true/\bT us=true/\aS i (U.boxes.take i)=true:=by
         split at Bz
         .exact⟨by assumption,by assumption,Bz⟩
         cases Bz
        obtain⟨QX,Z9,du⟩:=Bz;obtain⟨av,hav,an⟩:=h3.k7;have Yy:∃b R,av=.map (some R)/\β i=some b/\b.R=some R:=by
         cases an with
         |cn _ b R h1 _ h2=>exact⟨b,R,rfl,h1,h2⟩
        obtain⟨b,R,rfl,jt,hR⟩:=Yy;obtain⟨box',dD,cV⟩:=hs.bx i b jt;rw[aN]at dD;cases dD;obtain⟨_,R',es,clock,dh,hh,zg,hm⟩:=cV;rw[hR]at dh;cases dh;obtain⟨T4,hnS⟩:=hs.own i b R jt hR;have U7:∀off,I R off=none:=hs.clear i b R _ jt hR aN rfl;have lM:cx.lo<=i:=cY _ _ _ xq;have J2:=hs.cut ak lM (tm:=DH i U.tmps) (λt d _ hl=>by
         rcases sc hl with⟨h1,h2⟩|⟨rfl,e,h1⟩
         .obtain⟨v,hv,hr⟩:=hs.tm t d trivial h1
          exact⟨v,hv,hr.ue i h2⟩
         obtain⟨v,hv,hr⟩:=hs.tm t e trivial h1;exact⟨v,hv,.eL v⟩) du
        obtain⟨fn,tmps,assign,body,FY,kr⟩:=hy l _ r S w _ _ _ hj hs.fr uv hs.n0 hs.sb hs.agree (.DQ R es clock ks us hh zg hm QX Z9 T4 hnS λoff=>by
         cases hv:cx.I0 R off with
         |none=>rfl
         |some v=>have:=hs.I0 R off v hv;rw[U7 off]at this;cases this)
        rw[<-hav]at FY;refine⟨λf _=>hF.fn f,?_⟩;rw[Oper.semAt_eq _ _ _ (by rw[ho];simp),aP FY];refine⟨λhh=>absurd hh (by rw[hF.depth];simp),(hF.round kr).mono ?_⟩;rintro e w'⟨b',S',rfl,xm,cL,hS,NJ,QY,zj⟩;have U8:∀{j c},eY i β j=some c->j<i/\β j=some c:=λ{j c} hj=>by
         unfold eY at hj;by_cases h:j<i
         .rw[if_pos h]at hj;exact⟨h,hj⟩
         rw[if_neg h]at hj;cases hj
        have bq:=J2.round (λB hB=>by
         subst hB;refine⟨⟨es,clock,hh⟩,λj c hj nH=>?_,λ_=>U7,T4⟩;obtain⟨h1,h2⟩:=U8 hj;have:=hs.apart j i c b _ h2 jt nH hR;omega) xm cL hS NJ QY zj
        have Py:∀j,j<(U.boxes.take i).length->(eY i β j).isSome=true:=λj hj=>by
         rw[List.length_take]at hj;unfold eY;rw[if_pos (by omega)];exact cK j (by omega)
        cases b' with
        |true=>exact bU (.fO true (.rem l r) i) _ _ xq (aac.put bq Py bZ .tt)
        |false=>exact bU (.fO false .gk i) _ _ ze (aac.put bq Py bZ .ff)
       exact hk.elim
      obtain⟨rfl,⟨rs,qB,rfl⟩,xq,ze⟩:=hk;have aq:=ft hs.agree hs.bx hs.Jc h3 qB;have vz:=db hs.agree (as.flatMap (aF U.boxes fuel)) β;obtain⟨fn,tmps,assign,body,FY,kr⟩:=hy l rs r S w _ _ _ hj hs.fr uv hs.n0 hs.sb vz (.plain _ _ aq λB off v hv=>by
       have bG:I B off=some v\/∃i b,β i=some b/\b.R=some B:=by
        unfold bQ at hv;split at hv
        .rename_i hx
         obtain⟨⟨i,b,_,hb,hR⟩,_⟩:=hx;exact .inr ⟨i,b,hb,hR⟩
        exact .inl hv
       by_cases hB:cx.dP B
       .rcases bG with hv|⟨i,b,hb,hR⟩
        .exact .inl ⟨hB,(hs.fV B off hB).symm.trans hv⟩
        exact((hs.own i b B hb hR).1 hB).elim
       rcases bG with hv|⟨i,b,hb,hR⟩
       .exact .inr ⟨hB,hs.sI B off v hv hB⟩
       exact .inr ⟨hB,(hs.own i b B hb hR).2⟩)
      refine⟨λf _=>hF.fn f,?_⟩;rw[Oper.semAt_eq _ _ _ (by rw[ho];simp),aP FY];refine⟨λhh=>absurd hh (by rw[hF.depth];simp),(hF.round kr).mono ?_⟩;rintro e w'⟨b,S',rfl,xm,cL,hS,NJ,QY,zj⟩;have bq:=hs.round (λB hB=>hB.elim) xm cL hS NJ QY zj;cases b with
      |true=>exact bU (.yielded true (.rem l r)) _ _ xq (aac.put bq cK bZ .tt)
      |false=>exact bU (.yielded false .gk) _ _ ze (aac.put bq cK bZ .ff)
    |_=>rw[pZ]at hk;exact hk.elim
  have mw:∀(k':bE->Prop),(∀e,k' e->k e)->dC T (CD P sh) U o k'->(dS o=true\/(∃x,o.op=.assign x)\/∃op t x y ls,o.op=.binOp op t x y ls)->((∀d bs y,¬k' (.dJ d bs y))\/∀c f fk fs cs,o.op=.call c->c.callee=.value f->U.ev f=some (.bR (.func fk) fs cs)->sh.sh fk=false\/sh.nw fk=true)->o.wpIn F n P a w next Q:=by
    intro k' rI bF hm QZ;refine oJ hT hF ak hs (λt _=>trivial) hm bF (.inr λc f l h1 h2 h3=>QB ⟨c,f,l,h1,h2,h3⟩) QZ ?_ ?_ ?_ ?_
    .intro d v hk hr
     exact bU (.val d) _ _ (rI _ hk) (aac.put hs cK bZ hr)
    .intro b mk v w' bi hk HB cL gT cV _ aq
     obtain⟨bq,hle⟩:=hs.Hr ak cL gT (bs:=U.boxes++[b]) (n:=U.boxes.length) (b:=b) (bi:=bi) hs.fresh (by simp) (λi hi=>List.getElem?_append_left (hs.last i hi))
      HB cV
     refine bU (.new b mk) _ _ (rI _ hk) (aac.put (U:=⟨U.tmps,U.boxes++[b],U.y⟩) bq ?_ bZ (aq _ _ (by simp)));intro i hi;by_cases hl:i=U.boxes.length
     .simp[hl]
     simp only[hl,if_false];exact cK i (by simp at hi;omega)
    .intro b mk L v w' bi I' hk HB cL hg gT cV _ aq
     have aaa:bf cx (λ_=>True) ⟨U.tmps,au U.boxes 0 L,U.y⟩ β I S N a w:=by
      refine hs.freeze (λi box hb=>?_) (aO _ _ _);rw[ck _ _ _ _ _ hb];split
      .exact .inr rfl
      exact .inl rfl
     obtain⟨Ds,bq,hle,jj⟩:=aaa.eo ak cL hg gT (jz U.boxes L) (bs:=au U.boxes 0 L++[b]) (n:=U.boxes.length) (b:=b) (bi:=bi) hs.fresh (by rw[<-aO U.boxes 0 L];simp) (λi hi=>List.getElem?_append_left (by rw[aO];exact hs.last i hi))
      HB cV (aq _ U.boxes.length (by simp))
     refine bU (.eo b mk L) _ _ (rI _ hk) (aac.put (U:=⟨U.tmps,au U.boxes 0 L++[b],U.y⟩) bq ?_ bZ jj);intro i hi;by_cases hl:i=U.boxes.length
     .simp[hl]
     simp only[hl,if_false];exact cK i (by have hi:i<(au U.boxes 0 L++[b]).length:=hi;rw[List.length_append,aO]at hi;simp at hi;omega)
    intro d as v w' I' hk cL hg gT hr;have ph:bf cx (λ_=>True) ⟨U.tmps,aK U.boxes d as,U.y⟩ β I S N a w:=by
     refine hs.freeze (λi box hb=>?_) ?_
     .unfold aK
      split
      .exact .inl hb
      rw[ck _ _ _ _ _ hb];split
      .exact .inr rfl
      exact .inl rfl
     unfold aK;split
     .rfl
     exact aO _ _ _
    obtain⟨Ds,bq,aq,_⟩:=ph.res ak cL hg gT hr (by
     by_cases hp:plain d=true
     .exact .inl hp
     refine .inr λi box hi hb=>?_;have hb:(aK U.boxes d as)[i]?=some box:=hb;unfold aK at hb;split at hb
     .rename_i HC;exact absurd HC hp
     have qp:i<U.boxes.length:=by
       have:=(List.getElem?_eq_some_iff.1 hb).1
       rwa[aO]at this
     rw[ck _ _ _ _ _ (List.getElem?_eq_getElem qp)]at hb;have:(as.flatMap (aF U.boxes fuel)).contains (0+i)=true:=by
      rw[Nat.zero_add];simpa using hi
     rw[this]at hb;cases hb;exact af.lO _)
    refine bU (.res d as) _ _ (rI _ hk) (aac.put (U:=⟨U.tmps,aK U.boxes d as,U.y⟩) bq ?_ bZ aq);intro i hi;refine cK i ?_;have hi:i<(aK U.boxes d as).length:=hi;unfold aK at hi;split at hi
    .exact hi
    rwa[aO]at hi
  by_cases MV:∃c f fk fs cs,o.op=.call c/\c.callee=.value f/\U.ev f=some (.bR (.func fk) fs cs)/\sh.sh fk=true/\sh.nw fk=false
  .obtain⟨c,f,fk,fs,cs,ho,hc,hf,uc,U9⟩:=MV
   simp only[dC,ho,hc,hf]at hk;cases ha:U.jv c.args.toList with
   |none=>rw[ha]at hk;exact hk.elim
   |some as=>
    rw[ha]at hk;simp only[uc,U9]at hk;rcases hk with⟨rs,qB,d,qC,hk⟩|⟨sel,jG,uU,Q',Ea,ph,jl,k6,qC,_,cW⟩
    .refine mw (λe=>k e/\∀d bs y,e≠.dJ d bs y) (λ_ h=>h.1) ?_ (.inl (by simp[dS,ho,hc])) (.inl λd bs y h=>h.2 d bs y rfl)
     simp only[dC,ho,hc,hf,ha,U9,uc];exact .inl ⟨rs,qB,d,qC,hk,λ_ _ _ e=>by cases e⟩
    obtain⟨vs,us,hv,h1,h2⟩:=(hs.ev (x:=f) (λt e=>trivial) hf).oD;have h3:=hs.jv (λx t hx e=>trivial) ha;have gi:=h1.append (h3.append h2);rw[<-jl]at gi;have gJ:=D9 ak hy hs cK Ea gi k6 ph qC;have aP:=gI (P:=P) (w:=w) ho hc hv qC.1;have rY:(vs++c.args.map a.eval)++us=(vs.toList++(c.args.toList.map a.eval++us.toList)).toArray:=by
     apply Array.toList_inj.1;simp
    rw[rY]at aP;refine qz hF (by rw[ho];simp) aP (R:=λv w'=>∃d bu y',Q' d bu y'/\∃β' I' S',bf cx (λ_=>True) ⟨U.tmps,ed U.boxes sel (bu.map (af.eg (jL sel U.boxes.length))),y'⟩ β' I' S' N a w'/\
     (∀i,i<(ed U.boxes sel (bu.map (af.eg (jL sel U.boxes.length)))).length->(β' i).isSome=true)/\Rel I' β' v (eg (jL sel U.boxes.length) d)) (gJ.mono ?_) ?_
    .rintro e w'⟨v,d,bu,y',rfl,hq,h⟩
     exact⟨v,rfl,d,bu,y',hq,h⟩
    rintro v w'⟨d,bu,y',hq,β',I',S',bq,mM,hr⟩;obtain⟨X,rfl,rI⟩:=cW d bu y' hq;exact bU (.dJ _ _ _) _ _ rI (aac.put bq mM bZ hr)
  by_cases hm:dS o=true\/(∃x,o.op=.assign x)\/∃op t x y ls,o.op=.binOp op t x y ls
  · exact mw k (λ_ h=>h) hk hm (.inr λc f fk fs cs h1 h2 h3=>by
      cases h:sh.sh fk with
      |false=>exact .inl rfl
      |true=>
       cases h':sh.nw fk with
       |true=>exact .inr rfl
       |false=>exact(MV ⟨c,f,fk,fs,cs,h1,h2,h3,h,h'⟩).elim)
  .unfold dC at hk
   cases ho:o.op with
   |store t p x=>
    simp only[ho]at hk;cases ht:T t with
    |none=>rw[ht]at hk;exact hk.elim
    |some ti=>
     cases hp:U.ev p with
     |none=>rw[ht,hp]at hk;exact hk.elim
     |some pd=>
      cases hx:U.ev x with
      |none=>rw[ht,hp,hx]at hk;exact hk.elim
      |some xd=>
       rw[ht,hp,hx]at hk;simp only at hk;cases kj:pR pd xd with
       |true=>
        rw[kj]at hk;obtain⟨w',i,b,aP,bF,bq⟩:=nI ak hs (hT _ _ ht) (hs.ev (λt e=>trivial) hp) (hs.ev (λt e=>trivial) hx) hk;refine gS hF (by rw[ho];simp) (w':=w') (by simp[execOp,ho,aP]) ?_;exact bU (.set i b .eL) _ _ bF (aac.put (U:=⟨U.tmps,U.boxes.set i b,U.y⟩) bq (λj hj=>cK j (by simpa using hj)) bZ (.eL _))
       |false=>
        rw[kj]at hk;obtain⟨d',gq,hk⟩:=hk;have ph:bf cx (λ_=>True) ⟨U.tmps,au U.boxes 0 (aF U.boxes fuel xd),U.y⟩ β I S N a w:=by
         refine hs.freeze (λi box hb=>?_) (aO _ _ _);rw[ck _ _ _ _ _ hb];split
         .exact .inr rfl
         exact .inl rfl
        have Va:=ph.plus (L:=aF U.boxes fuel xd) (λi box hi hb=>jz _ _ _ _ hi hb);have hr:=(jk hs.agree hs.bx hs.Jc (aF U.boxes fuel xd) fuel (hs.ev (λt e=>trivial) hx) gq λi hi=>hi).mono (β':=β) (aW.le_refl _) (nA _);obtain⟨w',i,b,aP,bF,bq⟩:=nI ak Va (hT _ _ ht) (Va.ev (x:=p) (λt e=>trivial) hp) hr hk;refine gS hF (by rw[ho];simp) (w':=w') (by simp[execOp,ho,aP]) ?_;exact bU (.dJ .eL ((au U.boxes 0 (aF U.boxes fuel xd)).set i b) U.y) _ _ bF (aac.put (U:=⟨U.tmps,(au U.boxes 0 (aF U.boxes fuel xd)).set i b,U.y⟩) bq (λj hj=>cK j (by simpa[aO]using hj)) bZ (.eL _))
   |call c=>
    simp only[ho]at hk;cases hc:c.callee with
    |value f=>exact(hm (.inl (by simp[dS,ho,hc]))).elim
    |builtin b=>
     rw[hc]at hk;simp only at hk;cases ha:U.jv c.args.toList with
     |none=>rw[ha]at hk;exact hk.elim
     |some as=>
      rw[ha]at hk;have gi:=hs.jv (λx t hx e=>trivial) ha;have jl:(c.args.map a.eval)=(c.args.toList.map a.eval).toArray:=by apply Array.toList_inj.1;simp
      cases b with
      |append=>
       simp only at hk;cases as with
       |nil=>exact hk.elim
       |cons s as=>
        cases as with
        |nil=>exact hk.elim
        |cons x as=>
         cases as with
         |cons y as=>exact hk.elim
         |nil=>
          simp only at hk;unfold typeAt at hk;cases h0:c.argTypes[0]? with
          |none=>rw[h0]at hk;exact hk.elim
          |some t0=>
           cases h1:c.argTypes[1]? with
           |none=>
            rw[h0,h1]at hk;simp only at hk;cases vm:T t0<;>rw[vm]at hk<;>exact hk.elim
           |some t1=>
            rw[h0,h1]at hk;simp only at hk;cases vm:T t0 with
            |none=>rw[vm]at hk;exact hk.elim
            |some ti=>
             cases NK:T t1 with
             |none=>rw[vm,NK]at hk;exact hk.elim
             |some tx=>
              rw[vm,NK]at hk;simp only at hk;cases la:xg tx.desc with
              |true=>
               rw[la]at hk;simp only at hk;cases hd:ti.desc with
               |slice e=>
                rw[hd]at hk;simp only[eN]at hk;cases eU:T e with
                |none=>rw[eU]at hk;exact hk.elim
                |some te=>
                 rw[eU]at hk;simp only at hk;obtain⟨dw,hk⟩:=ae hk;cases HD:Nat.blt 0 te.size with
                 |false=>rw[HD]at dw;cases dw
                 |true=>
                  rw[HD]at dw;obtain⟨sv,oz,oG,Ht,J3⟩:=gi.cons_inv;obtain⟨xv,rU,ub⟩:=J3.k7;rw[oG,rU]at jl;obtain⟨v,w',pn,aP,bF,β',bq,aq,Vb,mM⟩:=qF ak hs (hT _ _ vm) hd (hT _ _ eU) (hT _ _ NK) la h0 h1 o.type (Nat.blt_eq▸HD) (Nat.blt_eq▸dw) Ht ub hs.last hk;refine cz hF (by rw[ho];simp) (v:=v) (w':=w') ?_ ?_
                  .simp only[execOp,ho,resolve,hc,Sem.run_bind,Sem.run_pure,Result.andThen_ok,invoke,builtin,jl]
                   rw[aP];rfl
                  refine bU pn _ _ bF ?_;have:=aac.put (U:=⟨U.tmps,cD U pn,U.y⟩) bq (λi hi=>mM.1 i hi (cK i)) bZ aq;unfold bJ;rw[Vb.1,Vb.2];exact this
               |_=>rw[hd]at hk;exact hk.elim
              |false=>rw[la]at hk;exact hk.elim
      |clear=>
       simp only at hk;cases as with
       |nil=>exact hk.elim
       |cons x as=>
        cases as with
        |cons y as=>exact hk.elim
        |nil=>
         simp only at hk;unfold typeAt at hk;cases h0:c.argTypes[0]? with
         |none=>rw[h0]at hk;exact hk.elim
         |some t0=>
          rw[h0]at hk;simp only at hk;cases vm:T t0 with
          |none=>rw[vm]at hk;exact hk.elim
          |some ti=>
           rw[vm]at hk;simp only at hk;cases hd:ti.desc with
           |slice e=>
            rw[hd]at hk;simp only[eN]at hk;cases eU:T e with
            |none=>rw[eU]at hk;exact hk.elim
            |some te=>
             rw[eU]at hk;simp only at hk;obtain⟨xv,rU,ub⟩:=gi.k7;rw[rU]at jl;obtain⟨w',pn,aP,bF,bG⟩:=Bn ak hs (hT _ _ vm) hd (hT _ _ eU) ub hk h0 o.type;have aP:(Builtin.clear_ c.argTypes o.type [xv].toArray).run P w=.ok (.tuple #[]) w':=aP;refine cz hF (by rw[ho];simp) (v:=.tuple #[]) (w':=w') ?_ ?_
             .simp only[execOp,ho,resolve,hc,Sem.run_bind,Sem.run_pure,Result.andThen_ok,invoke,builtin,jl]
              rw[aP];rfl
             rcases bG with⟨rfl,rfl⟩|⟨i,b,rfl,bq⟩
             .exact bU (.val (.b9 [])) _ _ bF (aac.put hs cK bZ (Rel.ji bn.nil))
             exact bU (.set i b (.b9 [])) _ _ bF (aac.put (U:=⟨U.tmps,U.boxes.set i b,U.y⟩) bq (λj hj=>cK j (by simpa using hj)) bZ (Rel.ji bn.nil))
           |_=>rw[hd]at hk;exact hk.elim
      |len|min|max=>exact(hm (.inl (by simp[dS,ho,hc]))).elim
      |_=>exact hk.elim
    |invoke r m=>rw[hc]at hk;exact hk.elim
   |assign x=>exact(hm (.inr (.inl ⟨x,ho⟩))).elim
   |binOp op t x y ls=>exact(hm (.inr (.inr ⟨_,_,_,_,_,ho⟩))).elim
   |lookup t x i ok=>
    simp only[ho]at hk;cases ht:T t with
    |none=>rw[ht]at hk;exact hk.elim
    |some ti=>
     cases hx:U.ev x with
     |none=>rw[ht,hx]at hk;exact hk.elim
     |some m=>
      cases hi:U.ev i with
      |none=>rw[ht,hx,hi]at hk;exact hk.elim
      |some key=>
       rw[ht,hx,hi]at hk;simp only at hk;cases hd:ti.desc with
       |map kt et=>
        rw[hd]at hk;simp only at hk;cases mf:T kt with
        |none=>rw[mf]at hk;exact hk.elim
        |some tk=>
         cases eU:T et with
         |none=>rw[mf,eU]at hk;exact hk.elim
         |some te=>
          rw[mf,eU]at hk;simp only at hk;obtain⟨hint,hk⟩:=ae hk;have rH:=hs.ev (x:=x) (λt e=>trivial) hx;have T5:=hs.ev (x:=i) (λt e=>trivial) hi;have fin:∀{r:Option Nat}{es:List MapEntry}{ks vs:List D},a.eval x=.map r->(match r with|none=>es=[]|some R=>∃clock,w.heap[R]?=some (.map es.toArray clock))->es.length=ks.length->es.length=vs.length->
             (∀(i:Nat)(e:MapEntry)(d:D),es[i]?=some e->ks[i]?=some d->Rel I dM e.key d)->(∀(i:Nat)(e:MapEntry)(d:D),es[i]?=some e->vs[i]?=some d->Rel I dM e.val d)->
             eZ ks vs key (kT te) ok k->o.wpIn F n P a w next Q:=by
            intro r es ks vs iu h1 h2 h3 h4 h5 h6;obtain⟨v,d,aP,bF,hr⟩:=s7 (hT _ _ ht) hd (hT _ _ mf) (hT _ _ eU) hint h1 h2 h3 h4 h5 T5 h6;refine cz hF (by rw[ho];simp) (v:=v) (w':=w) (by simp[execOp,ho,iu,aP]) ?_;exact bU (.val d) _ _ bF (aac.put hs cK bZ hr)
          cases m with
          |fh=>
           have iu:a.eval x=.map none:=by
            revert rH
            generalize a.eval x=y
            intro rH;cases rH;rfl
           exact fin (es:=[]) iu rfl rfl rfl (λi e d he=>by simp at he) (λi e d he=>by simp at he) hk
          |nk ks vs=>
           have iu:∃R es,a.eval x=.map (some R)/\I R 0=some (A5 (List.toArray es))/\es.length=ks.length/\es.length=vs.length/\
               (∀(i:Nat)(e:MapEntry)(d:D),es[i]?=some e->ks[i]?=some d->Rel I dM e.key d)/\(∀(i:Nat)(e:MapEntry)(d:D),es[i]?=some e->vs[i]?=some d->Rel I dM e.val d):=by
             revert rH
             generalize a.eval x=y
             intro rH;cases rH with
             |nk R es _ _ h1 h2 h3 h4 h5 h6=>exact⟨R,es,rfl,h1,h3,h4,h5,h6⟩
           obtain⟨R,es,iu,hI,h3,h4,h5,h6⟩:=iu;exact fin iu (G9 (hs.agree _ _ _ hI)) h3 h4 h5 h6 hk
          |cn j=>
           simp only at hk;cases hb:U.boxes[j]? with
           |none=>rw[hb]at hk;exact hk.elim
           |some box=>
            rw[hb]at hk;cases box with
            |flat=>exact hk.elim
            |rows=>exact hk.elim
            |aA=>exact hk.elim
            |aJ=>exact hk.elim
            |map fz ks vs=>
             have iu:∃b R,a.eval x=.map (some R)/\β j=some b/\b.R=some R:=by
              revert rH
              generalize a.eval x=y
              intro rH;cases rH with
              |cn _ b R h1 _ h2=>exact⟨b,R,rfl,h1,h2⟩
             obtain⟨b,R,iu,Z1,hR⟩:=iu;obtain⟨box',dD,cV⟩:=hs.bx j b Z1;rw[hb]at dD;cases dD;obtain⟨_,R',es,clock,dh,hh,_,hm⟩:=cV;rw[hR]at dh;cases dh;exact fin (es:=es.toList) iu ⟨clock,by simpa using hh⟩ hm.kl hm.vl hm.k hm.v hk
          |dY c=>
           obtain⟨v,d,aP,bF,hr⟩:=Bx hs.agree (hT _ _ ht) hd (hT _ _ mf) (hT _ _ eU) hint rH T5 hk;refine cz hF (by rw[ho];simp) (v:=v) (w':=w) (by simp[execOp,ho,aP]) ?_;exact bU (.val d) _ _ bF (aac.put hs cK bZ hr)
          |_=>exact hk.elim
       |_=>rw[hd]at hk;exact hk.elim
   |range t x=>
    simp only[ho]at hk;cases ht:T t with
    |none=>rw[ht]at hk;exact hk.elim
    |some ti=>
     cases hx:U.ev x with
     |none=>rw[ht,hx]at hk;exact hk.elim
     |some d=>
      rw[ht,hx]at hk;cases d with
      |str s=>
       simp only at hk;cases hd:ti.desc with
       |string=>
        rw[hd]at hk;simp only at hk;have iu:a.eval x=.string s:=(hs.ev (x:=x) (λt e=>trivial) hx).ir;have hu:P.underlying t=some .string:=hd▸(hT t ti ht).desc;refine cz hF (by rw[ho];simp) (v:=.pointer (some ⟨w.heap.size,0,none⟩)) (w':=w.iter s 0) (by unfold execOp;simp only[ho,iu,Sem.run_bind];rw[run_range_string w t s hu];rfl) ?_;obtain⟨bq,hle⟩:=hs.new ak (aB.alloc w _) (bs:=U.boxes++[.aA false s 0]) (n:=U.boxes.length) (b:=.aA false s 0) (bi:=⟨some w.heap.size,true,0,0,0,0,0⟩) hs.fresh (by simp) (λi hi=>List.getElem?_append_left (hs.last i hi))
         (λR' dh=>by cases dh;exact Nat.le_refl _) (.inl ⟨rfl,rfl,_,rfl,by rw[r9 (by omega)];exact World.alloc_heap_new w _⟩)
        refine bU (.new (.aA false s 0) λi=>.iY i) _ _ hk (aac.put (U:=⟨U.tmps,U.boxes++[.aA false s 0],U.y⟩) bq ?_ bZ (.iY _ ⟨some w.heap.size,true,0,0,0,0,0⟩ w.heap.size (by simp) rfl rfl));intro i hi;by_cases hl:i=U.boxes.length
        .simp[hl]
        simp only[hl,if_false];exact cK i (by simp at hi;omega)
       |_=>rw[hd]at hk;exact hk.elim
      |cn j=>
       simp only at hk;cases hd:ti.desc with
       |map kt et=>
        cases aN:U.boxes[j]? with
        |none=>rw[hd,aN]at hk;exact hk.elim
        |some box=>
        rw[hd,aN]at hk;cases box with
        |map fz ks vs=>
         simp only at hk;obtain⟨ob,aP,cV⟩:=Hx hs (hd▸(hT t ti ht).desc) (hs.ev (x:=x) (λt e=>trivial) hx) aN;refine cz hF (by rw[ho];simp) (v:=.pointer (some ⟨w.heap.size,0,none⟩)) (w':=w.alloc ob) (by unfold execOp;simp only[ho,Sem.run_bind];rw[aP];rfl) ?_;obtain⟨bq,hle⟩:=hs.new ak (aB.alloc w ob) (bs:=U.boxes++[.aJ false j ks vs []]) (n:=U.boxes.length) (b:=.aJ false j ks vs []) (bi:=⟨some w.heap.size,true,0,0,0,0,0⟩) hs.fresh (by simp) (λi hi=>List.getElem?_append_left (hs.last i hi))
          (λR' dh=>by cases dh;exact Nat.le_refl _) (cV β (BE.le_refl β))
         refine bU (.new (.aJ false j ks vs []) λi=>.iY i) _ _ hk (aac.put (U:=⟨U.tmps,U.boxes++[.aJ false j ks vs []],U.y⟩) bq ?_ bZ (.iY _ ⟨some w.heap.size,true,0,0,0,0,0⟩ w.heap.size (by simp) rfl rfl));intro i hi;by_cases hl:i=U.boxes.length
         .simp[hl]
         simp only[hl,if_false];exact cK i (by simp at hi;omega)
        |_=>exact hk.elim
       |_=>rw[hd]at hk;exact hk.elim
      |_=>exact hk.elim
   |next x str=>
    simp only[ho]at hk;cases str with
    |false=>
     cases hx:U.ev x with
     |none=>rw[hx]at hk;exact hk.elim
     |some d=>
      rw[hx]at hk;cases d with
      |iY i=>
       simp only at hk;cases hb:U.boxes[i]? with
       |none=>rw[hb]at hk;exact hk.elim
       |some box=>
        rw[hb]at hk;cases box with
        |aJ fz j ks vs seen=>
         cases fz with
         |true=>exact hk.elim
         |false=>
         simp only at hk;obtain⟨w1,Bu,d,e,aP,bF,bq,aq⟩:=JW ak hs (hs.ev (x:=x) (λt e=>trivial) hx) hb hk o.type;refine cz hF (by rw[ho];simp) (v:=e) (w':=w1) (by unfold execOp;simp only[ho,Sem.run_bind];rw[aP];rfl) ?_;exact bU (.set i (.aJ false j ks vs Bu) d) _ _ bF (aac.put (U:=⟨U.tmps,U.boxes.set i (.aJ false j ks vs Bu),U.y⟩) bq (λj hj=>cK j (by simpa using hj)) bZ aq)
        |_=>exact hk.elim
      |_=>exact hk.elim
    |true=>
     cases hx:U.ev x with
     |none=>rw[hx]at hk;exact hk.elim
     |some d=>
      rw[hx]at hk;cases d with
      |iY i=>
       simp only at hk;cases hb:U.boxes[i]? with
       |none=>rw[hb]at hk;exact hk.elim
       |some box=>
        rw[hb]at hk;cases box with
        |aA fz s pos=>
         cases fz with
         |true=>exact hk.elim
         |false=>
         simp only at hk;obtain⟨w1,pos',d,e,aP,bF,bq,aq⟩:=D5 ak hs (hs.ev (x:=x) (λt e=>trivial) hx) hb hk o.type;refine cz hF (by rw[ho];simp) (v:=e) (w':=w1) (by unfold execOp;simp only[ho,Sem.run_bind];rw[aP];rfl) ?_;exact bU (.set i (.aA false s pos') d) _ _ bF (aac.put (U:=⟨U.tmps,U.boxes.set i (.aA false s pos'),U.y⟩) bq (λj hj=>cK j (by simpa using hj)) bZ aq)
        |_=>exact hk.elim
      |_=>exact hk.elim
   |entry x=>
    simp only[ho]at hk;cases hx:U.ev x with
    |none=>rw[hx]at hk;exact hk.elim
    |some d=>
     rw[hx]at hk;cases d with
     |iY i=>
      simp only at hk;cases hb:U.boxes[i]? with
      |none=>rw[hb]at hk;exact hk.elim
      |some box=>
       rw[hb]at hk;cases box with
       |aJ fz j ks vs seen=>
        cases seen with
        |nil=>exact hk.elim
        |cons q seen=>
         simp only at hk;obtain⟨kd,vd,jY,Nw,hk⟩:=hk;obtain⟨e,aP,aq⟩:=Hy (P:=P) hs (hs.ev (x:=x) (λt e=>trivial) hx) hb jY Nw;refine cz hF (by rw[ho];simp) (v:=e) (w':=w) (by unfold execOp;simp only[ho,Sem.run_bind];rw[aP];rfl) ?_;exact bU (.val (.b9 [kd,vd])) _ _ hk (aac.put hs cK bZ aq)
       |_=>exact hk.elim
     |_=>exact hk.elim
   |mapUpdate t x i y=>
    simp only[ho]at hk;cases ht:T t with
    |none=>rw[ht]at hk;exact hk.elim
    |some ti=>
     cases hx:U.ev x with
     |none=>rw[ht,hx]at hk;exact hk.elim
     |some m=>
      cases hi:U.ev i with
      |none=>rw[ht,hx,hi]at hk;exact hk.elim
      |some key=>
       cases uf:U.ev y with
       |none=>rw[ht,hx,hi,uf]at hk;exact hk.elim
       |some v=>
        rw[ht,hx,hi,uf]at hk;simp only at hk;cases hd:ti.desc with
        |map kt et=>
         rw[hd]at hk;simp only at hk;cases mf:T kt with
         |none=>rw[mf]at hk;exact hk.elim
         |some tk=>
          rw[mf]at hk;simp only at hk;split at hk
          .rename_i c
           obtain⟨w',aP,bF,M3,gT⟩:=tc hs.agree (hT _ _ ht) hd (hT _ _ mf) (hs.ev (λt e=>trivial) hx) (hs.ev (λt e=>trivial) hi) (hs.ev (λt e=>trivial) uf) hk;refine gS hF (by rw[ho];simp) (w':=w') (by simp[execOp,ho,aP]) ?_;exact bU (.res .eL []) _ _ bF (aac.put (U:=U) (hs.xT ak M3 gT) cK bZ (.eL _))
          obtain⟨w',i',b,aP,bF,bq⟩:=s8 ak hs (hT _ _ ht) hd (hT _ _ mf) (hs.ev (λt e=>trivial) hx) (hs.ev (λt e=>trivial) hi) (hs.ev (λt e=>trivial) uf) hk;refine gS hF (by rw[ho];simp) (w':=w') (by simp[execOp,ho,aP]) ?_;exact bU (.set i' b .eL) _ _ bF (aac.put (U:=⟨U.tmps,U.boxes.set i' b,U.y⟩) bq (λj hj=>cK j (by simpa using hj)) bZ (.eL _))
        |_=>rw[hd]at hk;exact hk.elim
   |insert t x i y=>
    simp only[ho]at hk;cases ht:T t with
    |none=>rw[ht]at hk;exact hk.elim
    |some ti=>
     cases hx:U.ev x with
     |none=>rw[ht,hx]at hk;exact hk.elim
     |some m=>
      cases hi:U.ev i with
      |none=>rw[ht,hx,hi]at hk;exact hk.elim
      |some key=>
       cases uf:U.ev y with
       |none=>rw[ht,hx,hi,uf]at hk;exact hk.elim
       |some v=>
        rw[ht,hx,hi,uf]at hk;simp only at hk;cases hd:ti.desc with
        |map kt et=>
         rw[hd]at hk;simp only at hk;cases mf:T kt with
         |none=>rw[mf]at hk;exact hk.elim
         |some tk=>
          rw[mf]at hk;simp only at hk;split at hk
          .rename_i c
           obtain⟨w',aP,bF,M3,gT⟩:=tc hs.agree (hT _ _ ht) hd (hT _ _ mf) (hs.ev (λt e=>trivial) hx) (hs.ev (λt e=>trivial) hi) (hs.ev (λt e=>trivial) uf) hk;refine gS hF (by rw[ho];simp) (w':=w') (by simp[execOp,ho,aP]) ?_;exact bU (.res .eL []) _ _ bF (aac.put (U:=U) (hs.xT ak M3 gT) cK bZ (.eL _))
          obtain⟨w',i',b,aP,bF,bq⟩:=s8 ak hs (hT _ _ ht) hd (hT _ _ mf) (hs.ev (λt e=>trivial) hx) (hs.ev (λt e=>trivial) hi) (hs.ev (λt e=>trivial) uf) hk;refine gS hF (by rw[ho];simp) (w':=w') (by simp[execOp,ho,aP]) ?_;exact bU (.set i' b .eL) _ _ bF (aac.put (U:=⟨U.tmps,U.boxes.set i' b,U.y⟩) bq (λj hj=>cK j (by simpa using hj)) bZ (.eL _))
        |_=>rw[hd]at hk;exact hk.elim
   |_=>first|(rw[ho]at hk;exact hk.elim)|(refine absurd (Or.inl ?_) hm;simp[dS,ho];done)
omit [aM]in
theorem aac.to{d d':D}{dst:Option Nat}(h:aac cx (U.put dst d) N a w)(hr:∀{I β v},Rel I β v d->Rel I β v d'):aac cx (U.put dst d') N a w:=by
 cases dst with
 |none=>exact h
 |some t=>
  obtain⟨β,I,S,hs,ht⟩:=h;refine⟨β,I,S,{hs with tm:=?_,bx:=hs.bx,clear:=hs.clear,j:=hs.j},ht⟩;intro u e hu he;simp only[St.put,look]at he;cases hb:Nat.beq t u with
  |true=>
   rw[hb]at he;cases he;obtain⟨v,hv,an⟩:=hs.tm u d trivial (by simp only[St.put,look];rw[hb]);exact⟨v,hv,hr an⟩
  |false=>
   rw[hb]at he;exact hs.tm u e trivial (by simp only[St.put,look];rw[hb];exact he)
theorem lg(hT:br P T){F:Fence}(hF:FW F)(ak:cx.Ok)(hy:bB P cx)(hs:aac cx U N a w){n:Nat}{o:Oper}(bZ:∀t,o.dst=some t->t<N){fb:bE->Bool}{g:Bool}{K:St->Prop}(cY:∀b y nb,fb (.fO b y nb)=false->cx.lo<=nb)
    (hk:ik T (CD P sh) fb g U o K){next:Act->World->Prop}{Q:Exit->Act->World->Prop}(bU:∀σ' a' w',K σ'->aac cx σ' N a' w'->next a' w'):o.wpIn F n P a w next Q:=by
  rw[AV]at hk;unfold yU at hk;refine By hT hF ak hy hs bZ hk (λb y nb hk=>cY b y nb (by
   unfold nx at hk;cases h:fb (.fO b y nb)with
   |true=>rw[h]at hk;exact hk.elim
   |false=>rfl)) λe a' w' hk dW=>?_
  unfold nx at hk;cases Dv:fb e with
  |true=>rw[Dv]at hk;exact hk.elim
  |false=>
  rw[Dv]at hk;simp only at hk;cases e with
  |val d=>
   cases g with
   |false=>exact bU _ _ _ hk dW
   |true=>
    cases d with
    |bool b=>
     cases b with
     |true=>exact bU _ _ _ (hk.1 rfl) (aac.to dW λh=>by cases h;exact .tt)
     |false=>exact bU _ _ _ (hk.2 rfl) (aac.to dW λh=>by cases h;exact .ff)
    |_=>exact bU _ _ _ hk dW
  |res d as=>
   cases g with
   |false=>exact bU _ _ _ hk dW
   |true=>
    cases d with
    |bool b=>
     cases b with
     |true=>exact bU _ _ _ (hk.1 rfl) (aac.to dW λh=>by cases h;exact .tt)
     |false=>exact bU _ _ _ (hk.2 rfl) (aac.to dW λh=>by cases h;exact .ff)
    |_=>exact bU _ _ _ hk dW
  |new b mk=>cases g<;>exact bU _ _ _ hk dW
  |set i b d=>cases g<;>exact bU _ _ _ hk dW
  |yielded b y=>cases g<;>exact bU _ _ _ hk dW
  |eo b mk L=>cases g<;>exact bU _ _ _ hk dW
  |fO b y nb=>cases g<;>exact bU _ _ _ hk dW
  |dJ d bs y=>
   cases g with
   |false=>exact bU _ _ _ hk dW
   |true=>
    cases d with
    |bool b=>
     cases b with
     |true=>exact bU _ _ _ (hk.1 rfl) (aac.to dW λh=>by cases h;exact .tt)
     |false=>exact bU _ _ _ (hk.2 rfl) (aac.to dW λh=>by cases h;exact .ff)
    |_=>exact bU _ _ _ hk dW
omit [aM]in
theorem aac.cq{ops:Array Oper}{j:Nat}(hs:aac cx U N a w)(h:cq ops.toList U j=true):yielded ops a.tmps j=none:=by
 obtain⟨β,I,S,hs,_⟩:=hs;unfold V.cq at h;unfold yielded;have e:ops[j]?=ops.toList[j]?:=by simp
 rw[e];cases ho:ops.toList[j]? with
 |none=>rw[ho]at h;cases h
 |some o=>
  rw[ho]at h;simp only at h;cases hd:o.dst with
  |none=>rw[hd]at h;cases h
  |some t=>
   rw[hd]at h;simp only at h;cases hl:look U.tmps t with
   |none=>rw[hl]at h;cases h
   |some d=>
    rw[hl]at h;obtain⟨v,hv,hr⟩:=hs.tm t d trivial hl;cases d<;>first|(cases h;done)|skip
    cases hr;simp[hd,hv]
omit [aM]in
theorem aac.guardOf{ops:Array Oper}{j:Nat}{b:Bool}(hs:aac cx U N a w)(h:guardOf ops.toList U j=some b):yielded ops a.tmps j=some b:=by
 obtain⟨β,I,S,hs,_⟩:=hs;unfold V.guardOf at h;unfold yielded;have e:ops[j]?=ops.toList[j]?:=by simp
 rw[e];cases ho:ops.toList[j]? with
 |none=>rw[ho]at h;cases h
 |some o=>
  rw[ho]at h;simp only at h;cases hd:o.dst with
  |none=>rw[hd]at h;cases h
  |some t=>
   rw[hd]at h;simp only at h;cases hl:look U.tmps t with
   |none=>rw[hl]at h;cases h
   |some d=>
    rw[hl]at h;obtain⟨v,hv,hr⟩:=hs.tm t d trivial hl;cases d<;>first|(cases h;done)|skip
    .cases h;cases hr;simp[hd,hv]
    cases h;cases hr;simp[hd,hv]
omit [aM]in
theorem aac.skip(hs:aac cx U N a w){dst:Option Nat}(bZ:∀t,dst=some t->t<N):aac cx (U.put dst .j7) N (a.put dst undef) w:=by
 obtain⟨β,I,S,hs,ht⟩:=hs;exact aac.put hs ht bZ .j7
theorem zp(hT:br P T){F:Fence}(hF:FW F)(ak:cx.Ok)(hy:bB P cx){n:Nat}{ops:Array Oper}(bZ:∀o∈ops.toList,∀t,o.dst=some t->t<N){fb:bE->Bool}{K:St->Prop}(cY:∀b y nb,fb (.fO b y nb)=false->cx.lo<=nb)
    {Q:Exit->Act->World->Prop}(hQ:∀σ' a' w',K σ'->aac cx σ' N a' w'->Q .normal a' w'):
    ∀(rest:List Oper)(i:Nat)(U:St)(a:Act)(w:World),ops.toList.drop i=rest->aac cx U N a w->aL T (CD P sh) fb ops.toList rest i U K->wpOpsIn F n P ops Q (List.range' i rest.length) a w:=by
  intro rest
  induction rest with
  |nil=>intro i U a w _ hs hk;exact hQ U a w hk hs
  |cons o rest ih=>
   intro i U a w sZ hs hk;have xr:ops[i]?=some o:=by
    have:(ops.toList.drop i)[0]?=some o:=by rw[sZ];rfl
    simpa using this
   have eH:ops.toList.drop (i+1)=rest:=by
    have:(ops.toList.drop i).drop 1=rest:=by rw[sZ];rfl
    simpa[List.drop_drop,Nat.add_comm]using this
   have eX:o∈ops.toList:=List.mem_of_getElem? (by simpa using xr);have hd:=bZ o eX;have step:∀g,ik T (CD P sh) fb g U o (λσ'=>aL T (CD P sh) fb ops.toList rest (i+1) σ' K)->o.wpIn F n P a w (wpOpsIn F n P ops Q (List.range' (i+1) rest.length)) Q:=
    λg h=>lg hT hF ak hy hs hd cY h λσ' a' w' bF fu=>ih (i+1) σ' a' w' eH fu bF
   have skip:aL T (CD P sh) fb ops.toList rest (i+1) (U.put o.dst .j7) K->(∀f,o.about P w a.eval=some f->F.fn f)/\wpOpsIn F n P ops Q (List.range' (i+1) rest.length) (a.put o.dst undef) w:=
    λh=>⟨λf _=>hF.fn f,ih (i+1) _ _ w eH (hs.skip hd) h⟩
   simp only[List.length_cons,List.range'_succ,wpOpsIn,xr];simp only[aL]at hk;cases hg:o.guard with
   |none=>
    rw[hg]at hk;rw[if_pos (by simp[Region.wanted,hg])];exact step _ hk
   |some jw=>
    obtain⟨j,want⟩:=jw;rw[hg]at hk;simp only at hk;cases hu:V.cq ops.toList U j with
    |true=>
     rw[hu]at hk;rw[if_neg (by simp[Region.wanted,hg,hs.cq hu])];exact skip hk
    |false=>
     rw[hu]at hk;simp only at hk;cases ho:V.guardOf ops.toList U j with
     |none=>rw[ho]at hk;exact hk.elim
     |some b=>
      rw[ho]at hk;have hb:=hs.guardOf ho;cases b<;>cases want<;>simp only at hk
      .rw[if_pos (by simp[Region.wanted,hg,hb])];exact step _ hk
      .rw[if_neg (by simp[Region.wanted,hg,hb])];exact skip hk
      .rw[if_neg (by simp[Region.wanted,hg,hb])];exact skip hk
      rw[if_pos (by simp[Region.wanted,hg,hb])];exact step _ hk
theorem Ee(hT:br P T){F:Fence}(hF:FW F)(ak:cx.Ok)(hy:bB P cx){n:Nat}{ops:Array Oper}(bZ:∀o∈ops.toList,∀t,o.dst=some t->t<N){fb:bE->Bool}{K:St->Prop}(cY:∀b y nb,fb (.fO b y nb)=false->cx.lo<=nb)
    {Q:Exit->Act->World->Prop}{tl:List Nat}(hQ:∀σ' a' w',K σ'->aac cx σ' N a' w'->wpOpsIn F n P ops Q tl a' w'):
    ∀(rest:List Oper)(i:Nat)(U:St)(a:Act)(w:World),(∀j o,rest[j]?=some o->ops[i+j]?=some o)->aac cx U N a w->aL T (CD P sh) fb ops.toList rest i U K->wpOpsIn F n P ops Q (List.range' i rest.length++tl) a w:=by
  intro rest
  induction rest with
  |nil=>intro i U a w _ hs hk;exact hQ U a w hk hs
  |cons o rest ih=>
   intro i U a w sZ hs hk;have xr:ops[i]?=some o:=sZ 0 o rfl;have eH:∀j o',rest[j]?=some o'->ops[i+1+j]?=some o':=λj o' h=>by
    have:=sZ (j+1) o' (by simpa using h);rw[show i+1+j=i+(j+1)by omega];exact this
   have eX:o∈ops.toList:=List.mem_of_getElem? (by simpa using xr);have hd:=bZ o eX;have step:∀g,ik T (CD P sh) fb g U o (λσ'=>aL T (CD P sh) fb ops.toList rest (i+1) σ' K)->o.wpIn F n P a w (wpOpsIn F n P ops Q (List.range' (i+1) rest.length++tl)) Q:=
    λg h=>lg hT hF ak hy hs hd cY h λσ' a' w' bF fu=>ih (i+1) σ' a' w' eH fu bF
   have skip:aL T (CD P sh) fb ops.toList rest (i+1) (U.put o.dst .j7) K->(∀f,o.about P w a.eval=some f->F.fn f)/\wpOpsIn F n P ops Q (List.range' (i+1) rest.length++tl) (a.put o.dst undef) w:=
    λh=>⟨λf _=>hF.fn f,ih (i+1) _ _ w eH (hs.skip hd) h⟩
   simp only[List.length_cons,List.range'_succ,List.cons_append,wpOpsIn,xr];simp only[aL]at hk;cases hg:o.guard with
   |none=>
    rw[hg]at hk;rw[if_pos (by simp[Region.wanted,hg])];exact step _ hk
   |some jw=>
    obtain⟨j,want⟩:=jw;rw[hg]at hk;simp only at hk;cases hu:V.cq ops.toList U j with
    |true=>
     rw[hu]at hk;rw[if_neg (by simp[Region.wanted,hg,hs.cq hu])];exact skip hk
    |false=>
     rw[hu]at hk;simp only at hk;cases ho:V.guardOf ops.toList U j with
     |none=>rw[ho]at hk;exact hk.elim
     |some b=>
      rw[ho]at hk;have hb:=hs.guardOf ho;cases b<;>cases want<;>simp only at hk
      .rw[if_pos (by simp[Region.wanted,hg,hb])];exact step _ hk
      .rw[if_neg (by simp[Region.wanted,hg,hb])];exact skip hk
      .rw[if_neg (by simp[Region.wanted,hg,hb])];exact skip hk
      rw[if_pos (by simp[Region.wanted,hg,hb])];exact step _ hk
end
end Go.V
namespace Go.V
open Go.RowKit
def Bg(bs bu:List af):Prop:=∀(i:Nat)(box:af),bs[i]?=some box->bu[i]?=some box\/bu[i]?=some box.freeze
theorem Bg.refl(bs:List af):Bg bs bs:=λ_ _ h=>.inl h
theorem af.xt(b:af):b.freeze.freeze=b.freeze:=by cases b<;>rfl
theorem Bg.trans{a b c:List af}(h:Bg a b)(k:Bg b c):Bg a c:=λi box hb=>by
 rcases h i box hb with h1|h1
 .exact k i _ h1
 rcases k i _ h1 with h2|h2
 .exact .inr h2
 exact .inr (by rw[h2,af.xt])
theorem Bg.flat{bs bu:List af}(h:Bg bs bu){i:Nat}{fz:Bool}{cs:List D}(hb:bs[i]?=some (.flat fz cs)):∃xp,bu[i]?=some (.flat xp cs):=by
 rcases h i _ hb with h|h
 .exact⟨_,h⟩
 exact⟨_,h⟩
theorem Bg.rows{bs bu:List af}(h:Bg bs bu){i:Nat}{fz:Bool}{g sz:Nat}{rs:List (List D)}(hb:bs[i]?=some (.rows fz g sz rs)):∃xp,bu[i]?=some (.rows xp g sz rs):=by
 rcases h i _ hb with h|h
 .exact⟨_,h⟩
 exact⟨_,h⟩
theorem Bg.map{bs bu:List af}(h:Bg bs bu){i:Nat}{fz:Bool}{ks vs:List D}(hb:bs[i]?=some (.map fz ks vs)):∃xp,bu[i]?=some (.map xp ks vs):=by
 rcases h i _ hb with h|h
 .exact⟨_,h⟩
 exact⟨_,h⟩
theorem bS{b:Bool}{p:Prop}(hb:b=true)(h:p):dK b p:=by subst hb;exact h
theorem HE{ti:TI}{bs:List af}{p:D}{k:bE->Prop}(hk:fy ti bs p k):∃e,k e/\(∃d,e=.val d)/\∀bu,Bg bs bu->∀k':bE->Prop,k' e->fy ti bu p k':=by
 unfold fy at hk;cases p with
 |loc i off=>
  simp only at hk;cases hb:bs[i]? with
  |none=>rw[hb]at hk;exact hk.elim
  |some box=>
   rw[hb]at hk;cases box with
   |rows=>exact hk.elim
   |map=>exact hk.elim
   |aA=>exact hk.elim
   |aJ=>exact hk.elim
   |flat fz cells=>
    simp only at hk;cases ha:ti.agg with
    |true=>
     rw[ha]at hk;simp only at hk;cases hr:cQ cells off ti.size with
     |none=>rw[hr]at hk;exact hk.elim
     |some d=>
      rw[hr]at hk;simp only[ax]at hk;refine⟨_,hk,⟨_,rfl⟩,λbu h k' bF=>?_⟩;obtain⟨xp,h'⟩:=h.flat hb;simp only[fy,h',ha,hr,ax];exact bF
    |false=>
     rw[ha]at hk;simp only at hk;cases hr:cells[off]? with
     |none=>rw[hr]at hk;exact hk.elim
     |some d=>
      rw[hr]at hk;refine⟨_,hk,⟨_,rfl⟩,λbu h k' bF=>?_⟩;obtain⟨xp,h'⟩:=h.flat hb;simp only[fy,h',ha,hr];exact bF
 |bH i off=>
  simp only at hk;cases hb:bs[i]? with
  |none=>rw[hb]at hk;exact hk.elim
  |some box=>
   rw[hb]at hk;cases box with
   |rows=>exact hk.elim
   |map=>exact hk.elim
   |aA=>exact hk.elim
   |aJ=>exact hk.elim
   |flat fz cells=>
    simp only at hk;cases ha:ti.agg with
    |true=>
     rw[ha]at hk;obtain⟨cs,h1,h2,hk⟩:=hk;refine⟨_,hk,⟨_,rfl⟩,λbu h k' bF=>?_⟩;obtain⟨xp,h'⟩:=h.flat hb;simp only[fy,h',ha];exact⟨cs,h1,h2,bF⟩
    |false=>
     rw[ha]at hk;obtain⟨d,h1,hk⟩:=hk;refine⟨_,hk,⟨_,rfl⟩,λbu h k' bF=>?_⟩;obtain⟨xp,h'⟩:=h.flat hb;simp only[fy,h',ha];exact⟨d,h1,bF⟩
 |ro cells=>
  simp only at hk;cases ha:ti.agg with
  |true=>
   rw[ha]at hk;simp only at hk;cases hr:cQ cells 0 ti.size with
   |none=>rw[hr]at hk;exact hk.elim
   |some d=>
    rw[hr]at hk;simp only[ax]at hk;refine⟨_,hk,⟨_,rfl⟩,λbu h k' bF=>?_⟩;simp only[fy,ha,hr,ax];exact bF
  |false=>
   rw[ha]at hk;cases cells with
   |nil=>exact hk.elim
   |cons d r=>
    refine⟨_,hk,⟨_,rfl⟩,λbu h k' bF=>?_⟩;simp only[fy,ha];exact bF
 |bM i g r off=>
  simp only at hk;cases hb:bs[i]? with
  |none=>rw[hb]at hk;exact hk.elim
  |some box=>
   rw[hb]at hk;cases box with
   |flat=>exact hk.elim
   |map=>exact hk.elim
   |aA=>exact hk.elim
   |aJ=>exact hk.elim
   |rows fz g' sz rs=>
    simp only at hk;obtain⟨hg,row,aI,hk⟩:=ae hk;cases ha:ti.agg with
    |true=>
     rw[ha]at hk;simp only at hk;cases hr:cQ row off ti.size with
     |none=>rw[hr]at hk;exact hk.elim
     |some d=>
      rw[hr]at hk;simp only[ax]at hk;refine⟨_,hk,⟨_,rfl⟩,λbu h k' bF=>?_⟩;obtain⟨xp,h'⟩:=h.rows hb;simp only[fy,h',ha];exact bS hg ⟨row,aI,by rw[hr];first|exact bF|(simp only[ax];exact bF)⟩
    |false=>
     rw[ha]at hk;simp only at hk;cases hr:row[off]? with
     |none=>rw[hr]at hk;exact hk.elim
     |some d=>
      rw[hr]at hk;refine⟨_,hk,⟨_,rfl⟩,λbu h k' bF=>?_⟩;obtain⟨xp,h'⟩:=h.rows hb;simp only[fy,h',ha];exact bS hg ⟨row,aI,by rw[hr];first|exact bF|(simp only[ax];exact bF)⟩
 |_=>exact hk.elim
theorem vC{p:D}{off:Nat}{k:bE->Prop}(hk:eA p off k):∃e,k e/\(∃d,e=.val d)/\∀k':bE->Prop,k' e->eA p off k':=by
 unfold eA at hk;cases p<;>first|exact hk.elim|exact⟨_,hk,⟨_,rfl⟩,λk' h=>h⟩|(simp only[ba]at hk;exact⟨_,hk,⟨_,rfl⟩,λk' h=>by simp only[eA,ba];exact h⟩)
theorem J4{ti:TI}{op:BinOp}{x y:D}{k:D->Prop}(hk:jN ti op x y k):∃d,k d/\∀k':D->Prop,k' d->jN ti op x y k':=by
 unfold jN at hk;split at hk
 .cases op
  case shl|shr=>
   obtain⟨h0,r,hr,hk⟩:=hk;exact⟨_,hk,λk' h=>⟨h0,r,hr,h⟩⟩
  case quo|rem=>
   obtain⟨hs,hz,r,hr,hk⟩:=ae hk;exact⟨_,hk,λk' h=>bS hs ⟨hz,r,hr,h⟩⟩
  case add|sub|mul|and|or|xor|andNot=>
   obtain⟨hs,r,hr,hk⟩:=ae hk;exact⟨_,hk,λk' h=>bS hs ⟨r,hr,h⟩⟩
  case eql|neq|lss|leq|gtr|geq=>
   obtain⟨hs,hk⟩:=ae hk;exact⟨_,hk,λk' h=>bS hs h⟩
 .cases op<;>first|exact hk.elim|exact⟨_,hk.2,λk' h=>⟨hk.1,h⟩⟩|exact⟨_,hk,λk' h=>h⟩
 .split at hk
  .rename_i h1 h2
   obtain⟨hs,hk⟩:=ae hk;exact⟨_,hk,λk' h=>by simp only[jN,h1,h2];exact bS hs h⟩
  .rename_i h1 h2
   obtain⟨hs,hk⟩:=ae hk;exact⟨_,hk,λk' h=>by simp only[jN,h1,h2];exact bS hs h⟩
  exact hk.elim
 rename_i g1 g2 g3;have put:∀k':D->Prop,(match(generalizing:=false) rJ x y with
     |some b=>(match(generalizing:=false) ti.desc,op with
      |.pointer _,.eql=>k' (.bool b)
      |.pointer _,.neq=>k' (.bool (!b))
      |_,_=>False)
     |none=>match(generalizing:=false) ti.desc,op,di x,di y with
      |.bool,.eql,some a,some b=>k' (.bool (a==b))
      |.bool,.neq,some a,some b=>k' (.bool (!(a==b)))
      |_,_,_,_=>False)->jN ti op x y k':=λk' h=>by
   unfold jN;split
   .exact(g1 _ _ _ _ rfl rfl).elim
   .exact(g2 _ _ rfl rfl).elim
   .exact(g3 _ _ rfl rfl).elim
   exact h
 split at hk
 .rename_i h0
  split at hk
  .rename_i h1;exact⟨_,hk,λk' h=>put k' (by rw[h0];simp only[h1];exact h)⟩
  .rename_i h1;exact⟨_,hk,λk' h=>put k' (by rw[h0];simp only[h1];exact h)⟩
  exact hk.elim
 rename_i h0;split at hk
 .rename_i h4 h5 h6;exact⟨_,hk,λk' h=>put k' (by rw[h0];simp only[h4,h5,h6];exact h)⟩
 .rename_i h4 h5 h6;exact⟨_,hk,λk' h=>put k' (by rw[h0];simp only[h4,h5,h6];exact h)⟩
 exact hk.elim
theorem J5{l:List D}{k:D->Prop}(hk:yS l k):∃d,k d/\∀k':D->Prop,k' d->yS l k':=by
 unfold yS at hk;split at hk
 .obtain⟨hs,hk⟩:=ae hk
  exact⟨_,hk,λk' h=>bS hs h⟩
 .obtain⟨hs,hk⟩:=ae hk
  exact⟨_,hk,λk' h=>bS hs h⟩
 exact hk.elim
theorem J6{l:List D}{k:D->Prop}(hk:AR l k):∃d,k d/\∀k':D->Prop,k' d->AR l k':=by
 unfold AR at hk;split at hk
 .obtain⟨hs,hk⟩:=ae hk
  exact⟨_,hk,λk' h=>bS hs h⟩
 exact hk.elim
theorem J7{x:D}{k:D->Prop}(hk:DE x k):∃d,k d/\∀k':D->Prop,k' d->DE x k':=by
 unfold DE at hk;cases x<;>first|exact hk.elim|exact⟨_,hk,λk' h=>h⟩
theorem vD{bs:List af}{desc:TypeDesc}{es:Nat}{lit:Bool}{p i:D}{k:bE->Prop}(hk:eB bs desc es lit p i k):
    ∃e,k e/\(∃d,e=.val d)/\∀bu,Bg bs bu->∀k':bE->Prop,k' e->eB bu desc es lit p i k':=by
  unfold eB at hk;cases i with
  |int ki n=>
   simp only at hk;cases desc with
   |array len e=>
    obtain⟨hn,hk⟩:=hk;cases p with
    |loc b o=>
     cases lit with
     |true=>simp only[ba]at hk;exact⟨_,hk,⟨_,rfl⟩,λbu _ k' h=>⟨hn,by simp only[ba];exact h⟩⟩
     |false=>
      obtain⟨m,hm,hk⟩:=hk;exact⟨_,hk,⟨_,rfl⟩,λbu _ k' h=>⟨hn,m,hm,h⟩⟩
    |bH b o=>
     obtain⟨m,hm,hk⟩:=hk;exact⟨_,hk,⟨_,rfl⟩,λbu _ k' h=>⟨hn,m,hm,h⟩⟩
    |bM b g r o=>
     cases lit with
     |true=>exact⟨_,hk,⟨_,rfl⟩,λbu _ k' h=>⟨hn,h⟩⟩
     |false=>exact hk.elim
    |ro cs=>
     obtain⟨m,hm,hk⟩:=hk;exact⟨_,hk,⟨_,rfl⟩,λbu _ k' h=>⟨hn,m,hm,h⟩⟩
    |gp g o=>
     obtain⟨m,hm,hk⟩:=hk;exact⟨_,hk,⟨_,rfl⟩,λbu _ k' h=>⟨hn,m,hm,h⟩⟩
    |_=>exact hk.elim
   |slice e=>
    cases p with
    |list sz rows=>
     obtain⟨hs,hn,row,aI,hk⟩:=ae hk;exact⟨_,hk,⟨_,rfl⟩,λbu _ k' h=>bS hs ⟨hn,row,aI,h⟩⟩
    |sl b g off len=>
     simp only at hk;cases hb:bs[b]? with
     |none=>rw[hb]at hk;exact hk.elim
     |some box=>
      rw[hb]at hk;cases box with
      |flat=>exact hk.elim
      |map=>exact hk.elim
      |aA=>exact hk.elim
      |aJ=>exact hk.elim
      |rows fz g' sz rs=>
       obtain⟨hs,hn,xe,m,hm,hk⟩:=ae hk;refine⟨_,hk,⟨_,rfl⟩,λbu h' k' h=>?_⟩;obtain⟨xp,h'⟩:=h'.rows hb;simp only[eB,h'];exact bS hs ⟨hn,xe,m,hm,h⟩
    |gj b off sz len=>
     obtain⟨hs,hn,xe,m,hm,hk⟩:=ae hk;exact⟨_,hk,⟨_,rfl⟩,λbu _ k' h=>bS hs ⟨hn,xe,m,hm,h⟩⟩
    |_=>exact hk.elim
   |_=>exact hk.elim
  |_=>exact hk.elim
theorem vE{bs:List af}{desc:TypeDesc}{es:Nat}{p:D}{lo hi:Option D}{k:bE->Prop}(hk:jx bs desc es p lo hi k):
    ∃e,k e/\(∃d,e=.val d)/\∀bu,Bg bs bu->∀k':bE->Prop,k' e->jx bu desc es p lo hi k':=by
  unfold jx at hk;cases desc with
  |slice e=>
   simp only at hk;cases p with
   |list sz rows=>
    obtain⟨hs,hk⟩:=ae hk;split at hk
    .exact⟨_,hk,⟨_,rfl⟩,λbu _ k' h=>bS hs h⟩
    .obtain⟨hn,l,hl,hk⟩:=hk
     exact⟨_,hk,⟨_,rfl⟩,λbu _ k' h=>bS hs ⟨hn,l,hl,h⟩⟩
    .obtain⟨hn,l,hl,hk⟩:=hk
     exact⟨_,hk,⟨_,rfl⟩,λbu _ k' h=>bS hs ⟨hn,l,hl,h⟩⟩
    .obtain⟨hn,l,hl,hk⟩:=hk
     exact⟨_,hk,⟨_,rfl⟩,λbu _ k' h=>bS hs ⟨hn,l,hl,h⟩⟩
    exact hk.elim
   |sl i g off len=>
    simp only at hk;cases hb:bs[i]? with
    |none=>rw[hb]at hk;exact hk.elim
    |some box=>
     rw[hb]at hk;cases box with
     |flat=>exact hk.elim
     |map=>exact hk.elim
     |aA=>exact hk.elim
     |aJ=>exact hk.elim
     |rows fz g' sz rs=>
      obtain⟨hs,hk⟩:=ae hk;split at hk
      .refine⟨_,hk,⟨_,rfl⟩,λbu h' k' h=>?_⟩
       obtain⟨xp,h'⟩:=h'.rows hb;simp only[jx,h'];exact bS hs h
      .refine⟨_,hk.2,⟨_,rfl⟩,λbu h' k' h=>?_⟩
       obtain⟨xp,h'⟩:=h'.rows hb;simp only[jx,h'];exact bS hs ⟨hk.1,h⟩
      .refine⟨_,hk.2,⟨_,rfl⟩,λbu h' k' h=>?_⟩
       obtain⟨xp,h'⟩:=h'.rows hb;simp only[jx,h'];exact bS hs ⟨hk.1,h⟩
      .refine⟨_,hk.2,⟨_,rfl⟩,λbu h' k' h=>?_⟩
       obtain⟨xp,h'⟩:=h'.rows hb;simp only[jx,h'];exact bS hs ⟨hk.1,h⟩
      exact hk.elim
   |gj i off sz len=>
    obtain⟨hs,hk⟩:=ae hk;obtain⟨l,h',_,_,hk,_,_,hm⟩:=qq hk;exact⟨_,hk,⟨_,rfl⟩,λbu _ k' h=>bS hs (hm (λl h=>k' (.val (.gj i (off+l*sz) sz (h-l)))) h)⟩
   |_=>exact hk.elim
  |array n e=>
   cases p with
   |loc i off=>
    obtain⟨l,h',_,_,hk,_,_,hm⟩:=qq hk;exact⟨_,hk,⟨_,rfl⟩,λbu _ k' h=>hm (λl h=>k' (.val (.gj i (off+l*es) es (h-l)))) h⟩
   |_=>exact hk.elim
  |_=>exact hk.elim
theorem p1{f g:D->Option D}:∀{ds es:List D},bY f ds=some es->(∀d e,d∈ds->f d=some e->g d=some e)->bY g ds=some es
 |[],es,h,_=>h
 |d::r,es,h,hfg=>by
  simp only[bY]at h⊢;cases h1:f d with
  |none=>rw[h1]at h;cases h
  |some x=>
   rw[h1]at h;cases h2:bY f r with
   |none=>rw[h2]at h;cases h
   |some l=>
    rw[h2]at h;rw[hfg d x (by simp) h1,p1 h2 λd e hd=>hfg d e (by simp[hd])];exact h
theorem nN{f:D->Option D}:∀{ds es:List D},bY f ds=some es->∀d,d∈ds->∃e,f d=some e
 |[],_,_,d,hd=>by cases hd
 |d::r,es,h,x,hx=>by
  simp only[bY]at h;cases h1:f d with
  |none=>rw[h1]at h;cases h
  |some y=>
   rw[h1]at h;cases h2:bY f r with
   |none=>rw[h2]at h;cases h
   |some l=>
    rcases List.mem_cons.1 hx with rfl|hx
    .exact⟨y,h1⟩
    exact nN h2 x hx
theorem px{l:List D}{f g:D->List Nat}(h:∀d,d∈l->f d=g d):l.flatMap f=l.flatMap g:=by
 induction l with
 |nil=>rfl
 |cons d r ih=>simp only[List.flatMap_cons];rw[h d (by simp),ih λe he=>h e (by simp[he])]
theorem vF{bs bu:List af}(hb:Bg bs bu):∀(n:Nat){d d':D},reify bs n d=some d'->reify bu n d=some d'/\aF bu n d=aF bs n d:=by
 intro n
 induction n with
 |zero=>intro d d' h;cases h
 |succ n ih=>
  intro d d' h;have list:∀{ds es:List D},bY (reify bs n) ds=some es->bY (reify bu n) ds=some es/\ds.flatMap (aF bu n)=ds.flatMap (aF bs n):=λ{ds es} hm=>
   ⟨p1 hm λd e _ he=>(ih he).1,px λd hd=>let⟨e,he⟩:=nN hm d hd;(ih he).2⟩
  cases d with
  |agg cs=>
   simp only[reify]at h;cases hm:bY (reify bs n) cs with
   |none=>rw[hm]at h;cases h
   |some l=>
    rw[hm]at h;simp only[reify,aF];rw[(list hm).1,(list hm).2];exact⟨h,rfl⟩
  |b9 cs=>
   simp only[reify]at h;cases hm:bY (reify bs n) cs with
   |none=>rw[hm]at h;cases h
   |some l=>
    rw[hm]at h;simp only[reify,aF];rw[(list hm).1,(list hm).2];exact⟨h,rfl⟩
  |bR fn fs cs=>
   simp only[reify]at h;cases hm:bY (reify bs n) fs with
   |none=>rw[hm]at h;cases h
   |some l=>
    rw[hm]at h;cases Dr:bY (reify bs n) cs with
    |none=>rw[Dr]at h;cases h
    |some l'=>
     rw[Dr]at h;simp only[reify,aF];rw[(list hm).1,(list hm).2,(list Dr).1,(list Dr).2];exact⟨h,rfl⟩
  |loc i off|bH i off=>
   simp only[reify]at h;cases jt:bs[i]? with
   |none=>rw[jt]at h;cases h
   |some box=>
    rw[jt]at h;cases box with
    |rows=>cases h
    |map=>cases h
    |aA=>cases h
    |aJ=>cases h
    |flat fz cells=>
     simp only at h;cases hm:bY (reify bs n) (cells.drop off)with
     |none=>rw[hm]at h;cases h
     |some l=>
      rw[hm]at h;obtain⟨xp,h'⟩:=hb.flat jt;simp only[reify,aF,h',jt];rw[(list hm).1,(list hm).2];exact⟨h,rfl⟩
  |gj i off sz len=>
   simp only[reify]at h;cases jt:bs[i]? with
   |none=>rw[jt]at h;cases h
   |some box=>
    rw[jt]at h;cases box with
    |rows=>cases h
    |map=>cases h
    |aA=>cases h
    |aJ=>cases h
    |flat fz cells=>
     simp only at h;cases hf:fits cells off (len*sz)with
     |false=>rw[hf]at h;cases h
     |true=>
      rw[hf]at h;cases hm:bY (reify bs n) ((cells.drop off).take (len*sz))with
      |none=>rw[hm]at h;cases h
      |some l=>
       rw[hm]at h;obtain⟨xp,h'⟩:=hb.flat jt;simp only[reify,aF,h',jt,hf];rw[(list hm).1,(list hm).2];exact⟨h,rfl⟩
  |sl i g off len=>
   simp only[reify]at h;cases jt:bs[i]? with
   |none=>rw[jt]at h;cases h
   |some box=>
    rw[jt]at h;cases box with
    |flat=>cases h
    |map=>cases h
    |aA=>cases h
    |aJ=>cases h
    |rows fz g' sz rs=>
     obtain⟨xp,h'⟩:=hb.rows jt;simp only[reify,aF,h'];exact⟨h,trivial⟩
  |cn i=>
   simp only[reify]at h;cases jt:bs[i]? with
   |none=>rw[jt]at h;cases h
   |some box=>
    rw[jt]at h;cases box with
    |flat=>cases h
    |rows=>cases h
    |aA=>cases h
    |aJ=>cases h
    |map fz ks vs=>
     obtain⟨xp,h'⟩:=hb.map jt;simp only[reify,aF,h'];exact⟨h,trivial⟩
  |eL|j7|j8|bM|iY=>cases h
  |_=>exact⟨h,rfl⟩
theorem lj{bs bu:List af}(hb:Bg bs bu){ds es:List D}(h:fi bs ds=some es):fi bu ds=some es/\ds.flatMap (aF bu fuel)=ds.flatMap (aF bs fuel):=
 ⟨p1 h λ_ _ _ he=>(vF hb fuel he).1,px λd hd=>let⟨_,he⟩:=nN h d hd;(vF hb fuel he).2⟩
structure Le(o:Oper)(U σ':St):Prop where
 ev:∀x,x∈o.op.operands.toList->σ'.ev x=U.ev x
 bs:Bg U.boxes σ'.boxes
theorem jZ{U σ':St}:∀{xs:List Operand},(∀x,x∈xs->σ'.ev x=U.ev x)->σ'.jv xs=U.jv xs
 |[],_=>rfl
 |x::r,h=>by simp only[St.jv];rw[h x (by simp),jZ λy hy=>h y (by simp[hy])]
theorem sd{U σ':St}:∀{xs:List (Nat×Operand)},(∀x,x∈xs.map (·.2)->σ'.ev x=U.ev x)->σ'.AK xs=U.AK xs
 |[],_=>rfl
 |(i,x)::r,h=>by simp only[St.AK];rw[h x (by simp),sd λy hy=>h y (by simp only[List.map_cons,List.mem_cons];exact .inr hy)]
def Je(U:St):bE->Prop
 |.val _=>True
 |.new b _=>b.fz=false
 |.res _ as=>∃rs,fi U.boxes as=some rs
 |_=>False
theorem F0{T:Nat->Option TI}{C:xa}{U:St}{o:Oper}(hm:dS o=true){k:bE->Prop}(hy:(∀b y,¬k (.yielded b y))/\∀b y nb,¬k (.fO b y nb))(QZ:∀d bs y,¬k (.dJ d bs y))(M4:∀b mk L,¬k (.eo b mk L))(hk:dC T C U o k):
    ∃e,k e/\Je U e/\∀σ',Le o U σ'->∀k':bE->Prop,k' e->dC T C σ' o k':=by
  have fin:∀{e:bE},k e->Je U e->(∀σ',Le o U σ'->∀k':bE->Prop,k' e->dC T C σ' o k')->∃e,k e/\Je U e/\∀σ',Le o U σ'->∀k':bE->Prop,k' e->dC T C σ' o k':=λh1 h2 h3=>⟨_,h1,h2,h3⟩;have abO:∀{p:bE->Prop},(∃e,k e/\(∃d,e=.val d)/\p e)->∃e,k e/\Je U e/\p e:=λ⟨e,h1,⟨d,h2⟩,h3⟩=>⟨e,h1,by rw[h2];trivial,h3⟩;unfold dC at hk;cases ho:o.op with
  |move x|assign x=>
   simp only[ho]at hk;cases hx:U.ev x with
   |none=>rw[hx]at hk;exact hk.elim
   |some d=>
    rw[hx]at hk;refine fin hk trivial λσ' hl k' h=>?_;simp only[dC,ho,hl.ev x (by simp[ho,Op.operands]),hx];exact h
  |pick c x y=>
   simp only[ho]at hk;have dv:c∈o.op.operands.toList/\x∈o.op.operands.toList/\y∈o.op.operands.toList:=by simp[ho,Op.operands]
   cases hc:U.ev c with
   |none=>rw[hc]at hk;exact hk.elim
   |some dc=>
    rw[hc]at hk;cases dc with
    |tt=>
     simp only at hk;cases hx:U.ev x with
     |none=>rw[hx]at hk;exact hk.elim
     |some d=>
      rw[hx]at hk;refine fin hk trivial λσ' hl k' h=>?_;simp only[dC,ho,hl.ev c dv.1,hl.ev x dv.2.1,hc,hx];exact h
    |ff=>
     simp only at hk;cases hx:U.ev y with
     |none=>rw[hx]at hk;exact hk.elim
     |some d=>
      rw[hx]at hk;refine fin hk trivial λσ' hl k' h=>?_;simp only[dC,ho,hl.ev c dv.1,hl.ev y dv.2.2,hc,hx];exact h
    |bool b=>
     simp only at hk;cases b with
     |true=>
      have hk:=hk.1 rfl;cases hx:U.ev x with
      |none=>rw[hx]at hk;exact hk.elim
      |some d=>
       rw[hx]at hk;refine fin hk trivial λσ' hl k' h=>?_;simp only[dC,ho,hl.ev c dv.1,hl.ev x dv.2.1,hc,hx];exact⟨λ_=>h,(λhh=>by cases hh)⟩
     |false=>
      have hk:=hk.2 rfl;cases hx:U.ev y with
      |none=>rw[hx]at hk;exact hk.elim
      |some d=>
       rw[hx]at hk;refine fin hk trivial λσ' hl k' h=>?_;simp only[dC,ho,hl.ev c dv.1,hl.ev y dv.2.2,hc,hx];exact⟨(λhh=>by cases hh),λ_=>h⟩
    |_=>exact hk.elim
  |alloc t=>
   simp only[ho]at hk;cases ht:T t with
   |none=>rw[ht]at hk;exact hk.elim
   |some ti=>
    rw[ht]at hk;refine fin hk (show(l5 t ti).fz=false by unfold l5;split<;>rfl) λσ' hl k' h=>?_;simp only[dC,ho,ht];exact h
  |box t x=>
   simp only[ho]at hk;cases hx:U.ev x with
   |none=>rw[hx]at hk;exact hk.elim
   |some d=>
    rw[hx]at hk;simp only at hk;cases hc:cellsOf d with
    |none=>rw[hc]at hk;exact hk.elim
    |some cs=>
     rw[hc]at hk;refine fin hk rfl λσ' hl k' h=>?_;simp only[dC,ho,hl.ev x (by simp[ho,Op.operands]),hx,hc];exact h
  |build t ps=>
   simp only[ho]at hk;have dv:∀x,x∈ps.toList.map (·.2)->x∈o.op.operands.toList:=λx hx=>by simpa[ho,Op.operands]using hx
   cases ht:T t with
   |none=>rw[ht]at hk;exact hk.elim
   |some ti=>
    cases hp:U.AK ps.toList with
    |none=>rw[ht,hp]at hk;exact hk.elim
    |some l=>
     rw[ht,hp]at hk;simp only at hk;cases hb:buildable T ti.desc with
     |false=>rw[hb]at hk;exact hk.elim
     |true=>
      cases hf:gm (l6 T ti.desc) ti.zero l with
      |none=>rw[hb,hf]at hk;exact hk.elim
      |some cs=>
       rw[hb,hf]at hk;simp only[cg]at hk;refine fin hk trivial λσ' hl k' h=>?_;have:=sd (U:=U) (σ':=σ') (xs:=ps.toList) λx hx=>hl.ev x (dv x hx);simp only[dC,ho,ht,this,hp,hb,hf,cg];exact h
  |buildSlice t len ps=>
   simp only[ho]at hk;have dv:∀x,x∈ps.toList.map (·.2)->x∈o.op.operands.toList:=λx hx=>by simpa[ho,Op.operands]using hx
   cases ht:T t with
   |none=>rw[ht]at hk;exact hk.elim
   |some ti=>
    cases hp:U.AK ps.toList with
    |none=>rw[ht,hp]at hk;exact hk.elim
    |some l=>
     rw[ht,hp]at hk;simp only at hk;cases hb:eN T ti.desc with
     |none=>rw[hb]at hk;exact hk.elim
     |some te=>
      rw[hb]at hk;simp only at hk;cases hf:fw te.size (List.replicate len te.zero) l with
      |none=>
       rw[hf]at hk;obtain⟨l',_,rows,_,hk⟩:=hk;obtain⟨_,hk⟩:=ae hk;exact(M4 _ _ _ hk).elim
      |some cs=>
       rw[hf]at hk;obtain⟨hi,hk⟩:=ae hk;refine fin hk rfl λσ' hl k' h=>?_;have:=sd (U:=U) (σ':=σ') (xs:=ps.toList) λx hx=>hl.ev x (dv x hx);simp only[dC,ho,ht,this,hp,hb,hf];exact bS hi h
  |load t p=>
   simp only[ho]at hk;cases ht:T t with
   |none=>rw[ht]at hk;exact hk.elim
   |some ti=>
    cases hp:U.ev p with
    |none=>rw[ht,hp]at hk;exact hk.elim
    |some d=>
     rw[ht,hp]at hk;have hep:=λσ'(hl:Le o U σ')=>(hl.ev p (by simp[ho,Op.operands])).trans hp;by_cases JH:∃g off,d=.gp g off
     .obtain⟨g,off,rfl⟩:=JH
      simp only at hk;cases ha:ti.agg with
      |true=>rw[ha]at hk;exact hk.elim
      |false=>
       rw[ha]at hk;obtain⟨kd,m,hg,hk⟩:=hk;refine fin hk trivial λσ' hl k' h=>?_;simp only[dC,ho,ht,hep σ' hl,ha];exact⟨kd,m,hg,h⟩
     have hk:fy ti U.boxes d k:=by
       cases d<;>first|exact hk|exact absurd ⟨_,_,rfl⟩ JH
     obtain⟨e,h1,⟨d',rfl⟩,h3⟩:=HE hk;refine fin h1 trivial λσ' hl k' h=>?_;have:=h3 _ hl.bs k' h;simp only[dC,ho,ht,hep σ' hl];cases d<;>first|exact this|exact absurd ⟨_,_,rfl⟩ JH
  |nilCheck x=>
   simp only[ho]at hk;cases hx:U.ev x with
   |none=>rw[hx]at hk;exact hk.elim
   |some d=>
    rw[hx]at hk;cases d<;>first
     |exact hk.elim
     |(refine fin hk trivial λσ' hl k' h=>?_
       simp only[dC,ho,hl.ev x (by simp[ho,Op.operands]),hx];exact h)
  |binOp op t x y ls=>
   simp only[ho]at hk;have tY:fU y=false:=by
    unfold dS at hm;rw[ho]at hm;simpa using hm
   cases ht:T t with
   |none=>rw[ht]at hk;exact hk.elim
   |some ti=>
    cases hx:U.ev x with
    |none=>rw[ht,hx]at hk;exact hk.elim
    |some dx=>
     cases hy:U.ev y with
     |none=>rw[ht,hx,hy]at hk;revert hk;cases dx<;>exactλhk=>hk.elim
     |some dy=>
      rw[ht,hx,hy]at hk;have ex:=λσ'(hl:Le o U σ')=>(hl.ev x (by simp[ho,Op.operands])).trans hx;have ey:=λσ'(hl:Le o U σ')=>(hl.ev y (by simp[ho,Op.operands])).trans hy;by_cases Po:(∃i g off len,dx=.sl i g off len)/\dy=.ao
      .obtain⟨⟨i,g,off,len,rfl⟩,rfl⟩:=Po
       exfalso;simp only[tY]at hk;split at hk
       .rename_i h;cases h
       exact hk
      by_cases FQ:dx=.ao/\dy=.ao
      .obtain⟨rfl,rfl⟩:=FQ
       exfalso;simp only[tY]at hk;split at hk
       .rename_i h;cases h
       exact hk
      by_cases TZ:dx=.dI/\dy=.dI
      .obtain⟨rfl,rfl⟩:=TZ
       exfalso;simp only[tY]at hk;split at hk
       .rename_i h;cases h
       .rename_i h;cases h
       exact hk
      by_cases Q0:(∃sz rows,dx=.list sz rows)/\dy=.ao
      .obtain⟨⟨sz,rows,rfl⟩,rfl⟩:=Q0
       exfalso;simp only[tY]at hk;split at hk
       .rename_i h;cases h
       exact hk
      have hk:jN ti op dx dy λd=>k (.val d):=by
        revert hk;split
        .rename_i h1 h2 h3
         cases h2;cases h3;exact absurd ⟨⟨_,_,rfl⟩,rfl⟩ Q0
        .rename_i h1 h2 h3
         cases h2;cases h3;exact absurd ⟨⟨_,_,_,_,rfl⟩,rfl⟩ Po
        .rename_i h1 h2 h3
         cases h2;cases h3;exact absurd ⟨rfl,rfl⟩ FQ
        .rename_i h1 h2 h3
         cases h2;cases h3;exact absurd ⟨rfl,rfl⟩ TZ
        .rename_i h1 h2 h3
         cases h1;cases h2;cases h3;exact id
        rename_i h;exact absurd rfl (h _ _ _ rfl rfl)
      obtain⟨d,h1,h2⟩:=J4 hk;refine fin (e:=.val d) h1 trivial λσ' hl k' h=>?_;simp only[dC,ho,ht,ex σ' hl,ey σ' hl];split
      .rename_i h1 h2 h3
       cases h2;cases h3;exact absurd ⟨⟨_,_,rfl⟩,rfl⟩ Q0
      .rename_i h1 h2 h3
       cases h2;cases h3;exact absurd ⟨⟨_,_,_,_,rfl⟩,rfl⟩ Po
      .rename_i h1 h2 h3
       cases h2;cases h3;exact absurd ⟨rfl,rfl⟩ FQ
      .rename_i h1 h2 h3
       cases h2;cases h3;exact absurd ⟨rfl,rfl⟩ TZ
      .rename_i h1 h2 h3
       cases h1;cases h2;cases h3;exact h2 _ h
      rename_i h;exact absurd rfl (h _ _ _ rfl rfl)
  |unOp op t x=>
   simp only[ho]at hk;cases hx:U.ev x with
   |none=>rw[hx]at hk;cases op<;>exact hk.elim
   |some dx=>
    rw[hx]at hk;have hex:=λσ'(hl:Le o U σ')=>(hl.ev x (by simp[ho,Op.operands])).trans hx;cases op<;>cases dx<;>first
     |exact hk.elim
     |exact fin hk trivial λσ' hl k' h=>by simp only[dC,ho,hex σ' hl];exact h
     |(obtain⟨r,hr,hk⟩:=hk
       exact fin hk trivial λσ' hl k' h=>by simp only[dC,ho,hex σ' hl];exact⟨r,hr,h⟩)
  |convert s d x=>
   simp only[ho]at hk;cases hs:T s with
   |none=>rw[hs]at hk;exact hk.elim
   |some ts=>
    cases hd:T d with
    |none=>rw[hs,hd]at hk;exact hk.elim
    |some td=>
     cases hx:U.ev x with
     |none=>rw[hs,hd,hx]at hk;exact hk.elim
     |some v=>
      rw[hs,hd,hx]at hk;simp only at hk;split at hk
      .rename_i h1 h2
       obtain⟨r,hr,hk⟩:=hk;refine fin hk trivial λσ' hl k' h=>?_;simp only[dC,ho,hs,hd,hl.ev x (by simp[ho,Op.operands]),hx,h1,h2];exact⟨r,hr,h⟩
      exact hk.elim
  |makeFunc fn fs cs=>
   simp only[ho]at hk;cases h1:U.jv fs.toList with
   |none=>rw[h1]at hk;exact hk.elim
   |some l=>
    cases h2:U.jv cs.toList with
    |none=>rw[h1,h2]at hk;exact hk.elim
    |some m=>
     rw[h1,h2]at hk;refine fin hk trivial λσ' hl k' h=>?_;have e1:=jZ (U:=U) (σ':=σ') (xs:=fs.toList) λx hx=>hl.ev x (by simp only[ho,Op.operands,Array.toList_append,List.mem_append];exact .inl hx);have e2:=jZ (U:=U) (σ':=σ') (xs:=cs.toList) λx hx=>hl.ev x (by simp only[ho,Op.operands,Array.toList_append,List.mem_append];exact .inr hx);simp only[dC,ho,e1,e2,h1,h2];exact h
  |makeSlice t l c=>
   simp only[ho]at hk;cases ht:T t with
   |none=>rw[ht]at hk;exact hk.elim
   |some ti=>
    cases hx:U.ev l with
    |none=>rw[ht,hx]at hk;exact hk.elim
    |some dl=>
     cases hc:U.ev c with
     |none=>
      rw[ht,hx,hc]at hk;exfalso;split at hk
      .simp_all
      exact hk
     |some dc=>
      rw[ht,hx,hc]at hk;split at hk
      .rename_i h1 h2 h3
       simp only[Option.some.injEq]at h1 h2 h3;subst h1 h2 h3;cases hb:eN T ti.desc with
       |none=>rw[hb]at hk;exact hk.elim
       |some te=>
        rw[hb]at hk;obtain⟨hi,h1,h2,h3,j,h4,hk⟩:=ae hk;obtain⟨_,b,mk,hk,ph,h5⟩:=xK hk;refine fin hk ph λσ' hl k' h=>?_;simp only[dC,ho,ht,hl.ev l (by simp[ho,Op.operands]),hl.ev c (by simp[ho,Op.operands]),hx,hc,hb];exact bS hi ⟨h1,h2,h3,j,h4,h5 k' h⟩
      exact hk.elim
  |slice t x lo hi mx=>
   simp only[ho]at hk;cases mx with
   |some m=>
    cases ht:T t with
    |none=>rw[ht]at hk;exact hk.elim
    |some ti=>
     cases hx:U.ev x with
     |none=>rw[ht,hx]at hk;exact hk.elim
     |some p=>
      cases cY:eV U lo with
      |none=>rw[ht,hx,cY]at hk;exact hk.elim
      |some l=>
       cases Ba:eV U hi with
       |none=>rw[ht,hx,cY,Ba]at hk;exact hk.elim
       |some h=>
        rw[ht,hx,cY,Ba]at hk;have hk:jO (U.ev m) (ee T ti.desc) ti.desc p l h k:=hk;obtain⟨_,_,_,_,_,_,_,_,_,_,h1⟩:=kV hk;refine fin h1 trivial λσ' hl k' hh=>?_;have e1:eV σ' lo=eV U lo:=by
         cases lo with
         |none=>rfl
         |some y=>simp only[eV];rw[hl.ev y (by simp[ho,Op.operands])]
        have e2:eV σ' hi=eV U hi:=by
         cases hi with
         |none=>rfl
         |some y=>simp only[eV];rw[hl.ev y (by simp[ho,Op.operands])]
        simp only[dC,ho,ht,hl.ev x (by simp[ho,Op.operands]),hx,e1,e2,cY,Ba,hl.ev m (by simp[ho,Op.operands])];exact DG hk hh
   |none=>
    cases ht:T t with
    |none=>rw[ht]at hk;exact hk.elim
    |some ti=>
     cases hx:U.ev x with
     |none=>rw[ht,hx]at hk;exact hk.elim
     |some p=>
      cases cY:eV U lo with
      |none=>rw[ht,hx,cY]at hk;exact hk.elim
      |some l=>
       cases Ba:eV U hi with
       |none=>rw[ht,hx,cY,Ba]at hk;exact hk.elim
       |some h=>
        rw[ht,hx,cY,Ba]at hk;simp only at hk;cases hb:ee T ti.desc with
        |none=>
         rw[hb]at hk;have hk:kU ti.desc p l h k:=hk;have h3:∃d,k (.val d)/\∀k':bE->Prop,k' (.val d)->kU ti.desc p l h k':=by
          unfold kU at hk⊢;split at hk<;>first|exact⟨_,hk.2,λk' hh=>⟨hk.1,hh⟩⟩|exact hk.elim
         obtain⟨d,h1,h3⟩:=h3;refine fin h1 trivial λσ' hl k' hh=>?_;have e1:eV σ' lo=eV U lo:=by
          cases lo with
          |none=>rfl
          |some y=>simp only[eV];rw[hl.ev y (by simp[ho,Op.operands])]
         have e2:eV σ' hi=eV U hi:=by
          cases hi with
          |none=>rfl
          |some y=>simp only[eV];rw[hl.ev y (by simp[ho,Op.operands])]
         simp only[dC,ho,ht,hl.ev x (by simp[ho,Op.operands]),hx,e1,e2,cY,Ba,hb];exact h3 k' hh
        |some te=>
         rw[hb]at hk;obtain⟨e,h1,⟨d',rfl⟩,h3⟩:=vE hk;refine fin h1 trivial λσ' hl k' hh=>?_;have e1:eV σ' lo=eV U lo:=by
          cases lo with
          |none=>rfl
          |some y=>simp only[eV];rw[hl.ev y (by simp[ho,Op.operands])]
         have e2:eV σ' hi=eV U hi:=by
          cases hi with
          |none=>rfl
          |some y=>simp only[eV];rw[hl.ev y (by simp[ho,Op.operands])]
         simp only[dC,ho,ht,hl.ev x (by simp[ho,Op.operands]),hx,e1,e2,cY,Ba,hb];exact h3 _ hl.bs k' hh
  |fieldAddr t x f=>
   simp only[ho]at hk;cases ht:T t with
   |none=>rw[ht]at hk;exact hk.elim
   |some ti=>
    cases hx:U.ev x with
    |none=>rw[ht,hx]at hk;exact hk.elim
    |some p=>
     rw[ht,hx]at hk;simp only at hk;cases hf:fK T ti.desc f with
     |none=>rw[hf]at hk;exact hk.elim
     |some q=>
      rw[hf]at hk;obtain⟨hi,hk⟩:=ae hk;obtain⟨e,h1,⟨d',rfl⟩,h3⟩:=vC hk;refine fin h1 trivial λσ' hl k' h=>?_;simp only[dC,ho,ht,hl.ev x (by simp[ho,Op.operands]),hx,hf];exact bS hi (h3 k' h)
  |field t x f=>
   simp only[ho]at hk;cases ht:T t with
   |none=>rw[ht]at hk;exact hk.elim
   |some ti=>
    cases hx:U.ev x with
    |none=>rw[ht,hx]at hk;exact hk.elim
    |some p=>
     rw[ht,hx]at hk;cases p with
     |agg cs=>
      simp only at hk;cases hf:fK T ti.desc f with
      |none=>rw[hf]at hk;exact hk.elim
      |some q=>
       rw[hf]at hk;simp only at hk;cases ha:q.2.agg with
       |true=>
        rw[ha]at hk;simp only at hk;cases hr:cQ cs q.1 q.2.size with
        |none=>rw[hr]at hk;exact hk.elim
        |some d=>
         rw[hr]at hk;simp only[ax]at hk;refine fin hk trivial λσ' hl k' h=>?_;simp only[dC,ho,ht,hl.ev x (by simp[ho,Op.operands]),hx,hf,ha,hr,ax];exact h
       |false=>
        rw[ha]at hk;simp only at hk;cases hr:cs[q.1]? with
        |none=>rw[hr]at hk;exact hk.elim
        |some d=>
         rw[hr]at hk;refine fin hk trivial λσ' hl k' h=>?_;simp only[dC,ho,ht,hl.ev x (by simp[ho,Op.operands]),hx,hf,ha,hr];exact h
     |_=>exact hk.elim
  |indexAddr t x i=>
   simp only[ho]at hk;cases ht:T t with
   |none=>rw[ht]at hk;exact hk.elim
   |some ti=>
    cases hx:U.ev x with
    |none=>rw[ht,hx]at hk;exact hk.elim
    |some p=>
     cases hn:U.ev i with
     |none=>rw[ht,hx,hn]at hk;exact hk.elim
     |some dn=>
      rw[ht,hx,hn]at hk;simp only at hk;cases hb:ee T ti.desc with
      |none=>rw[hb]at hk;exact hk.elim
      |some te=>
       rw[hb]at hk;obtain⟨e,h1,⟨d',rfl⟩,h3⟩:=vD hk;refine fin h1 trivial λσ' hl k' h=>?_;simp only[dC,ho,ht,hl.ev x (by simp[ho,Op.operands]),hl.ev i (by simp[ho,Op.operands]),hx,hn,hb];exact h3 _ hl.bs k' h
  |index t x i=>
   simp only[ho]at hk;cases ht:T t with
   |none=>rw[ht]at hk;exact hk.elim
   |some ti=>
    cases hx:U.ev x with
    |none=>rw[ht,hx]at hk;exact hk.elim
    |some p=>
     cases hn:U.ev i with
     |none=>
      rw[ht,hx,hn]at hk;cases p<;>exact hk.elim
     |some dn=>
      rw[ht,hx,hn]at hk;cases p with
      |str st=>
       cases dn with
       |int ki n=>
        simp only at hk;cases hd:ti.desc with
        |string=>
         rw[hd]at hk;obtain⟨h0,b,hb,hk⟩:=hk;refine fin hk trivial λσ' hl k' h=>?_;simp only[dC,ho,ht,hl.ev x (by simp[ho,Op.operands]),hl.ev i (by simp[ho,Op.operands]),hx,hn,hd];exact⟨h0,b,hb,h⟩
        |_=>rw[hd]at hk;exact hk.elim
       |_=>exact hk.elim
      |agg cs=>
       cases dn with
       |int ki n=>
        simp only at hk;cases hd:ti.desc with
        |array len e=>
         rw[hd]at hk;cases hb:ee T (.array len e)with
         |none=>rw[hb]at hk;exact hk.elim
         |some te=>
          rw[hb]at hk;obtain⟨FQ,hk⟩:=hk;cases ha:te.agg with
          |true=>
           rw[ha]at hk;obtain⟨ds,h1,h2,hk⟩:=hk;refine fin hk trivial λσ' hl k' h=>?_;simp only[dC,ho,ht,hl.ev x (by simp[ho,Op.operands]),hl.ev i (by simp[ho,Op.operands]),hx,hn,hd,hb,ha];exact⟨FQ,ds,h1,h2,h⟩
          |false=>
           rw[ha]at hk;obtain⟨ds,h1,hk⟩:=hk;refine fin hk trivial λσ' hl k' h=>?_;simp only[dC,ho,ht,hl.ev x (by simp[ho,Op.operands]),hl.ev i (by simp[ho,Op.operands]),hx,hn,hd,hb,ha];exact⟨FQ,ds,h1,h⟩
        |_=>rw[hd]at hk;exact hk.elim
       |_=>exact hk.elim
      |_=>exact hk.elim
  |extract t i=>
   simp only[ho]at hk;cases hx:U.ev t with
   |none=>rw[hx]at hk;exact hk.elim
   |some d=>
    rw[hx]at hk;cases d with
    |b9 ds=>
     simp only at hk;cases hd:ds[i]? with
     |none=>rw[hd]at hk;exact hk.elim
     |some d=>
      rw[hd]at hk;refine fin hk trivial λσ' hl k' h=>?_;simp only[dC,ho,hl.ev t (by simp[ho,Op.operands]),hx,hd];exact h
    |_=>exact hk.elim
  |call c=>
   simp only[ho]at hk;cases hc:c.callee with
   |value f=>
    rw[hc]at hk;simp only at hk;have dv:∀x,x∈c.args.toList->x∈o.op.operands.toList:=λx hx=>by
     simp only[ho,Op.operands,Call.operands,hc,Array.toList_append,List.mem_append];exact .inr hx
    have Nx:f∈o.op.operands.toList:=by simp[ho,Op.operands,Call.operands,hc]
    cases hf:U.ev f with
    |none=>rw[hf]at hk;exact hk.elim
    |some df=>
     rw[hf]at hk;cases ha:U.jv c.args.toList with
     |none=>
      rw[ha]at hk;exfalso;revert hk;split<;>simp_all
     |some as=>
      rw[ha]at hk;cases df with
      |bR fn fs cs=>
       cases fn with
       |func fk=>
        simp only at hk;have e1:=λσ'(hl:Le o U σ')=>jZ (U:=U) (σ':=σ') (xs:=c.args.toList) λx hx=>hl.ev x (dv x hx);cases MX:C.nw fk with
        |true=>
         rw[MX]at hk;obtain⟨rs,qB,b,hC,hk⟩:=hk;cases nG:jg b with
         |false=>
          rw[nG]at hk;exact(M4 _ _ _ (ae hk).2).elim
         |true=>
         rw[nG]at hk;refine fin hk (by unfold jg at nG;split at nG<;>first|rfl|cases nG) λσ' hl k' h=>?_
         simp only[dC,ho,hc,hl.ev f Nx,hf,e1 σ' hl,ha,MX];exact⟨rs,(lj hl.bs qB).1,b,hC,by rw[nG];exact h⟩
        |false=>
        rw[MX]at hk;simp only at hk;cases uc:C.sh fk with
        |true=>
         rw[uc]at hk;rcases hk with⟨rs,qB,d,hC,hk⟩|⟨sel,jG,uU,Q,_,_,_,_,_,⟨d,bu,y',hq⟩,hk⟩
         .refine fin hk ⟨rs,qB⟩ λσ' hl k' h=>?_
          simp only[dC,ho,hc,hl.ev f Nx,hf,e1 σ' hl,ha,MX,uc];exact .inl ⟨rs,(lj hl.bs qB).1,d,hC,h⟩
         obtain⟨X,_,rI⟩:=hk d bu y' hq;exact(QZ _ _ _ rI).elim
        |false=>
        rw[uc]at hk;obtain⟨rs,qB,d,hC,hk⟩:=hk;refine fin hk ⟨rs,qB⟩ λσ' hl k' h=>?_;simp only[dC,ho,hc,hl.ev f Nx,hf,e1 σ' hl,ha,MX,uc];exact⟨rs,(lj hl.bs qB).1,d,hC,h⟩
       |_=>exact hk.elim
      |j8 l=>
       simp only at hk;cases pZ:U.y with
       |rem l' xs=>
        rw[pZ]at hk;cases xs with
        |nil=>exact hk.elim
        |cons x r=>
         exfalso;simp only at hk;split at hk
         .split at hk
          .obtain⟨_,_,hk⟩:=hk
           obtain⟨_,hk⟩:=ae hk;exact hy.2 _ _ _ hk.1
          exact hk
         exact hy.1 _ _ hk.2.2.1
       |_=>rw[pZ]at hk;exact hk.elim
      |_=>exact hk.elim
   |builtin b=>
    rw[hc]at hk;simp only at hk;cases ha:U.jv c.args.toList with
    |none=>rw[ha]at hk;exact hk.elim
    |some as=>
     rw[ha]at hk;have dv:∀x,x∈c.args.toList->x∈o.op.operands.toList:=λx hx=>by
      simp only[ho,Op.operands,Call.operands,hc,Array.toList_append,List.mem_append];exact .inr hx
     have e1:=λσ'(hl:Le o U σ')=>jZ (U:=U) (σ':=σ') (xs:=c.args.toList) λx hx=>hl.ev x (dv x hx);cases b with
     |len=>
      simp only at hk;cases as with
      |nil=>exact hk.elim
      |cons x as=>
       cases as with
       |cons y as=>exact hk.elim
       |nil=>
        simp only at hk;cases ht:typeAt T c 0 with
        |none=>rw[ht]at hk;exact hk.elim
        |some ti=>
         rw[ht]at hk;simp only at hk;cases hd:ti.desc with
         |array m e=>
          rw[hd]at hk;refine fin hk trivial λσ' hl k' h=>?_;simp only[dC,ho,hc,e1 σ' hl,ha,ht,hd];exact h
         |slice e=>
          rw[hd]at hk;obtain⟨d,h1,h2⟩:=J7 hk;refine fin h1 trivial λσ' hl k' h=>?_;simp only[dC,ho,hc,e1 σ' hl,ha,ht,hd];exact h2 _ h
         |string=>
          rw[hd]at hk;cases x with
          |str s=>
           refine fin hk trivial λσ' hl k' h=>?_;simp only[dC,ho,hc,e1 σ' hl,ha,ht,hd];exact h
          |_=>exact hk.elim
         |_=>rw[hd]at hk;exact hk.elim
     |min=>
      obtain⟨d,h1,h2⟩:=J5 hk;refine fin h1 trivial λσ' hl k' h=>?_;simp only[dC,ho,hc,e1 σ' hl,ha];exact h2 _ h
     |max=>
      obtain⟨d,h1,h2⟩:=J6 hk;refine fin h1 trivial λσ' hl k' h=>?_;simp only[dC,ho,hc,e1 σ' hl,ha];exact h2 _ h
     |_=>(simp[dS,ho,hc]at hm)
   |invoke r m=>rw[hc]at hk;exact hk.elim
  |makeMap t r=>
   simp only[ho]at hk;cases ht:T t with
   |none=>rw[ht]at hk;exact hk.elim
   |some ti=>
    rw[ht]at hk;cases r with
    |some x=>exact hk.elim
    |none=>
     simp only at hk;cases hd:ti.desc with
     |map kt et=>
      rw[hd]at hk;simp only at hk;cases QG:C.mp with
      |none=>
       rw[QG]at hk;refine fin hk rfl λσ' hl k' h=>?_;simp only[dC,ho,ht,hd,QG];exact h
      |some c=>
       rw[QG]at hk;refine fin hk ⟨[],rfl⟩ λσ' hl k' h=>?_;simp only[dC,ho,ht,hd,QG];exact h
     |_=>rw[hd]at hk;exact hk.elim
  |_=>(simp[dS,ho]at hm)
section
variable{P:Program}[aM]{sh:er}{ish:Nat->Bool}{T:Nat->Option TI}{C:xa}{cx:Cx}{V:Nat->Prop}{U:St}{β:BE}{I:aW}{S:Nat->Prop}{N:Nat}{a:Act}{w:World}
structure BA(T:Nat->Option TI)(o:Oper)(c:Call)(t0 t1 e:TypeId)(ti rZ te:TI):Prop where
 op:o.op=.call c
 callee:c.callee=.builtin .append
 h0:c.argTypes[0]?=some t0
 h1:c.argTypes[1]?=some t1
 t0:T t0=some ti
 t1:T t1=some rZ
 d0:ti.desc=.slice e
 d1:xg rZ.desc=true
 tE:T e=some te
 size:Nat.blt 0 te.size=true
 bytes:Nat.blt 0 te.bytes=true
omit [aM]in
theorem zq{o:Oper}(hm:isApp o=true){k:bE->Prop}(hk:dC T C U o k):
    ∃c t0 t1 e ti rZ te s x,BA T o c t0 t1 e ti rZ te/\U.jv c.args.toList=some [s,x]/\gL e U.boxes te.size te.bytes s x k:=by
  unfold isApp at hm;unfold dC at hk;cases ho:o.op with
  |call c=>
   rw[ho]at hm;simp only[ho]at hk;simp only at hm;cases hc:c.callee with
   |builtin b=>
    rw[hc]at hm hk;cases b with
    |append=>
     simp only at hk;cases ha:U.jv c.args.toList with
     |none=>rw[ha]at hk;exact hk.elim
     |some as=>
      rw[ha]at hk;simp only at hk;cases as with
      |nil=>exact hk.elim
      |cons s as=>
       cases as with
       |nil=>exact hk.elim
       |cons x as=>
        cases as with
        |cons y as=>exact hk.elim
        |nil=>
         simp only at hk;unfold typeAt at hk;cases h0:c.argTypes[0]? with
         |none=>rw[h0]at hk;exact hk.elim
         |some t0=>
          cases h1:c.argTypes[1]? with
          |none=>
           rw[h0,h1]at hk;simp only at hk;cases vm:T t0<;>rw[vm]at hk<;>exact hk.elim
          |some t1=>
           rw[h0,h1]at hk;simp only at hk;cases vm:T t0 with
           |none=>rw[vm]at hk;exact hk.elim
           |some ti=>
            cases NK:T t1 with
            |none=>rw[vm,NK]at hk;exact hk.elim
            |some tx=>
             rw[vm,NK]at hk;simp only at hk;cases la:xg tx.desc with
             |true=>
              rw[la]at hk;simp only at hk;cases hd:ti.desc with
              |slice e=>
               rw[hd]at hk;simp only[eN]at hk;cases eU:T e with
               |none=>rw[eU]at hk;exact hk.elim
               |some te=>
                rw[eU]at hk;simp only at hk;obtain⟨dw,hk⟩:=ae hk;cases HD:Nat.blt 0 te.size with
                |false=>rw[HD]at dw;cases dw
                |true=>
                 rw[HD]at dw;exact⟨c,t0,t1,e,ti,tx,te,s,x,⟨ho,hc,h0,h1,vm,NK,hd,la,eU,HD,dw⟩,ha,hk⟩
              |_=>rw[hd]at hk;exact hk.elim
             |false=>rw[la]at hk;exact hk.elim
    |_=>cases hm
   |value f=>rw[hc]at hm;cases hm
   |invoke r m=>rw[hc]at hm;cases hm
  |_=>rw[ho]at hm;cases hm
omit [aM]in
theorem Q1{o:Oper}{c:Call}{t0 t1 e:TypeId}{ti rZ te:TI}(h:BA T o c t0 t1 e ti rZ te){s x:D}(ha:U.jv c.args.toList=some [s,x]){k:bE->Prop}(hk:gL e U.boxes te.size te.bytes s x k):dC T C U o k:=by
 obtain⟨ho,hc,h0,h1,vm,NK,hd,la,eU,HD,dw⟩:=h;simp only[dC,ho,hc,ha,typeAt,h0,h1,vm,NK,hd,la,eN,eU,Zv];exact bS (by rw[HD];exact dw) hk
omit [aM]in
theorem HF{bs bu:List af}(h:Bg bs bu){d:D}{r:Nat×List (List D)}(hr:rowsOf bs d=some r):rowsOf bu d=some r:=by
 unfold rowsOf at hr⊢;cases d with
 |sl i g off len=>
  simp only at hr⊢;cases hb:bs[i]? with
  |none=>rw[hb]at hr;cases hr
  |some box=>
   rw[hb]at hr;cases box with
   |flat=>cases hr
   |map=>cases hr
   |aA=>cases hr
   |aJ=>cases hr
   |rows fz g' sz rs=>
    rcases h i _ hb with h1|h1
    .rw[h1];exact hr
    rw[h1];exact hr
 |_=>exact hr
omit [aM]in
theorem J8{o:Oper}(hm:isApp o=true){k:bE->Prop}(hs:∀i b d,¬k (.set i b d))(hk:dC T C U o k):
    ∃e,k e/\Je U e/\∀σ',Le o U σ'->∀k':bE->Prop,k' e->dC T C σ' o k':=by
  obtain⟨c,t0,t1,e,ti,rZ,te,s,x,hp,ha,hk⟩:=zq hm hk;unfold gL at hk;cases hr:rowsOf U.boxes x with
  |none=>rw[hr]at hk;exact hk.elim
  |some q=>
   obtain⟨sz,rows⟩:=q;rw[hr]at hk;simp only at hk;obtain⟨dQ,hk⟩:=hk;cases s with
   |ao=>
    obtain⟨ld,hk⟩:=hk;refine⟨_,hk,rfl,λσ' hl k' h=>?_⟩;have dv:∀x,x∈c.args.toList->x∈o.op.operands.toList:=λx hx=>by
     simp only[hp.op,Op.operands,Call.operands,hp.callee,Array.toList_append,List.mem_append];exact .inr hx
    have e1:=jZ (U:=U) (σ':=σ') (xs:=c.args.toList) λx hx=>hl.ev x (dv x hx);refine Q1 hp (e1.trans ha) ?_;unfold gL;rw[HF hl.bs hr];exact⟨dQ,ld,h⟩
   |sl i g off len=>
    simp only at hk;cases hb:U.boxes[i]? with
    |none=>rw[hb]at hk;exact hk.elim
    |some box=>
     rw[hb]at hk;cases box with
     |flat=>exact hk.elim
     |map=>exact hk.elim
     |aA fz b pos=>
      cases fz with
      |true=>exact hk.elim
      |false=>
       cases x with
       |str x=>obtain⟨_,_,ze⟩:=ae hk;exact(hs _ _ _ ze).elim
       |_=>exact hk.elim
     |aJ=>exact hk.elim
     |rows fz g' Ng rs=>
      cases fz with
      |true=>exact hk.elim
      |false=>
       simp only at hk;obtain⟨_,_,_,dP,_,all,_,ze⟩:=ae hk;exact(hs _ _ _ ze).elim
   |_=>exact hk.elim
omit [aM]in
theorem Ef(hs:bf cx V U β I S N a w){t t1:TypeId}{ti rZ te:TI}(h:aj P t ti){e:TypeId}(hd:ti.desc=.slice e)(he:aj P e te)(h1:aj P t1 rZ)(la:xg rZ.desc=true)
    {vo:Array TypeId}(h0:vo[0]?=some t)(AM:vo[1]?=some t1)(ty:TypeId)(dw:0<te.size)(pg:0<te.bytes){sv xv:Value}{x:D}(Ht:Rel I β sv .ao)(ub:Rel I β xv x){k:bE->Prop}
    (hk:gL e U.boxes te.size te.bytes .ao x k):
    ∃v w' bi b mk,(Builtin.append_ vo ty #[sv,xv]).run P w=.ok v w'/\k (.new b mk)/\(∀R,bi.R=some R->w.heap.size<=R)/\aB (·<w.heap.size) w w'/\bA I β w' bi b/\b.fz=false/\∀(β':BE)(i:Nat),β' i=some bi->Rel I β' v (mk i):=by
  unfold gL at hk;cases hr:rowsOf U.boxes x with
  |none=>rw[hr]at hk;exact hk.elim
  |some q=>
   obtain⟨sz,rows⟩:=q;rw[hr]at hk;simp only at hk;obtain⟨dQ,ld,hk⟩:=hk;have QK:rows=[]\/sz=te.size:=by
    split at dQ
    .rename_i hq;exact .inr (Nat.eq_of_beq_eq_true hq)
    exact .inl dQ
   obtain⟨f,vn,hf,cb⟩:=vp (P:=P) hs ub hr dw QK;cases Ht with|ao A0=>?_
   rcases Nat.eq_zero_or_pos rows.length with JT|hp
   .have aP:=ei (w:=w) h hd he h1 la h0 AM ty A0 xv 0 0 rows.length vn (by omega) (hf w (aB.refl _ w)) (w':=w) (by cases A0 with|none=>rfl|some A0=>simp[JT,storeCells])
    have hrn:rows=[]:=List.eq_nil_of_length_eq_zero JT;refine⟨_,w,⟨none,false,0,te.size,0,0,0⟩,_,_,aP,hk,λR h=>(by cases h),aB.refl _ w,⟨rfl,rfl,rfl,JT.symm,cb.row,by simp[JT],rfl⟩,rfl,λβ' i hi=>?_⟩;rw[JT];exact .sl A0 0 i 0 0 0 ⟨none,false,0,te.size,0,0,0⟩ hi rfl rfl rfl (Nat.le_refl _) (Nat.le_refl _) (λh=>absurd h (by omega))
   obtain⟨z,hz,aP⟩:=gN (w:=w) h hd he h1 la h0 AM ty A0 xv 0 0 rows.length vn (by omega) pg (by simpa using ld) (olds:=#[]) (by cases A0 with|none=>simp[Builtin.firstCells]|some A0=>simp[Builtin.firstCells,loadCells,loadCellsFrom]) (hf w.drew (aB.drew _ w));have Dt:=grownCap_ge w (0+rows.length) 0 e;have hb:=r0 (β:=β) (e:=e) (c:=#[]++((List.range (rows.length*te.size)).map f).toArray++Builtin.zeroCells z.cells (grownCap w (0+rows.length) 0 e-(0+rows.length))) (cap:=grownCap w (0+rows.length) 0 e)
    (more:=(Builtin.zeroCells z.cells (grownCap w (0+rows.length) 0 e-(0+rows.length))).toList) cb (by simp) Dt (by simp) (by
     simp only[Array.size_append,gO,hz,List.size_toArray,List.length_map,List.length_range,Nat.zero_add,List.length_nil];have QL:=Dt;simp only[Nat.zero_add]at QL;rw[<-Nat.add_mul];congr 1;omega) w.drew 0
   refine⟨_,_,_,_,_,aP,hk,λR h=>(by cases h;exact Nat.le_refl _),(aB.drew _ w).trans (aB.alloc w.drew _),hb,rfl,λβ' i hi=>?_⟩;have:=Rel.sl (I:=I) (β:=β') (some ⟨w.heap.size,0,none⟩) (grownCap w (0+rows.length) 0 e) i 0 0 (0+rows.length) _ hi rfl rfl (by simp) Dt (by simp) (λ_=>⟨w.heap.size,rfl,by simp⟩);simpa using this
theorem Q2(hT:br P T){F:Fence}(hF:FW F)(hs:bf cx V U β I S N a w){n:Nat}{o:Oper}(hV:∀t,Operand.tmp t∈o.op.operands.toList->V t)(hm:isApp o=true){k:bE->Prop}
    (hk:dC T (CD P sh) U o k)(dE:∀i b d,¬k (.set i b d)){next:Act->World->Prop}{Q:Exit->Act->World->Prop}
    (iS:∀b mk v w' bi,k (.new b mk)->(∀R,bi.R=some R->w.heap.size<=R)->dG I w w'->bc I w'->bA I β w' bi b->b.fz=false->(∀(β':BE)(i:Nat),β' i=some bi->Rel I β' v (mk i))->next (a.put o.dst v) w'):
    o.wpIn F n P a w next Q:=by
  obtain⟨c,t0,t1,e,ti,rZ,te,s,x,hp,ha,hk⟩:=zq hm hk;have dv:∀x,x∈c.args.toList->x∈o.op.operands.toList:=λx hx=>by
   simp only[hp.op,Op.operands,Call.operands,hp.callee,Array.toList_append,List.mem_append];exact .inr hx
  have gi:=hs.jv (λx t hx e=>hV t (e▸dv x hx)) ha;have jl:(c.args.map a.eval)=(c.args.toList.map a.eval).toArray:=by apply Array.toList_inj.1;simp
  obtain⟨sv,oz,oG,Ht,J3⟩:=gi.cons_inv;obtain⟨xv,rU,ub⟩:=J3.k7;rw[oG,rU]at jl;have hs0:s=.ao:=by
   unfold gL at hk;cases hr:rowsOf U.boxes x with
   |none=>rw[hr]at hk;exact hk.elim
   |some q=>
    obtain⟨sz,rows⟩:=q;rw[hr]at hk;simp only at hk;obtain⟨dQ,hk⟩:=hk;cases s with
    |ao=>rfl
    |sl i g off len=>
     simp only at hk;cases hb:U.boxes[i]? with
     |none=>rw[hb]at hk;exact hk.elim
     |some box=>
      rw[hb]at hk;cases box with
      |flat=>exact hk.elim
      |map=>exact hk.elim
      |aA fz b pos=>
       cases fz with
       |true=>exact hk.elim
       |false=>
        cases x with
        |str x=>obtain⟨_,_,ze⟩:=ae hk;exact(dE _ _ _ ze).elim
        |_=>exact hk.elim
      |aJ=>exact hk.elim
      |rows fz g' Ng rs=>
       cases fz with
       |true=>exact hk.elim
       |false=>
        simp only at hk;obtain⟨_,_,_,dP,_,all,_,ze⟩:=ae hk;exact(dE _ _ _ ze).elim
    |_=>exact hk.elim
  subst hs0;obtain⟨v,w',bi,b,mk,aP,bF,h1,h2,h3,h4,h5⟩:=Ef hs (hT _ _ hp.t0) hp.d0 (hT _ _ hp.tE) (hT _ _ hp.t1) hp.d1 hp.h0 hp.h1 o.type (Nat.blt_eq▸hp.size) (Nat.blt_eq▸hp.bytes) Ht ub hk;refine cz hF (by rw[hp.op];simp) (v:=v) (w':=w') ?_ (iS b mk v w' bi bF h1 h2.toM (hs.agree.aE h2) h3 h4 h5);simp only[execOp,hp.op,resolve,hp.callee,Sem.run_bind,Sem.run_pure,Result.andThen_ok,invoke,builtin,jl];rw[aP];rfl
theorem J9(hT:br P T){F:Fence}(hF:FW F)(hs:bf cx V U β I S N a w){n:Nat}{o:Oper}(hV:∀t,Operand.tmp t∈o.op.operands.toList->V t)(hm:dS o=true\/isApp o=true){k:bE->Prop}
    (ak:cx.Ok)(hk:dC T (CD P sh) U o k)(QB:(∀b y,¬k (.yielded b y))/\∀b y nb,¬k (.fO b y nb))(QZ:∀d bs y,¬k (.dJ d bs y))(M4:∀b mk L,¬k (.eo b mk L))(dE:∀i b d,¬k (.set i b d)){next:Act->World->Prop}{Q:Exit->Act->World->Prop}(vj:∀d v,k (.val d)->Rel I β v d->next (a.put o.dst v) w)
    (iS:∀b mk v w' bi,k (.new b mk)->(∀R,bi.R=some R->w.heap.size<=R)->dG I w w'->bc I w'->bA I β w' bi b->b.fz=false->(∀(β':BE)(i:Nat),β' i=some bi->Rel I β' v (mk i))->next (a.put o.dst v) w')
    (dZ:∀d as v w' I',k (.res d as)->dG I w w'->Grow w.heap.size (bQ (as.flatMap (aF U.boxes fuel)) β w I) I'->bc I' w'->Rel I' dM v d->next (a.put o.dst v) w'):
    o.wpIn F n P a w next Q:=by
  rcases hm with hm|hm
  .exact oJ hT hF ak hs hV (.inl hm) hk (.inl QB) (.inl QZ) vj iS (λb mk L _ _ _ _ hk=>(M4 b mk L hk).elim) dZ
  exact Q2 hT hF hs hV hm hk dE iS
end
theorem vG{p:Oper->Bool}{ops:List Oper}:∀{i:Nat}{o:Oper},i<(ops.takeWhile p).length->ops[i]?=some o->p o=true:=by
 induction ops with
 |nil=>intro i o h;simp at h
 |cons x r ih=>
  intro i o h ho;rw[List.takeWhile_cons]at h;split at h
  .rename_i hx
   cases i with
   |zero=>simp at ho;subst ho;exact hx
   |succ i=>exact ih (by simpa using h) (by simpa using ho)
  simp at h
theorem Ka{o:Oper}(h:AX o=true):dS o=true\/isApp o=true:=by
 unfold AX at h;rwa[Bool.or_eq_true]at h
theorem vH{o:Oper}(h:iJ o=true):dS o=true:=by
 unfold iJ at h;unfold dS;cases ho:o.op with
 |call c=>
  rw[ho]at h;simp only at h⊢;cases hc:c.callee with
  |builtin b=>rw[hc]at h;cases b<;>first|rfl|cases h
  |value f=>rfl
  |invoke r m=>rw[hc]at h;cases h
 |binOp op t x y ls=>rw[ho]at h;exact h
 |_=>first|rfl|(rw[ho]at h;cases h)
end Go.V
namespace Go.V
open Go.RowKit
def lQ(ops:List Oper)(U:St)(o:Oper):Option Bool:=
 match o.guard with
 |none=>some true
 |some (j,want)=>match cq ops U j with
  |true=>some false
  |false=>match guardOf ops U j with
   |none=>none
   |some b=>some (b==want)
section
variable{P:Program}[aM]{T:Nat->Option TI}{C:xa}{cx:Cx}{V:Nat->Prop}{U:St}{β:BE}{I:aW}{S:Nat->Prop}{N:Nat}{a:Act}{w:World}
omit [aM]in
theorem tg{fb:bE->Bool}{ops rest:List Oper}{o:Oper}{i:Nat}{K:St->Prop}(h:aL T C fb ops (o::rest) i U K):
    (lQ ops U o=some true/\ik T C fb (fj ops i) U o λσ'=>aL T C fb ops rest (i+1) σ' K)\/(lQ ops U o=some false/\aL T C fb ops rest (i+1) (U.put o.dst .j7) K):=by
  simp only[aL]at h;unfold lQ;cases hg:o.guard with
  |none=>rw[hg]at h;exact .inl ⟨rfl,h⟩
  |some jw=>
   obtain⟨j,want⟩:=jw;rw[hg]at h;simp only at h⊢;cases hu:cq ops U j with
   |true=>rw[hu]at h;exact .inr ⟨rfl,h⟩
   |false=>
    rw[hu]at h;simp only at h⊢;cases ho:guardOf ops U j with
    |none=>rw[ho]at h;exact h.elim
    |some b=>
     rw[ho]at h;cases b<;>cases want<;>simp only at h
     .exact .inl ⟨rfl,h⟩
     .exact .inr ⟨rfl,h⟩
     .exact .inr ⟨rfl,h⟩
     exact .inl ⟨rfl,h⟩
omit [aM]in
theorem bf.want{ops:Array Oper}{o:Oper}{b:Bool}(hs:bf cx V U β I S N a w)(hV:∀j want oj t,o.guard=some (j,want)->ops[j]?=some oj->oj.dst=some t->V t)(h:lQ ops.toList U o=some b):
    Region.wanted o (yielded ops a.tmps)=b:=by
  unfold lQ at h;unfold Region.wanted;cases hg:o.guard with
  |none=>rw[hg]at h;cases h;rfl
  |some jw=>
   obtain⟨j,want⟩:=jw;rw[hg]at h;simp only at h⊢;have e:ops[j]?=ops.toList[j]?:=by simp
   cases hu:cq ops.toList U j with
   |true=>
    rw[hu]at h;cases h;unfold cq at hu;unfold yielded;rw[e];cases ho:ops.toList[j]? with
    |none=>rw[ho]at hu;cases hu
    |some oj=>
     rw[ho]at hu;simp only at hu;cases hd:oj.dst with
     |none=>rw[hd]at hu;cases hu
     |some t=>
      rw[hd]at hu;simp only at hu;cases hl:look U.tmps t with
      |none=>rw[hl]at hu;cases hu
      |some d=>
       rw[hl]at hu;obtain⟨v,hv,hr⟩:=hs.tm t d (hV j want oj t hg (e.trans ho) hd) hl;cases d<;>first|(cases hu;done)|skip
       cases hr;simp[hd,hv]
   |false=>
    rw[hu]at h;simp only at h;cases vI:guardOf ops.toList U j with
    |none=>rw[vI]at h;cases h
    |some c=>
     rw[vI]at h;cases h;have:yielded ops a.tmps j=some c:=by
      unfold guardOf at vI;unfold yielded;rw[e];cases ho:ops.toList[j]? with
      |none=>rw[ho]at vI;cases vI
      |some oj=>
       rw[ho]at vI;simp only at vI;cases hd:oj.dst with
       |none=>rw[hd]at vI;cases vI
       |some t=>
        rw[hd]at vI;simp only at vI;cases hl:look U.tmps t with
        |none=>rw[hl]at vI;cases vI
        |some d=>
         rw[hl]at vI;obtain⟨v,hv,hr⟩:=hs.tm t d (hV j want oj t hg (e.trans ho) hd) hl;cases d<;>first|(cases vI;done)|skip
         .cases vI;cases hr;simp[hd,hv]
         cases vI;cases hr;simp[hd,hv]
     rw[this];cases c<;>cases want<;>rfl
def bd(b:Bool):D:=match b with|true=>.tt|false=>.ff
inductive Part:bE->bE->Prop
 |same (e:bE):Part e e
 |val (b:Bool):Part (.val (.bool b)) (.val (bd b))
 |res (b:Bool) (as:List D):Part (.res (.bool b) as) (.res (bd b) as)
omit [aM]in
theorem HG{fb:bE->Bool}(Dv:((∀b y,fb (.yielded b y)=true)/\∀b y nb,fb (.fO b y nb)=true)/\(∀d bs y,fb (.dJ d bs y)=true)/\∀b mk L,fb (.eo b mk L)=true){g:Bool}{o:Oper}(hm:dS o=true\/(isApp o=true/\∀i b d,fb (.set i b d)=true)){K:St->Prop}(h:ik T C fb g U o K):
    ∃e e',Je U e/\Part e e'/\(∀σ',Le o U σ'->∀k':bE->Prop,k' e->dC T C σ' o k')/\K (bJ U o.dst e'):=by
  rw[AV]at h;unfold yU at h;obtain⟨e,hk,lR,hw⟩:∃e,nx fb g U o.dst K e/\Je U e/\∀σ',Le o U σ'->∀k':bE->Prop,k' e->dC T C σ' o k':=by
   rcases hm with hm|⟨hm,dE⟩
   .exact F0 hm ⟨λb y hh=>by unfold nx at hh;rw[Dv.1.1]at hh;exact hh,λb y nb hh=>by unfold nx at hh;rw[Dv.1.2]at hh;exact hh⟩ (λd bs y hh=>by unfold nx at hh;rw[Dv.2.1]at hh;exact hh) (λb mk L hh=>by unfold nx at hh;rw[Dv.2.2]at hh;exact hh) h
   exact J8 hm (λi b d hh=>by unfold nx at hh;rw[dE]at hh;exact hh) h
  unfold nx at hk;cases hf:fb e with
  |true=>rw[hf]at hk;exact hk.elim
  |false=>
  rw[hf]at hk;simp only at hk;cases e with
  |val d=>
   cases g with
   |false=>exact⟨_,_,lR,.same _,hw,hk⟩
   |true=>
    cases d with
    |bool b=>
     cases b with
     |true=>exact⟨_,_,lR,.val true,hw,hk.1 rfl⟩
     |false=>exact⟨_,_,lR,.val false,hw,hk.2 rfl⟩
    |_=>exact⟨_,_,lR,.same _,hw,hk⟩
  |res d as=>
   cases g with
   |false=>exact⟨_,_,lR,.same _,hw,hk⟩
   |true=>
    cases d with
    |bool b=>
     cases b with
     |true=>exact⟨_,_,lR,.res true as,hw,hk.1 rfl⟩
     |false=>exact⟨_,_,lR,.res false as,hw,hk.2 rfl⟩
    |_=>exact⟨_,_,lR,.same _,hw,hk⟩
  |new b mk=>cases g<;>exact⟨_,_,lR,.same _,hw,hk⟩
  |set i b d=>exact lR.elim
  |yielded b y=>exact lR.elim
  |dJ d bs y=>exact lR.elim
  |eo b mk L=>exact lR.elim
  |fO b y nb=>exact lR.elim
def BB(T:Nat->Option TI)(C:xa)(ops:List Oper)(o:Oper)(U σ':St):Prop:=
 (lQ ops U o=some false/\σ'=U.put o.dst .j7)\/
 (lQ ops U o=some true/\∃e e',Je U e/\Part e e'/\(∀uu,Le o U uu->∀k':bE->Prop,k' e->dC T C uu o k')/\σ'=bJ U o.dst e')
omit [aM]in
theorem jS{fb:bE->Bool}(Dv:((∀b y,fb (.yielded b y)=true)/\∀b y nb,fb (.fO b y nb)=true)/\(∀d bs y,fb (.dJ d bs y)=true)/\∀b mk L,fb (.eo b mk L)=true){ops:List Oper}{K:St->Prop}:∀(l1 l2:List Oper)(i:Nat)(U:St),(∀o∈l1,dS o=true\/(isApp o=true/\∀i b d,fb (.set i b d)=true))->aL T C fb ops (l1++l2) i U K->
    ∃σs:Nat->St,σs 0=U/\(∀(j:Nat)(o:Oper),l1[j]?=some o->BB T C ops o (σs j) (σs (j+1)))/\aL T C fb ops l2 (i+l1.length) (σs l1.length) K
  |[],l2,i,U,_,h=>⟨λ_=>U,rfl,λj o ho=>by simp at ho,h⟩
  |o::l1,l2,i,U,hm,h=>by
   have main:∀σ',BB T C ops o U σ'->aL T C fb ops (l1++l2) (i+1) σ' K->∃σs:Nat->St,σs 0=U/\(∀(j:Nat)(o':Oper),(o::l1)[j]?=some o'->BB T C ops o' (σs j) (σs (j+1)))/\aL T C fb ops l2 (i+(o::l1).length) (σs (o::l1).length) K:=by
    intro σ' cH hr;obtain⟨σs,h0,h1,h2⟩:=jS Dv l1 l2 (i+1) σ' (λo ho=>hm o (by simp[ho])) hr;refine⟨λj=>match j with|0=>U|j+1=>σs j,rfl,?_,?_⟩
    .intro j o' ho
     cases j with
     |zero=>simp at ho;subst ho;simp only;rw[h0];exact cH
     |succ j=>exact h1 j o' (by simpa using ho)
    simp only[List.length_cons];have:i+(l1.length+1)=i+1+l1.length:=by omega
    rw[this];exact h2
   rcases tg h with⟨hw,h⟩|⟨hw,h⟩
   .obtain⟨e,e',h1,h2,h3,h4⟩:=HG Dv (hm o (by simp)) h
    exact main _ (.inr ⟨hw,e,e',h1,h2,h3,rfl⟩) h4
   exact main _ (.inl ⟨hw,rfl⟩) h
omit [aM]in
theorem nO{U:St}{dst:Option Nat}{d:D}{t:Nat}(h:dst≠some t):look (U.put dst d).tmps t=look U.tmps t:=by
 cases dst with
 |none=>rfl
 |some u=>
  simp only[St.put,look];have:Nat.beq u t=false:=Bool.eq_false_iff.2 λhh=>h (by rw[Nat.eq_of_beq_eq_true hh]);rw[this]
omit [aM]in
theorem lE{U:St}{d:D}{t:Nat}:look (U.put (some t) d).tmps t=some d:=by
 simp[St.put,look]
omit [aM]in
theorem Je.part{U:St}{e e':bE}(h:Je U e)(hp:Part e e'):Je U e':=by
 cases hp with
 |same=>exact h
 |val b=>trivial
 |res b as=>exact h
omit [aM]in
theorem xu(bs:List af)(d:D)(as:List D):Bg bs (aK bs d as):=λi box hb=>by
 unfold aK;split
 .exact .inl hb
 rw[ck _ _ _ _ _ hb];split
 .exact .inr rfl
 exact .inl rfl
omit [aM]in
theorem bX{U:St}{dst:Option Nat}{d:D}:(U.put dst d).boxes=U.boxes:=by cases dst<;>rfl
omit [aM]in
theorem Kb{U:St}{dst:Option Nat}{d:D}:(U.put dst d).y=U.y:=by cases dst<;>rfl
omit [aM]in
theorem BC{U:St}{e:bE}(h:Je U e):Bg U.boxes (cD U e):=by
 cases e with
 |val d=>exact Bg.refl _
 |new b mk=>intro i box hb;left;show(U.boxes++[b])[i]?=_;rw[List.getElem?_append_left (List.getElem?_eq_some_iff.1 hb).1];exact hb
 |res d as=>exact xu _ _ _
 |set i b d=>exact h.elim
 |yielded b y=>exact h.elim
 |dJ d bs y=>exact h.elim
 |eo b mk L=>exact h.elim
 |fO b y nb=>exact h.elim
omit [aM]in
theorem BB.bg{ops:List Oper}{o:Oper}{U σ':St}(h:BB T C ops o U σ'):Bg U.boxes σ'.boxes:=by
 rcases h with⟨_,rfl⟩|⟨_,e,e',h1,h2,_,rfl⟩
 .rw[bX];exact Bg.refl _
 unfold bJ;rw[bX];exact BC (h1.part h2)
omit [aM]in
theorem BB.look{ops:List Oper}{o:Oper}{U σ':St}(h:BB T C ops o U σ'){t:Nat}(ht:o.dst≠some t):look σ'.tmps t=look U.tmps t:=by
 rcases h with⟨_,rfl⟩|⟨_,e,e',h1,h2,_,rfl⟩
 .exact nO ht
 have h3:=h1.part h2;unfold bJ;refine(nO ht).trans ?_;cases e'<;>first|rfl|exact h3.elim
omit [aM]in
theorem BB.y{ops:List Oper}{o:Oper}{U σ':St}(h:BB T C ops o U σ'):σ'.y=U.y:=by
 rcases h with⟨_,rfl⟩|⟨_,e,e',h1,h2,_,rfl⟩
 .exact Kb
 unfold bJ;rw[Kb];have:=h1.part h2;cases e'<;>first|rfl|exact this.elim
omit [aM]in
theorem iw(bs:List af)(d:D)(as:List D):(aK bs d as).length=bs.length:=by
 unfold aK;split
 .rfl
 exact aO _ _ _
omit [aM]in
theorem BB.len{ops:List Oper}{o:Oper}{U σ':St}(h:BB T C ops o U σ'):U.boxes.length<=σ'.boxes.length/\σ'.boxes.length<=U.boxes.length+1:=by
 rcases h with⟨_,rfl⟩|⟨_,e,e',h1,h2,_,rfl⟩
 .rw[bX];omega
 unfold bJ;rw[bX];have:=h1.part h2;cases e' with
 |val d=>simp[cD]
 |new b mk=>simp[cD]
 |res d as=>simp[cD,iw]
 |set i b d=>exact this.elim
 |yielded b y=>exact this.elim
 |dJ d bs y=>exact this.elim
 |eo b mk L=>exact this.elim
 |fO b y nb=>exact this.elim
omit [aM]in
theorem bf.move{V':Nat->Prop}{σ':St}(h:bf cx V U β I S N a w)(ht:∀t,V' t->V t/\look σ'.tmps t=look U.tmps t)(hb:Bg U.boxes σ'.boxes)(hy:σ'.y=U.y):bf cx V' σ' β I S N a w:=
 {h with
  tm:=λt d hV hl=>h.tm t d (ht t hV).1 ((ht t hV).2▸hl)
  j:=by rw[hy];exact h.j
  bx:=λi b hβ=>by
   obtain⟨box,h1,h2⟩:=h.bx i b hβ;rcases hb i box h1 with h3|h3
   .exact⟨box,h3,h2⟩
   exact⟨_,h3,by cases box<;>exact h2⟩
  clear:=λi b R box hβ hR aN hf=>by
   obtain⟨D0,h1,h2⟩:=h.bx i b hβ;rcases hb i D0 h1 with h3|h3
   .rw[aN]at h3;cases h3
    exact h.clear i b R _ hβ hR h1 hf
   rw[aN]at h3;cases h3;rw[af.lO]at hf;cases hf}
omit [aM]in
theorem bf.fill{V':Nat->Prop}(h:bf cx V U β I S N a w){dst:Option Nat}{v:Value}(hd:∀t,dst=some t->t<N)(hV:∀t,V' t->dst=some t\/V t)
    (hr:∀t d,dst=some t->look U.tmps t=some d->Rel I β v d):bf cx V' U β I S N (a.put dst v) w:=by
  cases dst with
  |none=>exact{h with tm:=λt d ht hl=>h.tm t d ((hV t ht).resolve_left (by simp)) hl}
  |some u=>
   refine{h with tm:=?_,sz:=by simp[Act.put,h.sz],marks:=h.marks,ep:=h.ep,dn:=h.dn,nd:=h.nd};intro t d ht hl;by_cases xl:u=t
   .subst xl
    exact⟨v,by simp[Act.put,h.sz,hd u rfl],hr u d rfl hl⟩
   obtain⟨x,hx,AY⟩:=h.tm t d ((hV t ht).resolve_left (by simpa using xl)) hl;exact⟨x,by simp only[Act.put];rw[Array.getElem?_setIfInBounds_ne xl];exact hx,AY⟩
end
end Go.V
namespace Go.V
open Go.RowKit
inductive gA(ops:Array Oper):Oper->Nat->Prop
 |p2 {o:Oper} {j:Nat} (h:∃e∈o.after.toList,e.on=j/\Region.binds .any e=true):gA ops o j
 |via {o ok:Oper} {k j:Nat} (h:∃e∈o.after.toList,e.on=k/\Region.binds .any e=true) (hk:ops[k]?=some ok) (hj:gA ops ok j):gA ops o j
structure DrawB(ops:Array Oper)(m:Nat):Prop where
 le:m<=ops.size
 dS:∀(i:Nat)(o:Oper),i<m->ops[i]?=some o->V.dS o=true\/isApp o=true
 p2:∀(i:Nat)(o:Oper)(e:Edge),ops[i]?=some o->e∈o.after.toList->Region.binds .any e=true->e.on<i
 guard:∀(i:Nat)(o:Oper)(g:Nat)(want:Bool),ops[i]?=some o->o.guard=some (g,want)->g<i
 apart:∀(i j:Nat)(oi oj:Oper)(t:Nat),i<m->j<m->ops[i]?=some oi->ops[j]?=some oj->oj.dst=some t->
  (Operand.tmp t∈oi.op.operands.toList->j<i/\∃e∈oi.after.toList,e.on=j/\Region.binds .any e=true)/\(i=j\/oi.dst≠some t)
 HH:∀(i:Nat)(oi:Oper)(g:Nat)(want:Bool),i<m->ops[i]?=some oi->oi.guard=some (g,want)->∃e∈oi.after.toList,e.on=g/\Region.binds .any e=true
structure vJ(ops:Array Oper)(m:Nat):Prop extends DrawB ops m where
 tail:∀(i:Nat)(o:Oper)(j:Nat),m<=i->ops[i]?=some o->j<i->gA ops o j
theorem c8{o:Oper}{j:Nat}(h:fm o j=true):∃e∈o.after.toList,e.on=j/\Region.binds .any e=true:=by
 unfold fm at h;obtain⟨e,he,h⟩:=List.any_eq_true.1 h;simp only[Bool.and_eq_true]at h;refine⟨e,he,Nat.eq_of_beq_eq_true h.1,?_⟩;have h2:=h.2;unfold Region.binds;cases hg:e.ground<;>rw[hg]at h2<;>first|rfl|cases h2
theorem gA.snoc{ops:Array Oper}{o os:Oper}{s j:Nat}(h:gA ops o s)(hs:ops[s]?=some os)(he:∃e∈os.after.toList,e.on=j/\Region.binds .any e=true):gA ops o j:=by
 induction h with
 |p2 h=>exact .via h hs (.p2 he)
 |via h hk _ ih=>exact .via h hk (ih hs)
theorem vK{ops:Array Oper}{i:Nat}{o:Oper}(ho:ops[i]?=some o)(h:∀j,j<i->∃s,s<=i/\j<s/\fm (ops.toList.getD s default) j=true):∀(d j:Nat),j<i->i-j<=d->gA ops o j
 |0,j,hj,hd=>by omega
 |d+1,j,hj,hd=>by
  obtain⟨s,h1,h2,h3⟩:=h j hj;have QS:s<ops.size:=by have:=(Array.getElem?_eq_some_iff.1 ho).1;omega
  have Jf:ops[s]?=some ops[s]:=Array.getElem?_eq_getElem QS;have aab:ops.toList[s]?=some ops[s]:=by simp
  rw[List.getD_eq_getElem?_getD,aab]at h3;rcases Nat.lt_or_ge s i with cG|Dt
  .exact(vK ho h d s cG (by omega)).snoc Jf (c8 h3)
  have:s=i:=by omega
  subst this;rw[ho]at Jf;cases Jf;exact .p2 (c8 h3)
theorem gA.lt{ops:Array Oper}{o:Oper}{j:Nat}(h:gA ops o j)(Kc:∀(i:Nat)(o:Oper)(e:Edge),ops[i]?=some o->e∈o.after.toList->Region.binds .any e=true->e.on<i):∀{n:Nat},(∀e∈o.after.toList,Region.binds .any e=true->e.on<n)->j<n:=by
 induction h with
 |p2 h=>intro n hn;obtain⟨e,he,rfl,hb⟩:=h;exact hn e he hb
 |via h hk _ ih=>
  intro n hn;obtain⟨e,he,rfl,hb⟩:=h;have h1:=hn e he hb;exact ih λe' fL eW=>Nat.lt_trans (Kc _ _ e' hk fL eW) h1
theorem gA.listed{ops:Array Oper}{o:Oper}{j:Nat}(h:gA ops o j){L:Nat->Prop}(qL:∀(i:Nat)(o:Oper)(e:Edge),ops[i]?=some o->L i->e∈o.after.toList->Region.binds .any e=true->L e.on):(∀e∈o.after.toList,Region.binds .any e=true->L e.on)->L j:=by
 induction h with
 |p2 h=>intro hn;obtain⟨e,he,rfl,hb⟩:=h;exact hn e he hb
 |via h hk _ ih=>
  intro hn;obtain⟨e,he,rfl,hb⟩:=h;have h1:=hn e he hb;exact ih λe' fL eW=>qL _ _ e' hk h1 fL eW
theorem lF{ops:List Oper}:∀{i:Nat}{o:Oper},i<(ops.takeWhile dS).length->ops[i]?=some o->dS o=true:=by
 induction ops with
 |nil=>intro i o h;simp at h
 |cons x r ih=>
  intro i o h ho;rw[List.takeWhile_cons]at h;split at h
  .rename_i hx
   cases i with
   |zero=>simp at ho;subst ho;exact hx
   |succ i=>exact ih (by simpa using h) (by simpa using ho)
  simp at h
theorem lG{ops:Array Oper}{m:Nat}(hm:m<=(ops.toList.takeWhile dS).length)(h:ny ops.toList m=true):vJ ops m:=by
 have hle:(ops.toList.takeWhile dS).length<=ops.size:=by
  have:=List.takeWhile_prefix (p:=dS) (l:=ops.toList)|>.length_le;simpa using this
 have cM:∀{i o},ops[i]?=some o->ops.toList.getD i default=o:=λ{i o} ho=>by
  have:ops.toList[i]?=some o:=by simpa using ho
  rw[List.getD_eq_getElem?_getD,this];rfl
 unfold ny at h;simp only[Bool.and_eq_true,List.all_eq_true,List.mem_range,Bool.or_eq_true]at h;obtain⟨h1,h2⟩:=h;have cG:∀{i o},ops[i]?=some o->i<ops.toList.length:=λ{i o} ho=>by
  have:=(Array.getElem?_eq_some_iff.1 ho).1;simpa using this
 refine⟨⟨Nat.le_trans hm hle,λi o hi ho=>.inl (lF (Nat.lt_of_lt_of_le hi hm) (by simpa using ho)),?_,?_,?_,?_⟩,?_⟩
 .intro i o e ho he hb
  rcases(h1 i (cG ho)).1.1 e (by rw[cM ho];exact he)with h|h
  .exact Nat.blt_eq▸h
  exfalso;unfold yV at h;unfold Region.binds at hb;cases hg:e.ground<;>rw[hg]at h hb<;>first|(simp at h;done)|(simp at hb;done)
 .intro i o g want ho hg
  have:=(h1 i (cG ho)).1.2;rw[cM ho,hg]at this;exact Nat.blt_eq▸this
 .intro i j oi oj t hi hj xr gF hd
  have:=(h2 i hi).1 j hj;rw[cM xr,cM gF,hd]at this;simp only[Bool.and_eq_true,Bool.or_eq_true,Bool.not_eq_true']at this;obtain⟨h3,h4⟩:=this;refine⟨λdv=>?_,?_⟩
  .rcases h3 with h3|h3
   .exfalso
    have:(tmpsOf oi).contains t=true:=by
     rw[List.contains_iff_mem];exact List.mem_filterMap.2 ⟨.tmp t,dv,rfl⟩
    rw[this]at h3;cases h3
   exact⟨Nat.blt_eq▸h3.1,c8 h3.2⟩
  rcases h4 with h4|h4
  .exact .inl (Nat.eq_of_beq_eq_true h4)
  refine .inr λe=>?_;rw[e]at h4;simp at h4
 .intro i oi g want hi xr hg
  have:=(h2 i hi).2;rw[cM xr,hg]at this;exact c8 this
 intro i o j hi ho hj;rcases(h1 i (cG ho)).2 with hh|hh
 .have:i<_:=Nat.blt_eq▸hh
  omega
 refine vK ho (λk hk=>?_) i j hj (by omega);obtain⟨s,hs,h3⟩:=List.any_eq_true.1 (hh k hk);rw[List.mem_range]at hs;simp only[Bool.and_eq_true]at h3;exact⟨s,by omega,Nat.blt_eq▸h3.1,h3.2⟩
theorem BD{ops:Array Oper}(h:ly ops.toList=true):∃m,m<=(ops.toList.takeWhile dS).length/\vJ ops m:=by
 unfold ly at h;rw[Bool.or_eq_true]at h;rcases h with h|h
 .exact⟨_,Nat.le_refl _,lG (Nat.le_refl _) h⟩
 have main:∀l:List Oper,(l.takeWhile λo=>dS o&&!(uX o)).length<=(l.takeWhile dS).length:=by
   intro l
   induction l with
   |nil=>exact Nat.le_refl _
   |cons x r ih=>
    rw[List.takeWhile_cons,List.takeWhile_cons];cases hx:dS x with
    |false=>simp
    |true=>
     cases hy:uX x with
     |true=>simp
     |false=>simp;exact ih
 exact⟨_,main _,lG (main _) h⟩
theorem dq{l:Array Bool}{i:Nat}(h:l.getD i false=true):l.getD i true=true:=by
 rcases Nat.lt_or_ge i l.size with h'|h'
 .simp[h']at h⊢;exact h
 simp[Array.getElem?_eq_none h']at h
theorem Kd{bs:List af}:∀(n:Nat){d d':D},reify bs n d=some d'->∀i,i∈aF bs n d->i<bs.length:=by
 intro n
 induction n with
 |zero=>intro d d' h;cases h
 |succ n ih=>
  intro d d' h i hi;have list:∀{ds es:List D},bY (reify bs n) ds=some es->i∈ds.flatMap (aF bs n)->i<bs.length:=λ{ds es} hm hi=>by
   obtain⟨d,hd,hi⟩:=List.mem_flatMap.1 hi;obtain⟨e,he⟩:=nN hm d hd;exact ih he i hi
  cases d with
  |agg cs=>
   simp only[reify]at h;cases hm:bY (reify bs n) cs with
   |none=>rw[hm]at h;cases h
   |some l=>exact list hm hi
  |b9 cs=>
   simp only[reify]at h;cases hm:bY (reify bs n) cs with
   |none=>rw[hm]at h;cases h
   |some l=>exact list hm hi
  |bR fn fs cs=>
   simp only[reify]at h;cases hm:bY (reify bs n) fs with
   |none=>rw[hm]at h;cases h
   |some l=>
    rw[hm]at h;cases Dr:bY (reify bs n) cs with
    |none=>rw[Dr]at h;cases h
    |some l'=>
     simp only[aF,List.mem_append]at hi;exact hi.elim (list hm) (list Dr)
  |loc j off|bH j off=>
   simp only[reify]at h;cases jt:bs[j]? with
   |none=>rw[jt]at h;cases h
   |some box=>
    rw[jt]at h;cases box with
    |rows=>cases h
    |map=>cases h
    |aA=>cases h
    |aJ=>cases h
    |flat fz cells=>
     simp only at h;cases hm:bY (reify bs n) (cells.drop off)with
     |none=>rw[hm]at h;cases h
     |some l=>
      simp only[aF,jt,List.mem_cons]at hi;rcases hi with rfl|hi
      .exact(List.getElem?_eq_some_iff.1 jt).1
      exact list hm hi
  |gj j off sz len=>
   simp only[reify]at h;cases jt:bs[j]? with
   |none=>rw[jt]at h;cases h
   |some box=>
    rw[jt]at h;cases box with
    |rows=>cases h
    |map=>cases h
    |aA=>cases h
    |aJ=>cases h
    |flat fz cells=>
     simp only at h;cases hf:fits cells off (len*sz)with
     |false=>rw[hf]at h;cases h
     |true=>
      rw[hf]at h;cases hm:bY (reify bs n) ((cells.drop off).take (len*sz))with
      |none=>rw[hm]at h;cases h
      |some l=>
       simp only[aF,jt,List.mem_cons]at hi;rcases hi with rfl|hi
       .exact(List.getElem?_eq_some_iff.1 jt).1
       exact list hm hi
  |sl j g off len=>
   simp only[reify]at h;cases jt:bs[j]? with
   |none=>rw[jt]at h;cases h
   |some box=>
    simp only[aF,List.mem_singleton]at hi;subst hi;exact(List.getElem?_eq_some_iff.1 jt).1
  |cn j=>
   simp only[reify]at h;cases jt:bs[j]? with
   |none=>rw[jt]at h;cases h
   |some box=>
    simp only[aF,List.mem_singleton]at hi;subst hi;exact(List.getElem?_eq_some_iff.1 jt).1
  |eL|j7|j8|bM|iY=>cases h
  |_=>simp[aF]at hi
theorem HI{bs:List af}{ds es:List D}(h:fi bs ds=some es):∀i,i∈ds.flatMap (aF bs fuel)->i<bs.length:=λi hi=>by
 obtain⟨d,hd,hi⟩:=List.mem_flatMap.1 hi;obtain⟨e,he⟩:=nN h d hd;exact Kd fuel he i hi
section
variable{P:Program}[aM]{sh:er}{ish:Nat->Bool}{T:Nat->Option TI}{C:xa}{cx:Cx}{V:Nat->Prop}{U:St}{β:BE}{I:aW}{S:Nat->Prop}{N:Nat}{a:Act}{w:World}
structure AO(T:Nat->Option TI)(C:xa)(ops:Array Oper)(m:Nat)(σs:Nat->St):Prop where
 step:∀(i:Nat)(o:Oper),i<m->ops[i]?=some o->BB T C ops.toList o (σs i) (σs (i+1))
variable{ops:Array Oper}{m:Nat}{σs:Nat->St}
omit [aM]in
theorem AO.bg(h:AO T C ops m σs)(hm:m<=ops.size):∀(k i:Nat),i+k<=m->Bg (σs i).boxes (σs (i+k)).boxes
 |0,i,_=>Bg.refl _
 |k+1,i,hk=>(h.bg hm k i (by omega)).trans ((h.step (i+k) _ (by omega) (Array.getElem?_eq_getElem (by omega))).bg)
omit [aM]in
theorem AO.y(h:AO T C ops m σs)(hm:m<=ops.size):∀(k i:Nat),i+k<=m->(σs (i+k)).y=(σs i).y
 |0,i,_=>rfl
 |k+1,i,hk=>((h.step (i+k) _ (by omega) (Array.getElem?_eq_getElem (by omega))).y).trans (h.y hm k i (by omega))
omit [aM]in
theorem AO.len(h:AO T C ops m σs)(hm:m<=ops.size):∀(k i:Nat),i+k<=m->(σs i).boxes.length<=(σs (i+k)).boxes.length
 |0,i,_=>Nat.le_refl _
 |k+1,i,hk=>Nat.le_trans (h.len hm k i (by omega)) ((h.step (i+k) _ (by omega) (Array.getElem?_eq_getElem (by omega))).len).1
omit [aM]in
theorem AO.look(h:AO T C ops m σs)(hm:m<=ops.size){t:Nat}:∀(k i:Nat),i+k<=m->(∀(j:Nat)(o:Oper),i<=j->j<i+k->ops[j]?=some o->o.dst≠some t)->look (σs (i+k)).tmps t=look (σs i).tmps t
 |0,i,_,_=>rfl
 |k+1,i,hk,hd=>((h.step (i+k) _ (by omega) (Array.getElem?_eq_getElem (by omega))).look (hd (i+k) _ (by omega) (by omega) (Array.getElem?_eq_getElem (by omega)))).trans
    (h.look hm k i (by omega) λj o h1 h2=>hd j o h1 (by omega))
omit [aM]in
theorem AO.made(h:AO T C ops m σs)(hm:m<=ops.size)(b:Nat):∀k,k<=m->b<(σs k).boxes.length->b<(σs 0).boxes.length\/∃i,i<k/\(σs i).boxes.length<=b/\b<(σs (i+1)).boxes.length
 |0,_,hb=>.inl hb
 |k+1,hk,hb=>by
  by_cases eW:b<(σs k).boxes.length
  .rcases h.made hm b k (by omega) eW with h|⟨i,h1,h2⟩
   .exact .inl h
   exact .inr ⟨i,by omega,h2⟩
  exact .inr ⟨k,by omega,by omega,hb⟩
def Vl(ops:Array Oper)(m:Nat)(listed:Array Bool)(t:Nat):Prop:=∀(j:Nat)(o:Oper),j<m->ops[j]?=some o->listed.getD j true=false->o.dst≠some t
def Bl(σs:Nat->St)(m:Nat)(listed:Array Bool)(β:BE):Prop:=
 ∀b,(β b).isSome=true↔(b<(σs 0).boxes.length\/∃i,i<m/\listed.getD i true=true/\(σs i).boxes.length<=b/\b<(σs (i+1)).boxes.length)
theorem xV(hT:br P T){F:Fence}(hF:FW F)(ak:cx.Ok)(hd:DrawB ops m)(hr:AO T (CD P sh) ops m σs)(bZ:∀o∈ops.toList,∀t,o.dst=some t->t<N){n:Nat}{listed:Array Bool}(zd:listed.size=ops.size)
    (hs:bf cx (Vl ops m listed) (σs m) β I S N a w)(hb:Bl σs m listed β){i:Nat}(jA:i<m)(YI:i∈Region.ready .any ops listed){next:Act->World->Prop}{Q:Exit->Act->World->Prop}
    (bU:∀β' I' a' w',bf cx (Vl ops m (listed.setIfInBounds i true)) (σs m) β' I' S N a' w'->Bl σs m (listed.setIfInBounds i true) β'->next a' w'):wpOpIn F n P ops Q i next a w:=by
  obtain⟨jT,o,ho,Q3⟩:=mem_ready.1 YI;have eX:o∈ops.toList:=List.mem_of_getElem? (by simpa using ho);have Eg:=bZ o eX;have cH:=hr.step i o jA ho;have Vc:Bg (σs i).boxes (σs m).boxes:=by have:=hr.bg hd.le (m-i) i (by omega);rwa[show i+(m-i)=m by omega]at this
  have Pz:Bg (σs (i+1)).boxes (σs m).boxes:=by have:=hr.bg hd.le (m-(i+1)) (i+1) (by omega);rwa[show i+1+(m-(i+1))=m by omega]at this
  have cL:∀t,(∀(j:Nat)(oj:Oper),i<=j->j<m->ops[j]?=some oj->oj.dst≠some t)->look (σs m).tmps t=look (σs i).tmps t:=λt ht=>by
   have:=hr.look hd.le (t:=t) (m-i) i (by omega) (λj oj h1 h2=>ht j oj h1 (by omega))
   rwa[show i+(m-i)=m by omega]at this
  have BF:∀j,(∃e∈o.after.toList,e.on=j/\Region.binds .any e=true)->listed.getD j true=true:=by
   rintro j⟨e,he,rfl,ug⟩;exact dq (Q3 e (by simpa using he) ug)
  have FR:∀t,Operand.tmp t∈o.op.operands.toList->Vl ops m listed t/\look (σs m).tmps t=look (σs i).tmps t:=by
   intro t ht;refine⟨λj oj hj gF kQ qM=>?_,cL t λj oj h1 h2 gF qM=>?_⟩
   .have:=BF j (((hd.apart i j o oj t jA hj ho gF qM).1 ht).2)
    rw[this]at kQ;cases kQ
   have:=((hd.apart i j o oj t jA h2 ho gF qM).1 ht).1;omega
  have Eh:∀(j:Nat)(want:Bool)(oj:Oper)(t:Nat),o.guard=some (j,want)->ops[j]?=some oj->oj.dst=some t->Vl ops m listed t/\look (σs m).tmps t=look (σs i).tmps t:=by
   intro j want oj t hg gF qM;have ie:=hd.guard i o j want ho hg;have hlj:=BF j (hd.HH i o j want jA ho hg);refine⟨λk ok hk du Vd FB=>?_,cL t λk ok h1 h2 du FB=>?_⟩
   .rcases(hd.apart k j ok oj t hk (by omega) du gF qM).2 with rfl|h
    .rw[hlj]at Vd;cases Vd
    exact h FB
   rcases(hd.apart k j ok oj t h2 (by omega) du gF qM).2 with rfl|h
   .omega
   exact h FB
  have PA:lQ ops.toList (σs m) o=lQ ops.toList (σs i) o:=by
   unfold lQ;cases hg:o.guard with
   |none=>rfl
   |some jw=>
    obtain⟨j,want⟩:=jw;have e1:cq ops.toList (σs m) j=cq ops.toList (σs i) j/\guardOf ops.toList (σs m) j=guardOf ops.toList (σs i) j:=by
     unfold cq guardOf;cases gF:ops.toList[j]? with
     |none=>exact⟨rfl,rfl⟩
     |some oj=>
      simp only;cases qM:oj.dst with
      |none=>exact⟨rfl,rfl⟩
      |some t=>
       simp only;rw[(Eh j want oj t hg (by simpa using gF) qM).2];exact⟨rfl,rfl⟩
    simp only;rw[e1.1,e1.2]
  have nP:∀t,Vl ops m (listed.setIfInBounds i true) t->o.dst=some t\/Vl ops m listed t:=by
   intro t ht;by_cases nf:o.dst=some t
   .exact .inl nf
   refine .inr λj oj hj gF kQ=>?_;by_cases ie:j=i
   .subst ie;rw[ho]at gF;cases gF;exact nf
   exact ht j oj hj gF (by rw[getD_set_ne true (Ne.symm ie)];exact kQ)
  have qp:i<listed.size:=by rw[zd];exact(Array.getElem?_eq_some_iff.1 ho).1
  have dE:∀j,(listed.setIfInBounds i true).getD j true=true↔(j=i\/listed.getD j true=true):=by
   intro j;by_cases ie:j=i
   .subst ie;simp[qp]
   rw[getD_set_ne true (Ne.symm ie)];simp[ie]
  have mN:∀{j k},j<=k->k<=m->(σs j).boxes.length<=(σs k).boxes.length:=λ{j k} h1 h2=>by
   have:=hr.len hd.le (k-j) j (by omega)
   rwa[show j+(k-j)=k by omega]at this
  have Ei:(σs (i+1)).boxes.length=(σs i).boxes.length->Bl σs m (listed.setIfInBounds i true) β:=by
   intro heq b;rw[hb b];constructor
   .rintro(h|⟨j,h1,h2,h3⟩)
    .exact .inl h
    exact .inr ⟨j,h1,(dE j).2 (.inr h2),h3⟩
   rintro(h|⟨j,h1,h2,h3,h4⟩)
   .exact .inl h
   rcases(dE j).1 h2 with rfl|h2
   .omega
   exact .inr ⟨j,h1,h2,h3,h4⟩
  unfold wpOpIn;simp only[ho];have F2:∀t,o.dst=some t->look (σs m).tmps t=look (σs (i+1)).tmps t:=λt ht=>by
   have:=hr.look hd.le (t:=t) (m-(i+1)) (i+1) (by omega) (λj oj h1 h2 gF qM=>by
    rcases(hd.apart j i oj o t (by omega) jA gF ho ht).2 with h|h
    .omega
    exact h qM)
   rwa[show i+1+(m-(i+1))=m by omega]at this
  rcases cH with⟨hw,hσ⟩|⟨hw,e,e',lR,th,Ke,hσ⟩
  ·
   have:=hs.want (λj want oj t hg gF qM=>(Eh j want oj t hg gF qM).1) (PA.trans hw);rw[if_neg (by rw[this];simp)];refine⟨λf _=>hF.fn f,bU β I _ w (hs.fill Eg nP λt d nf hl=>?_) (Ei (by rw[hσ,bX]))⟩;rw[F2 t nf,hσ,nf,lE]at hl;cases hl;exact .j7
  have:=hs.want (λj want oj t hg gF qM=>(Eh j want oj t hg gF qM).1) (PA.trans hw);rw[if_pos this];have hle:Le o (σs i) (σs m):=⟨λx hx=>by
   cases x with
   |tmp t=>exact(FR t hx).2
   |_=>rfl,Vc⟩
  have Ej:∀t d,o.dst=some t->look (σs m).tmps t=some d->d=nv (σs i) e':=λt d nf hl=>by
   rw[F2 t nf,hσ,nf]at hl;unfold bJ at hl;rw[lE]at hl;cases hl;rfl
  refine J9 hT hF hs (λt ht=>(FR t ht).1) (hd.dS i o jA ho) ak (k:=λe₁=>e₁=e) (Ke _ hle _ rfl) ⟨λb y hh=>by rw[<-hh]at lR;exact lR,λb y nb hh=>by rw[<-hh]at lR;exact lR⟩ (λd bs y hh=>by rw[<-hh]at lR;exact lR) (λb mk L hh=>by rw[<-hh]at lR;exact lR) (λi b d hh=>by rw[<-hh]at lR;exact lR) ?_ ?_ ?_
  ·
   rintro d v rfl aq;refine bU β I _ w (hs.fill Eg nP λt d' nf hl=>?_) (Ei ?_)
   .rw[Ej t d' nf hl]
    cases th with
    |same=>exact aq
    |val b=>cases aq;cases b<;>first|exact .tt|exact .ff
   rw[hσ];unfold bJ;rw[bX];cases th<;>rfl
  ·
   rintro b mk v w' bi rfl HB cL gT cV ph aq;have fL:e'=.new b mk:=by cases th;rfl
   subst fL;have hlen:(σs (i+1)).boxes=(σs i).boxes++[b]:=by rw[hσ];unfold bJ;rw[bX];rfl
   have aN:∃b',(σs m).boxes[(σs i).boxes.length]?=some b'/\bA I β w' bi b':=by
    rcases Pz (σs i).boxes.length b (by rw[hlen];simp)with h|h
    .exact⟨_,h,cV⟩
    exact⟨_,h,by cases b<;>exact cV⟩
   obtain⟨b',eW,QM⟩:=aN;have vM:β (σs i).boxes.length=none:=by
    cases hβ:β (σs i).boxes.length with
    |none=>rfl
    |some c=>
     exfalso;rcases(hb _).1 (by rw[hβ];rfl)with h|⟨j,h1,h2,h3,h4⟩
     .have:=mN (j:=0) (k:=i) (by omega) (by omega);omega
     rcases Nat.lt_trichotomy j i with h|rfl|h
     .have:=mN (j:=j+1) (k:=i) (by omega) (by omega);omega
     .rw[h2]at jT;cases jT
     have:=mN (j:=i+1) (k:=j) (by omega) (by omega);rw[hlen]at this;simp at this;omega
   obtain⟨bq,HJ⟩:=hs.Hr ak cL gT (bs:=(σs m).boxes) (n:=(σs i).boxes.length) vM eW (λ_ _=>rfl) HB QM;refine bU _ I _ w' (bq.fill Eg nP λt d' nf hl=>?_) ?_
   .rw[Ej t d' nf hl]
    exact aq _ _ (by simp)
   intro k;by_cases hk:k=(σs i).boxes.length
   .subst hk
    simp only[if_true,Option.isSome_some,true_iff];exact .inr ⟨i,jA,(dE i).2 (.inl rfl),Nat.le_refl _,by rw[hlen];simp⟩
   simp only[if_neg hk];rw[hb k];constructor
   .rintro(h|⟨j,h1,h2,h3⟩)
    .exact .inl h
    exact .inr ⟨j,h1,(dE j).2 (.inr h2),h3⟩
   rintro(h|⟨j,h1,h2,h3,h4⟩)
   .exact .inl h
   rcases(dE j).1 h2 with rfl|h2
   .rw[hlen]at h4;simp at h4;omega
   exact .inr ⟨j,h1,h2,h3,h4⟩
  ·
   rintro d as v w' I' rfl cL hg gT aq;obtain⟨rs,qB⟩:=lR;have Q4:=(lj Vc qB).2;have cG:=HI qB;obtain⟨d',fL⟩:∃d',e'=.res d' as/\(d'=d\/∃b,d=.bool b/\d'=bd b):=by
    cases th with
    |same=>exact⟨_,rfl,.inl rfl⟩
    |res b=>exact⟨_,rfl,.inr ⟨b,rfl,rfl⟩⟩
   obtain⟨rfl,s5⟩:=fL;have Kf:(σs (i+1)).boxes=aK (σs i).boxes d' as:=by rw[hσ];unfold bJ;rw[bX];rfl
   obtain⟨Ds,bq,jj,_⟩:=hs.res ak cL hg gT aq (by
    by_cases hp:plain d=true
    .exact .inl hp
    refine .inr λx box hx fp=>?_;rw[Q4]at hx;have HC:plain d'≠true:=by
     rcases s5 with rfl|⟨b,rfl,rfl⟩
     .exact hp
     exact absurd rfl hp
    have vn:=cG x hx;have h1:(σs (i+1)).boxes[x]?=some ((σs i).boxes[x]).freeze:=by
     rw[Kf];unfold aK;split
     .rename_i h;exact absurd h HC
     rw[ck _ _ _ _ _ (List.getElem?_eq_getElem vn)];have:(as.flatMap (aF (σs i).boxes fuel)).contains (0+x)=true:=by
      rw[Nat.zero_add];simpa using hx
     rw[this]
    rcases Pz x _ h1 with h2|h2<;>(rw[fp]at h2;cases h2;exact af.lO _))
   refine bU β Ds _ w' (bq.fill Eg nP λt d₁ nf hl=>?_) (Ei (by rw[Kf,iw]));rw[Ej t d₁ nf hl];rcases s5 with rfl|⟨b,rfl,rfl⟩
   .exact jj
   cases jj;cases b<;>first|exact .tt|exact .ff
end
end Go.V
namespace Go.V
open Go.RowKit
theorem gZ{p:Nat->Prop}:∀n,p n->∃i,p i/\∀j,j<i->¬p j:=by
 intro n
 induction n using Nat.strongRecOn with
 |_ n ih=>
  intro h;by_cases hx:∃j,j<n/\p j
  .obtain⟨j,h1,h2⟩:=hx
   exact ih j h1 h2
  exact⟨n,h,λj hj hp=>hx ⟨j,hj,hp⟩⟩
theorem p3{l:Array Bool}{i:Nat}(hi:i<l.size)(h:l.getD i true=true):l.getD i false=true:=by
 simp[hi]at h⊢;exact h
theorem BG{l:Array Bool}{i:Nat}(h:¬l.getD i true=false):l.getD i true=true:=by
 cases hh:l.getD i true with
 |true=>rfl
 |false=>exact absurd hh h
theorem count_set{l:Array Bool}{i:Nat}(hi:i<l.size)(h:l.getD i true=false):(l.setIfInBounds i true).toList.count false+1=l.toList.count false:=by
 rw[Array.toList_setIfInBounds,List.count_set (by simpa using hi)];have hv:l.toList[i]'(by simpa using hi)=false:=by simpa[hi]using h
 have dw:0<l.toList.count false:=List.count_pos_iff.2 (hv▸List.getElem_mem _);rw[hv];simp only[show(false==false)=true from rfl,show(true==false)=false from rfl,if_true,Bool.false_eq_true,if_false];omega
theorem mi{l:Array Bool}(h:l.toList.count false=0){i:Nat}(hi:i<l.size):l.getD i true=true:=by
 have:=List.count_eq_zero.1 h;cases hh:l.getD i true with
 |true=>rfl
 |false=>
  refine absurd (?_:false∈l.toList) this;have hv:l.toList[i]'(by simpa using hi)=false:=by simpa[hi]using hh
  exact hv▸List.getElem_mem _
section
variable{P:Program}[aM]{sh:er}{ish:Nat->Bool}{T:Nat->Option TI}{cx:Cx}{U:St}{N:Nat}{a:Act}{w:World}{ops:Array Oper}{m:Nat}
omit [aM]in
theorem aac.want(hs:aac cx U N a w){o:Oper}{b:Bool}(h:lQ ops.toList U o=some b):Region.wanted o (yielded ops a.tmps)=b:=by
 obtain⟨β,I,S,hs,_⟩:=hs;exact hs.want (λ_ _ _ _ _ _ _=>trivial) h
theorem BH(hT:br P T){F:Fence}(hF:FW F)(ak:cx.Ok)(hy:bB P cx)(hs:aac cx U N a w){n i:Nat}{o:Oper}(ho:ops[i]?=some o)(bZ:∀t,o.dst=some t->t<N){rest:List Oper}{fb:bE->Bool}{K:St->Prop}(cY:∀b y nb,fb (.fO b y nb)=false->cx.lo<=nb)
    (hk:aL T (CD P sh) fb ops.toList (o::rest) i U K){next:Act->World->Prop}{Q:Exit->Act->World->Prop}
    (bU:∀σ' a' w',aL T (CD P sh) fb ops.toList rest (i+1) σ' K->aac cx σ' N a' w'->next a' w'):wpOpIn F n P ops Q i next a w:=by
  unfold wpOpIn;simp only[ho];rcases tg hk with⟨hw,h⟩|⟨hw,h⟩
  .rw[if_pos (hs.want hw)]
   exact lg hT hF ak hy hs bZ cY h bU
  rw[if_neg (by rw[hs.want hw];simp)];exact⟨λf _=>hF.fn f,bU _ _ w h (hs.skip bZ)⟩
theorem HK(hT:br P T){F:Fence}(hF:FW F)(ak:cx.Ok)(hy:bB P cx)(hd:vJ ops m)(bZ:∀o∈ops.toList,∀t,o.dst=some t->t<N){n:Nat}{K:St->Prop}{Q:Exit->Act->World->Prop}{fb:bE->Bool}(Dv:∀b y nb,fb (.fO b y nb)=true)
    (hQ:∀σ' a' w',K σ'->aac cx σ' N a' w'->Q .normal a' w'):
    ∀(rest:List Oper)(i:Nat)(U:St)(a:Act)(w:World)(fuel:Nat)(listed:Array Bool),ops.toList.drop i=rest->m<=i->listed.size=ops.size->(∀j,j<ops.size->(listed.getD j true=true↔j<i))->listed.toList.count false=fuel->
     aac cx U N a w->aL T (CD P sh) fb ops.toList rest i U K->wpAnyIn F n P .any ops Q fuel listed a w:=by
  intro rest
  induction rest with
  |nil=>
   intro i U a w fuel listed sZ hi dQ hl hc hs hk;have hn:ops.size<=i:=by simpa using sZ
   refine wpAnyIn_done ?_ (hQ U a w hk hs) fuel;cases hr:Region.ready .any ops listed with
   |nil=>rfl
   |cons x xs=>
    obtain⟨h0,o,ho,_⟩:=mem_ready.1 (show x∈Region.ready .any ops listed by rw[hr];simp);have hx:=(Array.getElem?_eq_some_iff.1 ho).1;rw[(hl x hx).2 (by omega)]at h0;cases h0
  |cons o rest ih=>
   intro i U a w fuel listed sZ hi dQ hl hc hs hk;have xr:ops[i]?=some o:=by
    have:(ops.toList.drop i)[0]?=some o:=by rw[sZ];rfl
    simpa using this
   have eH:ops.toList.drop (i+1)=rest:=by
    have:(ops.toList.drop i).drop 1=rest:=by rw[sZ];rfl
    simpa[List.drop_drop,Nat.add_comm]using this
   have dv:=(Array.getElem?_eq_some_iff.1 xr).1;have jT:listed.getD i true=false:=by
    cases h:listed.getD i true with
    |false=>rfl
    |true=>have:=(hl i dv).1 h;omega
   have qp:i<listed.size:=by omega
   have fS:=count_set qp jT;have YI:i∈Region.ready .any ops listed:=mem_ready.2 ⟨jT,o,xr,λe he hb=>by
    have h1:=hd.p2 i o e xr (by simpa using he) hb;exact p3 (by omega) ((hl e.on (by omega)).2 h1)⟩
   have vN:∀j,j∈Region.ready .any ops listed->j=i:=by
    intro j hj;obtain⟨h0,oj,gF,cW⟩:=mem_ready.1 hj;have hjn:=(Array.getElem?_eq_some_iff.1 gF).1;rcases Nat.lt_trichotomy j i with h|h|h
    .rw[(hl j hjn).2 h]at h0;cases h0
    .exact h
    have:=(hd.tail j oj i (by omega) gF h).lt hd.p2 (n:=i) λe he hb=>by
      have h1:=dq (cW e (by simpa using he) hb);have h2:=hd.p2 j oj e gF he hb;exact(hl e.on (by omega)).1 h1
    omega
   cases fuel with
   |zero=>omega
   |succ fuel=>
    refine⟨λh=>by(rw[h]at YI;cases YI),λj hj=>?_⟩;obtain rfl:=vN j hj;refine BH hT hF ak hy hs xr (bZ o (List.mem_of_getElem? (by simpa using xr))) (λb y nb h=>by rw[Dv]at h;cases h) hk λσ' a' w' bF fu=>?_;refine ih (j+1) σ' a' w' fuel _ eH (by omega) (by simpa using dQ) ?_ (by omega) fu bF;intro k YH;by_cases T6:k=j
    .subst T6;simp[qp]
    rw[getD_set_ne true (Ne.symm T6),hl k YH];omega
theorem Kg(hT:br P T){F:Fence}(hF:FW F)(ak:cx.Ok)(hy:bB P cx)(hd:vJ ops m)(bZ:∀o∈ops.toList,∀t,o.dst=some t->t<N){n:Nat}{K:St->Prop}{Q:Exit->Act->World->Prop}{fb:bE->Bool}(Dv:∀b y nb,fb (.fO b y nb)=true)
    (hQ:∀σ' a' w',K σ'->aac cx σ' N a' w'->Q .normal a' w'){σs:Nat->St}(hr:AO T (CD P sh) ops m σs)(hk:aL T (CD P sh) fb ops.toList (ops.toList.drop m) m (σs m) K):
    ∀(fuel:Nat)(listed:Array Bool)(a:Act)(w:World)(β:BE)(I:aW)(S:Nat->Prop),listed.size=ops.size->listed.toList.count false=fuel->(∀i,m<=i->i<ops.size->listed.getD i true=false)->
     (∀(i:Nat)(o:Oper)(e:Edge),ops[i]?=some o->listed.getD i true=true->e∈o.after.toList->Region.binds .any e=true->listed.getD e.on false=true)->bf cx (Vl ops m listed) (σs m) β I S N a w->Bl σs m listed β->wpAnyIn F n P .any ops Q fuel listed a w:=by
  have full:∀{listed:Array Bool}{a:Act}{w:World}{β:BE}{I:aW}{S:Nat->Prop},(∀i,i<m->listed.getD i true=true)->bf cx (Vl ops m listed) (σs m) β I S N a w->Bl σs m listed β->aac cx (σs m) N a w:=by
   intro listed a w β I S hl hs hb;refine⟨β,I,S,hs.move (λt _=>⟨λj o hj ho jT=>by(rw[hl j hj]at jT;cases jT),rfl⟩) (Bg.refl _) rfl,λb mO=>(hb b).2 ?_⟩;rcases hr.made hd.le b m (Nat.le_refl _) mO with h|⟨i,h1,h2⟩
   .exact .inl h
   exact .inr ⟨i,h1,hl i h1,h2⟩
  intro fuel
  induction fuel with
  |zero=>
   intro listed a w β I S dQ hc jm qL hs hb;have cW:∀i,i<ops.size->listed.getD i true=true:=λi hi=>mi hc (by omega);have IG:m=ops.size:=by
    have:=hd.le;rcases Nat.lt_or_ge m ops.size with h|h
    .have:=jm m (Nat.le_refl _) h
     rw[cW m h]at this;cases this
    omega
   have dW:=full (λi hi=>cW i (by omega)) hs hb;rw[show ops.toList.drop m=[]by rw[IG];simp]at hk;refine wpAnyIn_done ?_ (hQ _ _ _ hk dW) 0;cases Dw:Region.ready .any ops listed with
   |nil=>rfl
   |cons x xs=>
    obtain⟨h0,o,ho,_⟩:=mem_ready.1 (show x∈Region.ready .any ops listed by rw[Dw];simp);rw[cW x (Array.getElem?_eq_some_iff.1 ho).1]at h0;cases h0
  |succ fuel ih=>
   intro listed a w β I S dQ hc jm qL hs hb;refine⟨λDw=>?_,λi hi=>?_⟩
   ·
    exfalso;have:∃i,i<ops.size/\listed.getD i true=false:=by
     have dw:0<listed.toList.count false:=by omega
     have eX:=List.count_pos_iff.1 dw;obtain⟨i,hi,hv⟩:=List.getElem_of_mem eX;have bC:i<listed.size:=by simpa using hi
     exact⟨i,by omega,by simpa[bC]using hv⟩
    obtain⟨i,hi⟩:=this;obtain⟨j,⟨hj,jT⟩,Q5⟩:=gZ (p:=λi=>i<ops.size/\listed.getD i true=false) i hi;have:j∈Region.ready .any ops listed:=mem_ready.2 ⟨jT,ops[j],Array.getElem?_eq_getElem hj,λe he hb=>by
     have h1:=hd.p2 j _ e (Array.getElem?_eq_getElem hj) (by simpa using he) hb;exact p3 (by omega) (BG λh=>Q5 e.on h1 ⟨by omega,h⟩)⟩
    rw[Dw]at this;cases this
   obtain⟨jT,o,ho,cW⟩:=mem_ready.1 hi;have dv:=(Array.getElem?_eq_some_iff.1 ho).1;have fS:=count_set (l:=listed) (i:=i) (by omega) jT;rcases Nat.lt_or_ge i m with jA|jA
   .refine xV hT hF ak hd.toDrawB hr bZ dQ hs hb jA hi λβ' I' a' w' fu eW=>?_
    refine ih _ a' w' β' I' S (by simpa using dQ) (by omega) (λj h1 h2=>?_) (λj oj e gF hj he ug=>getD_set_true ?_) fu eW
    .rw[getD_set_ne true (by omega)]
     exact jm j h1 h2
    by_cases ie:j=i
    .subst ie
     rw[ho]at gF;cases gF;exact cW e (by simpa using he) ug
    rw[getD_set_ne true (Ne.symm ie)]at hj;exact qL j oj e gF hj he ug
   have zr:∀j,j<i->listed.getD j true=true:=λj hj=>by
     exact(hd.tail i o j jA ho hj).listed (L:=λk=>listed.getD k true=true) (λk ok e' du hk fL eW=>dq (qL k ok e' du hk fL eW)) λe he hb=>dq (cW e (by simpa using he) hb)
   have aad:i=m:=by
    rcases Nat.lt_or_ge m i with h|h
    .have h1:=zr m h
     rw[jm m (Nat.le_refl _) (by omega)]at h1;cases h1
    omega
   subst aad;have dW:=full zr hs hb;have:=HK hT hF ak hy hd bZ Dv hQ (ops.toList.drop i) i (σs i) a w (fuel+1) listed rfl (Nat.le_refl _) dQ (λj hj=>⟨(λh=>by
    rcases Nat.lt_or_ge j i with h'|h'
    .exact h'
    exfalso;rw[jm j h' hj]at h;exact absurd h (by simp)),λh=>zr j h⟩) hc dW hk (n:=n) (F:=F)
   exact this.2 i hi
omit [aM]in
theorem F4{lo:Nat}(cY:cx.lo<=lo):∀b y nb,oX lo (.fO b y nb)=false->cx.lo<=nb:=λb y nb h=>by
 unfold oX at h;simp only at h;cases hb:Nat.ble lo nb with
 |true=>exact Nat.le_trans cY (Nat.le_of_ble_eq_true hb)
 |false=>rw[hb]at h;cases h
theorem BJ(hT:br P T){F:Fence}(hF:FW F)(ak:cx.Ok)(hy:bB P cx)(bZ:∀o∈ops.toList,∀t,o.dst=some t->t<N)(hs:aac cx U N a w){n:Nat}{K:St->Prop}{Q:Exit->Act->World->Prop}{fb:bE->Bool}(Dv:∀b y nb,fb (.fO b y nb)=true)
    (hQ:∀σ' a' w',K σ'->aac cx σ' N a' w'->Q .normal a' w')(m:Nat)(_hm:m<=(ops.toList.takeWhile dS).length)(hd:vJ ops m)
    (hk:∃σs:Nat->St,σs 0=U/\(∀(j:Nat)(o:Oper),(ops.toList.take m)[j]?=some o->BB T (CD P sh) ops.toList o (σs j) (σs (j+1)))/\aL T (CD P sh) fb ops.toList (ops.toList.drop m) m (σs m) K):wpAnyIn F n P .any ops Q ops.size (Array.replicate ops.size false) a {w with drawn:=w.drawn+1}:=by
  have Ek:ops.toList=ops.toList.take m++ops.toList.drop m:=(List.take_append_drop m _).symm;have lR:(ops.toList.take m).length=m:=by rw[List.length_take];have:=hd.le;simp;omega
  obtain⟨σs,h0,cH,eH⟩:=hk;have hr:AO T (CD P sh) ops m σs:=⟨λi o hi ho=>cH i o (by
   have h1:(ops.toList.take m++ops.toList.drop m)[i]?=some o:=by rw[<-Ek];simpa using ho
   rwa[List.getElem?_append_left (by rw[lR];exact hi)]at h1)⟩
  obtain⟨β,I,S,bq,cK⟩:=hs;have Kh:=bq.aE ak (aB.drew _ w);have IH:Bg U.boxes (σs m).boxes:=by
   have:=hr.bg hd.le m 0 (by omega)
   rwa[h0,Nat.zero_add]at this
  have jT:∀j,j<ops.size->(Array.replicate ops.size false).getD j true=false:=λj hj=>by simp[hj]
  have Ki:bf cx (Vl ops m (Array.replicate ops.size false)) (σs m) β I S N a {w with drawn:=w.drawn+1}:=by
   refine Kh.move (λt ht=>⟨trivial,?_⟩) IH ?_
   .have:=hr.look hd.le (t:=t) m 0 (by omega) (λj o _ h2 ho=>ht j o (by omega) ho (jT j (Array.getElem?_eq_some_iff.1 ho).1))
    rwa[h0,Nat.zero_add]at this
   have:=hr.y hd.le m 0 (by omega)
   rwa[h0,Nat.zero_add]at this
  refine Kg hT hF ak hy hd bZ Dv hQ hr eH ops.size _ a _ β I S (by simp) (by simp) (λi _ h2=>jT i h2) (λi o e ho hi=>by rw[jT i (Array.getElem?_eq_some_iff.1 ho).1]at hi;cases hi) Ki ?_;intro b;rw[h0];constructor
  .intro h
   exact .inl (bq.last b h)
  rintro(h|⟨i,h1,h2,_⟩)
  .exact cK b h
  have:=hd.le;rw[jT i (by omega)]at h2;cases h2
theorem qN{lo:Nat}(cY:cx.lo<=lo)(hT:br P T)(ef:P.follows .mixedOrders=true){F:Fence}(hF:FW F)(ak:cx.Ok)(hy:bB P cx)(bZ:∀o∈ops.toList,∀t,o.dst=some t->t<N)(hs:aac cx U N a w){n id:Nat}{dr:Bool}{K:St->Prop}{Q:Exit->Act->World->Prop}
    (hQ:∀σ' a' w',K σ'->aac cx σ' N a' w'->Q .normal a' w')
    (hk:match dr with
     |false=>aL T (CD P sh) (oX lo) ops.toList ops.toList 0 U K
     |true=>ly ops.toList=true/\aL T (CD P sh) mZ ops.toList ops.toList 0 U K):(Code.region id ops dr).wpIn F n P Q a w:=by
  cases dr with
  |false=>
   refine wpIn_region ?_;have:=zp hT hF ak hy bZ (F4 cY) hQ ops.toList 0 U a w rfl hs hk (n:=n);rw[List.range_eq_range'];simpa using this
  |true=>
   obtain⟨du,hk⟩:=hk;refine wpIn_region_any ef ?_;obtain⟨m,hm,hd⟩:=BD du;refine BJ (sh:=sh) (fb:=mZ) hT hF ak hy bZ hs (λ_ _ _=>rfl) hQ m hm hd ?_;have BK:∀o∈ops.toList.take m,dS o=true:=λo ho=>by
    obtain⟨i,hi⟩:=List.mem_iff_getElem?.1 ho;rw[List.getElem?_take]at hi;split at hi
    .rename_i jA;exact lF (Nat.lt_of_lt_of_le jA hm) hi
    cases hi
   have Ek:ops.toList=ops.toList.take m++ops.toList.drop m:=(List.take_append_drop m _).symm;have lR:(ops.toList.take m).length=m:=by rw[List.length_take];have:=hd.le;simp;omega
   rw[show aL T (CD P sh) mZ ops.toList ops.toList 0 U K=aL T (CD P sh) mZ ops.toList (ops.toList.take m++ops.toList.drop m) 0 U K by rw[<-Ek]]at hk;obtain⟨σs,h0,cH,eH⟩:=jS (fb:=mZ) ⟨⟨λ_ _=>rfl,λ_ _ _=>rfl⟩,λ_ _ _=>rfl,λ_ _ _=>rfl⟩ _ _ 0 U (λo ho=>.inl (BK o ho)) hk;rw[Nat.zero_add,lR]at eH;exact⟨σs,h0,cH,eH⟩
theorem xw(hT:br P T)(ef:P.follows .mixedOrders=true){F:Fence}(hF:FW F)(ak:cx.Ok)(hy:bB P cx)(bZ:∀o∈ops.toList,∀t,o.dst=some t->t<N)(hs:aac cx U N a w){n id:Nat}{K:St->Prop}{Q:Exit->Act->World->Prop}
    (hQ:∀σ' a' w',K σ'->aac cx σ' N a' w'->Q .normal a' w'){m:Nat}(du:oA ops.toList m=true)
    (hk:aL T (CD P sh) mZ ops.toList (ops.toList.take m) 0 U λτ=>aL T (CD P sh) xi ops.toList (ops.toList.drop m) m τ K):(Code.region id ops true).wpIn F n P Q a w:=by
  refine wpIn_region_any ef ?_;unfold oA at du;split at du
  .rename_i hb
   have hm:=Nat.le_of_ble_eq_true hb;refine BJ (sh:=sh) (fb:=xi) hT hF ak hy bZ hs (λ_ _ _=>rfl) hQ m hm (lG hm du) ?_;have BK:∀o∈ops.toList.take m,dS o=true:=λo ho=>by
    obtain⟨i,hi⟩:=List.mem_iff_getElem?.1 ho;rw[List.getElem?_take]at hi;split at hi
    .rename_i jA;exact lF (Nat.lt_of_lt_of_le jA hm) hi
    cases hi
   have lR:(ops.toList.take m).length=m:=by
    rw[List.length_take];have h1:=List.takeWhile_prefix (p:=dS) (l:=ops.toList)|>.length_le;omega
   have bF:aL T (CD P sh) mZ ops.toList (ops.toList.take m++[]) 0 U λτ=>aL T (CD P sh) xi ops.toList (ops.toList.drop m) m τ K:=by rw[List.append_nil];exact hk
   obtain⟨σs,h0,cH,eH⟩:=jS (fb:=mZ) ⟨⟨λ_ _=>rfl,λ_ _ _=>rfl⟩,λ_ _ _=>rfl,λ_ _ _=>rfl⟩ _ _ 0 U (λo ho=>.inl (BK o ho)) bF;rw[lR]at eH;exact⟨σs,h0,cH,eH⟩
  cases du
end
end Go.V
