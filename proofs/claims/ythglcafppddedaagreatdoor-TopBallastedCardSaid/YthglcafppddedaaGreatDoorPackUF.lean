/- What ballasted_holds leans on, part UF. No condition. -/
import Derived.MapKept
import Derived.Test.YthglcafppddedaaGreatDoorPackUE
import Derived.Test.YthglcafppddedaaGreatDoorPackUD

set_option linter.all false
namespace Go.V
open Go.RowKit
section
variable{P:Program}[aM]{T:Nat->Option TI}{cx:Cx}{V:Nat->Prop}{U:St}{β:BE}{I:aW}{S:Nat->Prop}{N:Nat}{a:Act}{w:World}
omit [aM]in
theorem Bp:∀{xs ys:List D},I9 xs ys=some true->xs=ys
 |[],[],_=>rfl
 |[],_::_,h=>by cases h
 |_::_,[],h=>by cases h
 |x::xs,y::ys,h=>by
  simp only[I9]at h;cases hd:Nf x y with
  |none=>rw[hd]at h;cases h
  |some a=>
   rw[hd]at h;cases hl:I9 xs ys with
   |none=>rw[hl]at h;cases h
   |some b=>
    rw[hl]at h;have FV:a=true/\b=true:=by cases a<;>cases b<;>simp at h⊢
    obtain⟨rfl,rfl⟩:=FV;have:=Bp hl;subst this;congr 1;cases x with
    |int k m=>
     cases y with
     |int k' m'=>
      simp only[Nf]at hd;cases hs:same k k' with
      |false=>rw[hs]at hd;cases hd
      |true=>
       rw[hs]at hd;obtain rfl:=fq hs;have:m=m':=by simpa using hd
       rw[this]
     |_=>cases hd
    |_=>cases hd
omit [aM]in
theorem mg:∀{xs ys:List D}{b:Bool},I9 xs ys=some b->(∀x∈xs,∃k m,x=.int k m)/\∀y∈ys,∃k m,y=.int k m
 |[],[],_,_=>⟨λx h=>(by cases h),λx h=>(by cases h)⟩
 |[],_::_,_,h=>by cases h
 |_::_,[],_,h=>by cases h
 |x::xs,y::ys,b,h=>by
  simp only[I9]at h;cases hd:Nf x y with
  |none=>rw[hd]at h;cases h
  |some a=>
   rw[hd]at h;cases hl:I9 xs ys with
   |none=>rw[hl]at h;cases h
   |some b=>
    obtain⟨h1,h2⟩:=mg hl;have Pj:(∃k m,x=.int k m)/\∃k m,y=.int k m:=by
     cases x with
     |int k m=>
      cases y with
      |int k' m'=>exact⟨⟨k,m,rfl⟩,k',m',rfl⟩
      |_=>cases hd
     |_=>cases hd
    exact⟨λz hz=>(List.mem_cons.1 hz).elim (λe=>e▸Pj.1) (h1 z),λz hz=>(List.mem_cons.1 hz).elim (λe=>e▸Pj.2) (h2 z)⟩
omit [aM]in
theorem Bq{I':aW}{β β':BE}:∀{ds:List D}{vs us:List Value},(∀d∈ds,∃k m,d=.int k m)->bn I β vs ds->bn I' β' us ds->vs=us
 |[],vs,us,_,h,h'=>by rw[h.cR,h'.cR]
 |d::ds,vs,us,hd,h,h'=>by
  obtain⟨v,oz,rfl,hv,h2⟩:=h.cons_inv;obtain⟨u,us',rfl,hu,YA⟩:=h'.cons_inv;obtain⟨k,m,rfl⟩:=hd d (by simp);have:=Bq (λx hx=>hd x (by simp[hx])) h2 YA;rw[hv.aT,hu.aT,this]
omit [aM]in
theorem pq{I':aW}{β β':BE}:∀{ds:List D}{vs:List Value},(∀d∈ds,∃k m,d=.int k m)->bn I β vs ds->bn I' β' vs ds
 |[],vs,_,h=>by rw[h.cR];exact .nil
 |d::ds,vs,hd,h=>by
  obtain⟨v,oz,rfl,hv,h2⟩:=h.cons_inv;obtain⟨k,m,rfl⟩:=hd d (by simp);rw[hv.aT];exact bn.cons (.int _ _) (pq (λx hx=>hd x (by simp[hx])) h2)
omit [aM]in
theorem vr:∀{xs:List D},rM xs=true->∀x∈xs,∃k m,x=.int k m
 |[],_,x,h=>by cases h
 |d::r,h,x,hx=>by
  cases d with
  |int k m=>
   rcases List.mem_cons.1 hx with rfl|hx
   .exact⟨k,m,rfl⟩
   exact vr (xs:=r) h x hx
  |_=>cases h
omit [aM]in
theorem lP{tk:TI}{xs:List D}(h:gG tk (.agg xs)=true):tk.eqs=true/\xs.length=tk.size/\∀x∈xs,∃k m,x=.int k m:=by
 simp only[gG]at h;split at h
 .rename_i h1 h2 h3
  exact⟨h1,Nat.eq_of_beq_eq_true h2,vr h⟩
 cases h
omit [aM]in
theorem D2{tk:TI}{xs:List D}(h:gG tk (.agg xs)=true):rM tk.zero=true:=by
 simp only[gG]at h;split at h
 .rename_i h1 h2 h3
  exact h3
 cases h
omit [aM]in
theorem vt{kt:TypeId}{tk:TI}(hk:aj P kt tk){key x:D}(du:gG tk key=true){b:Bool}(h:yT key x=some b){kv xv:Value}(M0:Rel I β kv key){β':BE}(ub:Rel I β' xv x):
    (b=true->xv=kv)/\((∃q,tk.desc=.int q/\Instr.sameNow (.int q) kv xv=some b)\/(∃fs,tk.desc=.struct fs)/\(Op.equal kt kv xv).run P w=.ok b w):=by
  cases key with
  |int q n=>
   simp only[gG]at du;cases hd:tk.desc with
   |int q0=>
    cases x with
    |int q' m=>
     simp only[yT]at h;cases hs:same q q' with
     |false=>rw[hs]at h;cases h
     |true=>
      rw[hs]at h;cases h;obtain rfl:=fq hs;rw[M0.aT,ub.aT];refine⟨λe=>?_,.inl ⟨q0,rfl,by simp[Instr.sameNow]⟩⟩;have:n=m:=by simpa using e
      rw[this]
    |_=>cases h
   |_=>rw[hd]at du;cases du
  |agg xs=>
   obtain⟨heq,hlen,_⟩:=lP du;cases x with
   |agg ys=>
    have h:I9 xs ys=some b:=h;obtain⟨cs,rfl,fS⟩:=M0.gM;obtain⟨xI,rfl,Nu⟩:=ub.gM;refine⟨λe=>?_,.inr ⟨hk.UF heq,hk.Yv heq w cs xI b (fS.1.1.trans hlen) (qx fS.1 (pq (mg h).2 Nu.1) (Bd (D2 du) (hk.u7.trans hlen.symm) h))⟩⟩;subst e;have Pj:=Bp h;subst Pj;have:=Bq (mg h).1 Nu.1 fS.1;congr 1;exact Array.toList_inj.1 this
   |_=>cases h
  |_=>cases du
omit [aM]in
theorem lD{kt:TypeId}{tk:TI}(hk:aj P kt tk){kv:Value}{key:D}(du:gG tk key=true)(M0:Rel I β kv key)(es:List MapEntry)(ks:List D)(o:Option Nat)(hl:es.length=ks.length)
    (hr:∀(i:Nat)(e:MapEntry)(d:D),es[i]?=some e->ks[i]?=some d->Rel I dM e.key d)(h:fx key ks=some o):
    match o with
    |none=>(Instr.findKey kt kv es).run P w=.ok none w
    |some i=>∃e,es[i]?=some e/\(Instr.findKey kt kv es).run P w=.ok (some (i,e.val)) w/\e.key=kv:=by
  have now:∀(q:IntKind),tk.desc=.int q->∀(es:List MapEntry)(ks:List D)(o:Option Nat)(n:Nat),es.length=ks.length->(∀(i:Nat)(e:MapEntry)(d:D),es[i]?=some e->ks[i]?=some d->Rel I dM e.key d)->fx key ks=some o->
      match o with
      |none=>Instr.findNow (.int q) kv es n=some none
      |some i=>∃e,es[i]?=some e/\Instr.findNow (.int q) kv es n=some (some (n+i,e.val))/\e.key=kv:=by
    intro q hq es
    induction es with
    |nil=>
     intro ks o n hl hr h;have:ks=[]:=List.eq_nil_of_length_eq_zero (by simpa using hl.symm);subst this;cases h;rfl
    |cons e es ih=>
     intro ks o n hl hr h;cases ks with
     |nil=>simp at hl
     |cons x ks=>
      simp only[fx]at h;cases hb:yT key x with
      |none=>rw[hb]at h;cases h
      |some b=>
       rw[hb]at h;obtain⟨h1,h2⟩:=vt (w:=w) hk du hb M0 (hr 0 e x rfl rfl);rcases h2 with⟨q',FX,h2⟩|⟨⟨fs,dW⟩,_⟩
       .rw[hq]at FX;cases FX
        cases b with
        |true=>
         cases h;exact⟨e,rfl,by simp[Instr.findNow,h2],h1 rfl⟩
        |false=>
         simp only at h;cases hf:fx key ks with
         |none=>rw[hf]at h;cases h
         |some o'=>
          rw[hf]at h;have ih:=ih ks o' (n+1) (by simpa using hl) (λi e' d fL hd=>hr (i+1) e' d (by simpa using fL) (by simpa using hd)) hf;have gH:Instr.findNow (.int q) kv (e::es) n=Instr.findNow (.int q) kv es (n+1):=by
           simp[Instr.findNow,h2]
          cases o' with
          |none=>cases h;rw[gH];exact ih
          |some i=>
           cases h;obtain⟨e',h3,h4,h5⟩:=ih;exact⟨e',by simpa using h3,by rw[gH,h4];congr 3;omega,h5⟩
       rw[hq]at dW;cases dW
  have ask:(∃fs,tk.desc=.struct fs)->∀(es:List MapEntry)(ks:List D)(o:Option Nat)(n:Nat),es.length=ks.length->(∀(i:Nat)(e:MapEntry)(d:D),es[i]?=some e->ks[i]?=some d->Rel I dM e.key d)->fx key ks=some o->
      match o with
      |none=>(Instr.findAsking kt kv es n).run P w=.ok none w
      |some i=>∃e,es[i]?=some e/\(Instr.findAsking kt kv es n).run P w=.ok (some (n+i,e.val)) w/\e.key=kv:=by
    rintro⟨fs,dW⟩ es
    induction es with
    |nil=>
     intro ks o n hl hr h;have:ks=[]:=List.eq_nil_of_length_eq_zero (by simpa using hl.symm);subst this;cases h;simp[Instr.findAsking]
    |cons e es ih=>
     intro ks o n hl hr h;cases ks with
     |nil=>simp at hl
     |cons x ks=>
      simp only[fx]at h;cases hb:yT key x with
      |none=>rw[hb]at h;cases h
      |some b=>
       rw[hb]at h;obtain⟨h1,h2⟩:=vt (w:=w) hk du hb M0 (hr 0 e x rfl rfl);rcases h2 with⟨q',FX,_⟩|⟨_,h2⟩
       .rw[dW]at FX;cases FX
       cases b with
       |true=>
        cases h;exact⟨e,rfl,by simp[Instr.findAsking,h2],h1 rfl⟩
       |false=>
        simp only at h;cases hf:fx key ks with
        |none=>rw[hf]at h;cases h
        |some o'=>
         rw[hf]at h;have ih:=ih ks o' (n+1) (by simpa using hl) (λi e' d fL hd=>hr (i+1) e' d (by simpa using fL) (by simpa using hd)) hf;have gH:(Instr.findAsking kt kv (e::es) n).run P w=(Instr.findAsking kt kv es (n+1)).run P w:=by
          simp[Instr.findAsking,h2]
         cases o' with
         |none=>cases h;rw[gH];exact ih
         |some i=>
          cases h;obtain⟨e',h3,h4,h5⟩:=ih;exact⟨e',by simpa using h3,by rw[gH,h4];congr 3;omega,h5⟩
  have UU:(∃q,tk.desc=.int q)\/∃fs,tk.desc=.struct fs:=by
   cases key with
   |int q n=>
    simp only[gG]at du;cases hd:tk.desc with
    |int q0=>exact .inl ⟨q0,rfl⟩
    |_=>rw[hd]at du;cases du
   |agg xs=>exact .inr (hk.UF (lP du).1)
   |_=>cases du
  rcases UU with⟨q,hq⟩|⟨fs,dW⟩
  .have:=now q hq es ks o 0 hl hr h
   have QP:P.underlying kt=some (.int q):=hq▸hk.desc;cases o with
   |none=>exact MapKept.run_findKey QP this
   |some i=>
    obtain⟨e,h1,h2,h3⟩:=this;rw[Nat.zero_add]at h2;exact⟨e,h1,MapKept.run_findKey QP h2,h3⟩
  have:=ask ⟨fs,dW⟩ es ks o 0 hl hr h;have QP:P.underlying kt=some (.struct fs):=dW▸hk.desc;have aP:∀r,(Instr.findAsking kt kv es 0).run P w=.ok r w->(Instr.findKey kt kv es).run P w=.ok r w:=λr hr=>by
   unfold Instr.findKey;simp only[Sem.run_bind,run_underlying QP,Result.andThen_ok];cases es with
   |nil=>simp[Instr.findNow];simpa[Instr.findAsking]using hr
   |cons e es=>
    have:Instr.findNow (.struct fs) kv (e::es) 0=none:=by simp[Instr.findNow,Instr.sameNow]
    rw[this];exact hr
  cases o with
  |none=>exact aP _ this
  |some i=>
   obtain⟨e,h1,h2,h3⟩:=this;rw[Nat.zero_add]at h2;exact⟨e,h1,aP _ h2,h3⟩
omit [aM]in
theorem zf{kt:TypeId}{q:IntKind}(hk:P.underlying kt=some (.int q))(em:Bool)(k:Value):(Instr.checkKey em 10000 kt k).run P w=.ok () w:=by
 show(Instr.checkKey em (9999+1) kt k).run P w=.ok () w;unfold Instr.checkKey;simp only[Sem.run_bind,run_underlying hk,Result.andThen];cases k<;>rfl
omit [aM]in
theorem kq{kt:TypeId}{tk:TI}(hk:aj P kt tk){kv:Value}{key:D}(du:gG tk key=true)(M0:Rel I β kv key)(em:Bool):(Instr.checkKey em 10000 kt kv).run P w=.ok () w:=by
 cases key with
 |int q n=>
  simp only[gG]at du;cases hd:tk.desc with
  |int q0=>exact zf (hd▸hk.desc) em kv
  |_=>rw[hd]at du;cases du
 |agg xs=>
  obtain⟨heq,hlen,_⟩:=lP du;obtain⟨cs,rfl,fS⟩:=M0.gM;exact hk.Yw heq w em cs (fS.1.1.trans hlen)
 |_=>cases du
omit [aM]in
theorem s7{t kt et:TypeId}{ti tk te:TI}(h:aj P t ti)(hd:ti.desc=.map kt et)(hk:aj P kt tk)(he:aj P et te){r:Option Nat}{es:List MapEntry}{ks vs:List D}{kv:Value}{key:D}(hi:gG tk key=true){ok:Bool}{k:bE->Prop}
    (hm:match r with|none=>es=[]|some R=>∃clock,w.heap[R]?=some (.map es.toArray clock))(Du:es.length=ks.length)(T1:es.length=vs.length)
    (hks:∀(i:Nat)(e:MapEntry)(d:D),es[i]?=some e->ks[i]?=some d->Rel I dM e.key d)(oG:∀(i:Nat)(e:MapEntry)(d:D),es[i]?=some e->vs[i]?=some d->Rel I dM e.val d)
    (qG:Rel I β kv key)(hq:eZ ks vs key (kT te) ok k):
    ∃v d,(Instr.lookup t (.map r) kv ok).run P w=.ok v w/\k (.val d)/\Rel I β v d:=by
  have ht:P.underlying t=some (.map kt et):=hd▸h.desc;obtain⟨z,hz,Hl⟩:=he.Hd w I β;have pX:=λem=>kq (w:=w) hk hi qG em;have main:∀o,fx key ks=some o->(∃v0 b0 d0,(∀ok,(Instr.lookup t (.map r) kv ok).run P w=.ok (if ok then .tuple #[v0,.bool b0]else v0) w)/\Rel I β v0 d0/\(match o with|some i=>vs[i]?=some d0/\b0=true|none=>d0=kT te/\b0=false)\/
      ∃i,o=some i/\vs[i]?=none):=by
    intro o hf;have dW:=lD (w:=w) hk hi qG es ks o Du hks hf;cases o with
    |none=>
     refine⟨z,false,kT te,.inl ⟨λok=>?_,Hl,rfl,rfl⟩⟩;unfold Instr.lookup;simp only[Sem.run_bind,run_underlying ht,Result.andThen_ok];cases r with
     |none=>simp only at hm;subst hm;simp[pX,dW,hz]
     |some R=>
      obtain⟨clock,hh⟩:=hm;simp[MapKept.run_getObj_map hh,pX,dW,hz]
    |some i=>
     obtain⟨e,h1,h2,_⟩:=dW;have qp:i<vs.length:=by rw[<-T1];exact(List.getElem?_eq_some_iff.1 h1).1
     refine⟨e.val,true,vs[i],.inl ⟨λok=>?_,(oG i e vs[i] h1 (List.getElem?_eq_getElem qp)).lift I.le_refl,List.getElem?_eq_getElem qp,rfl⟩⟩;unfold Instr.lookup;simp only[Sem.run_bind,run_underlying ht,Result.andThen_ok];cases r with
     |none=>simp only at hm;subst hm;simp at h1
     |some R=>
      obtain⟨clock,hh⟩:=hm;simp[MapKept.run_getObj_map hh,pX,h2]
  unfold eZ at hq;cases ok with
  |false=>
   obtain⟨o,hf,d,ho,hq⟩:=hq;obtain⟨v0,b0,d0,⟨aP,aq,hm⟩|⟨i,rfl,hn⟩⟩:=main o hf
   .refine⟨v0,d,by simpa using aP false,hq,?_⟩
    cases o with
    |none=>rw[ho,<-hm.1];exact aq
    |some i=>simp only at ho hm;rw[hm.1]at ho;cases ho;exact aq
   simp only at ho;rw[hn]at ho;cases ho
  |true=>
   obtain⟨o,hf,d,b,ho,hq⟩:=hq;obtain⟨v0,b0,d0,⟨aP,aq,hm⟩|⟨i,rfl,hn⟩⟩:=main o hf
   .refine⟨_,_,by simpa using aP true,hq,?_⟩
    cases o with
    |none=>
     obtain⟨rfl,rfl⟩:=ho;obtain⟨rfl,rfl⟩:=hm;exact Rel.ji (vs:=[v0,.bool false]) (bn.cons aq (bn.cons .ff .nil))
    |some i=>
     obtain⟨UW,rfl⟩:=ho;obtain⟨hm1,rfl⟩:=hm;rw[hm1]at UW;cases UW;exact Rel.ji (vs:=[v0,.bool true]) (bn.cons aq (bn.cons .tt .nil))
   obtain⟨UW,_⟩:=ho;rw[hn]at UW;cases UW
omit [aM]in
theorem Rel.nr{v:Value}{d:D}(h:Rel I β v d)(hf:Go.V.nr d=true):Rel I dM v d:=by
 cases d with
 |agg cs=>
  obtain⟨xs,rfl,hr⟩:=h.gM;exact .agg xs cs hr.1.1 hr.2 λi v d hv hd=>(hr.1.2 i v d hv hd).gr (gW (by simpa only[Go.V.nr]using hf) hd)
 |_=>exact h.gr (by simpa only[Go.V.nr]using hf)
omit [aM]in
theorem qH(n:Nat)(q:IntKind)(m:Int):Instr.sameBits n (.int q m) (.int q m)=true:=by
 cases n<;>simp[Instr.sameBits]
omit [aM]in
theorem Br{tk:TI}{kv:Value}{key:D}(M0:Rel I β kv key)(du:gG tk key=true):(Instr.keyThatStays kv kv).run P w=.ok kv w:=by
 unfold Instr.keyThatStays;have:Instr.sameBits 10000 kv kv=true:=by
  cases key with
  |int q n=>rw[M0.aT];exact qH _ _ _
  |agg xs=>
   obtain⟨cs,rfl,fS⟩:=M0.gM;have hints:=(lP du).2.2;show Instr.sameBits (9999+1) (.agg cs) (.agg cs)=true;unfold Instr.sameBits;rw[Bool.and_eq_true];refine⟨by simp,?_⟩;rw[List.all_eq_true];rintro⟨x,y⟩ Pj;obtain⟨j,hj⟩:=List.mem_iff_getElem?.1 Pj;rw[List.getElem?_zip_eq_some]at hj;obtain⟨h1,h2⟩:=hj;rw[h1]at h2;cases h2;have ng:=(List.getElem?_eq_some_iff.1 h1).1;have hjx:j<xs.length:=by rw[<-fS.1.1];exact ng
   have hd:xs[j]?=some xs[j]:=List.getElem?_eq_getElem hjx;obtain⟨k,m,hm⟩:=hints xs[j] (List.getElem_mem _);have hr:=fS.1.2 j x xs[j] h1 hd;rw[hm]at hr;simp only;rw[hr.aT];exact qH _ _ _
  |_=>cases du
 rw[if_pos this];rfl
omit [aM]in
theorem nL(x:Value)(kv:Value):∀(es:List MapEntry)(i:Nat),(es.modify i λe=>{e with key:=kv,val:=x}).map (·.born)=es.map (·.born)
 |[],i=>by cases i<;>rfl
 |e::r,0=>rfl
 |e::r,i+1=>by
  simp only[List.modify_succ_cons,List.map_cons];rw[nL x kv r i]
omit [aM]in
theorem D3{l l':List MapEntry}(h:l'.map (·.born)=l.map (·.born))(hb:pS l):pS l':=by
 have h1:(l.map (·.born)).Pairwise (·<·):=List.pairwise_map.2 hb;rw[<-h]at h1;exact List.pairwise_map.1 h1
omit [aM]in
theorem fo.modify{es:List MapEntry}{ks vs:List D}(h:fo I es ks vs){i:Nat}{e:MapEntry}{kv xv:Value}{x:D}(he:es[i]?=some e)(hk:e.key=kv)(hx:Rel I dM xv x):
    fo I (es.modify i λe=>{e with key:=kv,val:=xv}) ks (vs.set i x):=by
  refine⟨D3 (nL xv kv es i) h.born,by rw[List.length_modify];exact h.kl,by rw[List.length_modify,List.length_set];exact h.vl,λj e' d fL hd=>?_,λj e' d fL hd=>?_⟩
  .rw[List.getElem?_modify]at fL
   by_cases Bh:i=j
   .subst Bh
    rw[he]at fL;simp only[if_true,Option.map_eq_map,Option.map_some,Option.some.injEq]at fL;subst fL;rw[<-hk];exact h.k i e d he hd
   simp only[if_neg Bh]at fL;have fL:es[j]?=some e':=by cases hx:es[j]? with|none=>rw[hx]at fL;cases fL|some y=>rw[hx]at fL;exact fL
   exact h.k j e' d (by simpa using fL) hd
  rw[List.getElem?_modify]at fL;by_cases Bh:i=j
  .subst Bh
   rw[he]at fL;simp only[if_true,Option.map_eq_map,Option.map_some,Option.some.injEq]at fL;subst fL;have hl:i<vs.length:=by rw[<-h.vl];exact(List.getElem?_eq_some_iff.1 he).1
   rw[List.getElem?_set_self hl]at hd;cases hd;exact hx
  simp only[if_neg Bh]at fL;have fL:es[j]?=some e':=by cases hx:es[j]? with|none=>rw[hx]at fL;cases fL|some y=>rw[hx]at fL;exact fL
  rw[List.getElem?_set_ne Bh]at hd;exact h.v j e' d (by simpa using fL) hd
omit [aM]in
theorem fo.push{es:List MapEntry}{ks vs:List D}(h:fo I es ks vs){kv xv:Value}{key x:D}{clock:Nat}(hc:∀e∈es,e.born<clock)(hk:Rel I dM kv key)(hx:Rel I dM xv x):
    fo I (es++[{key:=kv,val:=xv,born:=clock}]) (ks++[key]) (vs++[x]):=by
  refine⟨List.pairwise_append.2 ⟨h.born,List.pairwise_singleton _ _,λe he e' fL=>by simp at fL;subst fL;exact hc e he⟩,by simp[h.kl],by simp[h.vl],λj e' d fL hd=>?_,λj e' d fL hd=>?_⟩
  .by_cases hj:j<es.length
   .rw[List.getElem?_append_left hj]at fL
    rw[List.getElem?_append_left (by rw[<-h.kl];exact hj)]at hd;exact h.k j e' d fL hd
   rw[List.getElem?_append_right (by omega)]at fL;rw[List.getElem?_append_right (by rw[<-h.kl];omega)]at hd;rw[h.kl]at fL;have:j-ks.length=0:=by
    rcases Nat.eq_zero_or_pos (j-ks.length)with h0|h0
    .exact h0
    rw[List.getElem?_eq_none (by simp;omega)]at hd;cases hd
   rw[this]at fL hd;simp at fL hd;subst fL hd;exact hk
  by_cases hj:j<es.length
  .rw[List.getElem?_append_left hj]at fL
   rw[List.getElem?_append_left (by rw[<-h.vl];exact hj)]at hd;exact h.v j e' d fL hd
  rw[List.getElem?_append_right (by omega)]at fL;rw[List.getElem?_append_right (by rw[<-h.vl];omega)]at hd;rw[h.vl]at fL;have:j-vs.length=0:=by
   rcases Nat.eq_zero_or_pos (j-vs.length)with h0|h0
   .exact h0
   rw[List.getElem?_eq_none (by simp;omega)]at hd;cases hd
  rw[this]at fL hd;simp at fL hd;subst fL hd;exact hx
omit [aM]in
theorem ja(w:World)(R:Nat)(o:Obj):aB (λk=>k≠R) w {w with heap:=w.heap.setIfInBounds R o}:=
 ⟨rfl,rfl,rfl,by simp,λk hk=>by simp[Ne.symm hk]⟩
theorem s8(ak:cx.Ok)(hs:bf cx V U β I S N a w){t kt et:TypeId}{ti tk:TI}(h:aj P t ti)(hd:ti.desc=.map kt et)(hk:aj P kt tk){mv kv xv:Value}{m key x:D}
    (hm:Rel I β mv m)(qG:Rel I β kv key)(hx:Rel I β xv x){k:bE->Prop}(hq:AS tk U.boxes m key x k):
    ∃w' i b,(Instr.mapUpdate t mv kv xv).run P w=.ok () w'/\k (.set i b .eL)/\bf cx V ⟨U.tmps,U.boxes.set i b,U.y⟩ β I S N a w':=by
  have ht:P.underlying t=some (.map kt et):=hd▸h.desc;unfold AS at hq;cases m with
  |cn i=>
   simp only at hq;cases hm with
   |cn _ b R hb hf hR=>
   obtain⟨box,aN,cV⟩:=hs.bx i b hb;rw[aN]at hq;cases box with
   |flat=>exact hq.elim
   |rows=>exact hq.elim
   |aA=>exact hq.elim
   |aJ=>exact hq.elim
   |map fz ks vs=>
    cases fz with
    |true=>exact hq.elim
    |false=>
     obtain⟨QQ,o,hfk,TS,oz,ho,hq⟩:=ae hq;obtain⟨du,sY,D4⟩:gG tk key=true/\Go.V.nr x=true/\kS i U.boxes=true:=by
      split at QQ
      .exact⟨by assumption,by assumption,QQ⟩
      cases QQ
     obtain⟨dN,R',es,clock,dh,hh,zg,T2⟩:=cV;rw[hR]at dh;cases dh;have pX:=λem=>kq (w:=w) hk du qG em;have dW:=lD (w:=w) hk du qG es.toList ks o T2.kl T2.k hfk;have cL:∀ob:Obj,aB (λB=>B<w.heap.size/\b.R≠some B) w {w with heap:=w.heap.setIfInBounds R ob}:=λob=>
      (ja w R ob).mono λB hB e=>hB.2 (by rw[hR,e])
     have cM:∀ob:Obj,({w with heap:=w.heap.setIfInBounds R ob}:World).heap[R]?=some ob:=λob=>by
      have:=bo hh;simp[this]
     have QR:Rel I dM kv key:=by
      cases key with
      |int q n=>rw[qG.aT];exact .int _ _
      |agg xs=>
       obtain⟨cs,rfl,fS⟩:=qG.gM;refine .agg cs xs fS.1.1 fS.2 λj v d hv gq=>?_;obtain⟨k,m,rfl⟩:=(lP du).2.2 d (List.mem_of_getElem? gq);rw[(fS.1.2 j v _ hv gq).aT];exact .int _ _
      |_=>cases du
     cases o with
     |none=>
      obtain⟨rfl,rfl⟩:=ho;refine⟨{w with heap:=w.heap.setIfInBounds R (.map (es.push {key:=kv,val:=xv,born:=clock}) (clock+1))},i,_,?_,hq,?_⟩
      .unfold Instr.mapUpdate
       simp[run_underlying ht,MapKept.run_getObj_map hh,pX,dW,MapKept.run_setObj_map _ hh]
      have:=hs.set ak hb aN rfl (λ_ _ _ _=>D4) (b':=b) (box':=.map false (ks++[key]) (vs++[x])) (cL (.map (es.push {key:=kv,val:=xv,born:=clock}) (clock+1))) (λR hR=>.inl hR) (k8 hb) (by
        rw[dA hb];refine⟨dN,R,_,clock+1,hR,cM _,λe he=>?_,?_⟩
        .simp only[Array.toList_push,List.mem_append,List.mem_singleton]at he
         rcases he with he|rfl
         .have:=zg e he;omega
         exact Nat.lt_succ_self _
        rw[Array.toList_push];exact T2.push zg QR (hx.nr sY))
      rw[dA hb]at this;exact this
     |some j=>
      obtain⟨rfl,rfl⟩:=ho;obtain⟨e,h1,h2,h3⟩:=dW;have Z0:es[j]?=some e:=by simpa using h1
      have cH:=Br (P:=P) (w:=w) qG du;refine⟨{w with heap:=w.heap.setIfInBounds R (.map (es.modify j λe=>{e with key:=kv,val:=xv}) clock)},i,_,?_,hq,?_⟩
      .unfold Instr.mapUpdate
       simp[run_underlying ht,MapKept.run_getObj_map hh,pX,h2,Z0,h3,cH,MapKept.run_setObj_map _ hh]
      have:=hs.set ak hb aN rfl (λ_ _ _ _=>D4) (b':=b) (box':=.map false TS (vs.set j x)) (cL (.map (es.modify j λe=>{e with key:=kv,val:=xv}) clock)) (λR hR=>.inl hR) (k8 hb) (by
        rw[dA hb];refine⟨dN,R,_,clock,hR,cM _,λe' fL=>?_,?_⟩
        .rw[Array.toList_modify]at fL
         have oE:e'.born∈(es.toList.modify j λe=>{e with key:=kv,val:=xv}).map (·.born):=List.mem_map_of_mem fL;rw[nL]at oE;obtain⟨e2,h5,h6⟩:=List.mem_map.1 oE;rw[<-h6];exact zg e2 h5
        rw[Array.toList_modify];exact T2.modify h1 h3 (hx.nr sY))
      rw[dA hb]at this;exact this
  |_=>exact hq.elim
omit [aM]in
theorem r9{s:ByteArray}{pos:Nat}(h:pos<s.size+5):pV s pos=.stringIter s pos:=if_pos h
omit [aM]in
theorem Hv(s:ByteArray)(i:Nat):(Utf8.decode s i).2<=4:=by
 unfold Utf8.decode;simp only;split<;>(try split)<;>(try split)<;>(try split)<;>(try split)<;>(try split)<;>(try split)<;>simp
theorem D5(ak:cx.Ok)(hs:bf cx V U β I S N a w){v:Value}{i:Nat}(hv:Rel I β v (.iY i)){s:ByteArray}{pos:Nat}(aN:U.boxes[i]?=some (.aA false s pos)){k:bE->Prop}
    (hk:(pos<s.size->∃c wd,Utf8.decode s pos=(c,wd)/\k (.set i (.aA false s (pos+wd)) (.b9 [.tt,.int .i64 pos,.int .i32 c])))/\(¬pos<s.size->pos<s.size+5/\k (.set i (.aA false s pos) (.b9 [.ff]))))(ty:TypeId):
    ∃w' pos' d e,(Instr.next v true ty).run P w=.ok e w'/\k (.set i (.aA false s pos') d)/\bf cx V ⟨U.tmps,U.boxes.set i (.aA false s pos'),U.y⟩ β I S N a w'/\Rel I β e d:=by
  cases hv with
  |iY _ b R hb hf hR=>
  obtain⟨box,fp,cV⟩:=hs.bx i b hb;rw[aN]at fp;cases fp;have hp5:pos<s.size+5:=by
   by_cases hp:pos<s.size
   .omega
   exact(hk.2 hp).1
  obtain⟨_,ho0,R',dh,hh⟩:=cV.resolve_right λh=>absurd h.far (by omega);rw[hR]at dh;cases dh;rw[r9 hp5]at hh;have cL:∀ob:Obj,aB (λB=>B<w.heap.size/\b.R≠some B) w {w with heap:=w.heap.setIfInBounds R ob}:=λob=>
   (ja w R ob).mono λB hB e=>hB.2 (by rw[hR,e])
  have cM:∀ob:Obj,({w with heap:=w.heap.setIfInBounds R ob}:World).heap[R]?=some ob:=λob=>by
   have:=bo hh;simp[this]
  have dE:∀pos',pos'<s.size+5->bf cx V ⟨U.tmps,U.boxes.set i (.aA false s pos'),U.y⟩ β I S N a {w with heap:=w.heap.setIfInBounds R (.stringIter s pos')}:=λpos' h5=>by
   have:=hs.set ak hb aN rfl (λ_ _ _ e=>by cases e) (b':=b) (box':=.aA false s pos') (cL (.stringIter s pos')) (λR hR=>.inl hR) (k8 hb) (by
    rw[dA hb];exact .inl ⟨hf,ho0,R,hR,by rw[r9 h5];exact cM _⟩)
   rw[dA hb]at this;exact this
  have UX:({w with heap:=w.heap.setIfInBounds R (.stringIter s pos)}:World)=w:=by
   have:w.heap.setIfInBounds R (.stringIter s pos)=w.heap:=by
    apply Array.ext_getElem?;intro j;by_cases hj:R=j
    .subst hj
     rw[Array.getElem?_setIfInBounds_self_of_lt (bo hh),hh]
    rw[Array.getElem?_setIfInBounds_ne hj]
   rw[this]
  by_cases hp:pos<s.size
  .obtain⟨c,wd,hcw,hk⟩:=hk.1 hp
   refine⟨_,pos+wd,_,.tuple #[.bool true,.int .i64 pos,.int .i32 c],?_,hk,dE _ (by have:=Hv s pos;rw[hcw]at this;omega),Rel.ji (vs:=[.bool true,.int .i64 pos,.int .i32 c]) (bn.cons .tt (bn.cons (.int _ _) (bn.cons (.int _ _) .nil)))⟩;simp only[Instr.next,getObj,setObj,Sem.run_bind,Sem.run,hh,Result.andThen,hp,if_true,hcw];simp[goInt]
  refine⟨_,pos,_,.tuple #[.bool false],?_,(hk.2 hp).2,dE _ hp5,Rel.ji (vs:=[.bool false]) (bn.cons .ff .nil)⟩;rw[UX];simp[Instr.next,getObj,Sem.run,hh,hp]
end
end Go.V
namespace Go.V
open Go.RowKit
section
variable{P:Program}[aM]{T:Nat->Option TI}{cx:Cx}{V:Nat->Prop}{U:St}{β:BE}{I:aW}{S:Nat->Prop}{N:Nat}{a:Act}{w:World}
def Bs(es:Array MapEntry)(seen:Array Nat):Array MapEntry:=es.filter λe=>!seen.contains e.born
omit [aM]in
theorem JV(seen:Array Nat)(es:Array MapEntry)(since c0:Nat)(hold:∀x∈es.toList,x.born<since)(YC:since<=c0):
    (!seen.isEmpty&&!es.isEmpty&&es.all (λx=>decide (x.born>=c0)))=false:=by
  cases he:es.isEmpty with
  |true=>simp
  |false=>
   have cW:es.all (λx=>decide (x.born>=c0))=false:=by
    rw[Bool.eq_false_iff];intro h;rw[Array.all_eq_true_iff_forall_mem]at h;have h0:0<es.size:=by
     rcases Nat.eq_zero_or_pos es.size with h0|h0
     .simp[Array.isEmpty,h0]at he
     exact h0
    have hm:es[0]∈es:=Array.getElem_mem h0;have h1:=h _ hm;have h2:=hold es[0] (by simp);simp at h1;omega
   simp[cW]
omit [aM]in
theorem run_next_at(w:World)(ty:TypeId)(R bm since c0:Nat)(seen:Array Nat)(es:Array MapEntry)(clock:Nat)(hR:w.heap[R]?=some (.mapIter (some bm) since seen c0))(hb:w.heap[bm]?=some (.map es clock))
    (hold:∀x∈es.toList,x.born<since)(YC:since<=c0):
    ((Bs es seen).size=0/\(Instr.next (.pointer (some ⟨R,0,none⟩)) false ty).run P w=.ok (.tuple #[.bool false]) w)\/
    ∃e∈(Bs es seen).toList,∃w1:World,aB (λ_=>True) w w1/\(Instr.next (.pointer (some ⟨R,0,none⟩)) false ty).run P w=.ok (.tuple #[.bool true,e.key,e.val]) {w1 with heap:=w1.heap.setIfInBounds R (.mapIter (some bm) since (seen.push e.born) clock)}:=by
  simp only[Instr.next,getObj,Sem.run_bind,Sem.run,hR,hb,Result.andThen,JV seen es since c0 hold YC,Bool.false_eq_true,if_false];unfold Bs;have eX:∀x∈(Array.filter (λe=>!seen.contains e.born) es).toList,x.born<since:=λx hx=>hold x (by simp at hx⊢;exact hx.1)
  generalize Array.filter (λe=>!seen.contains e.born) es=L at eX⊢
  have e1:L.filter (λx=>decide (x.born<since))=L:=Array.filter_eq_self.2 (λx hx=>by simpa using eX x (by simpa using hx));have e2:L.filter (λx=>decide (x.born>=since))=#[]:=by
   rw[Array.filter_eq_empty_iff];intro x hx;have:=eX x (by simpa using hx);simp;omega
  simp only[e1,e2,Array.append_empty];by_cases h0:L.size=0
  .left
   have:L=#[]:=Array.eq_empty_of_size_eq_zero h0;subst this;refine⟨rfl,?_⟩;simp[choose,Sem.run,Question.forced]
  right
  have eh:L.isEmpty=false:=by simp[Array.isEmpty,h0]
  simp only[eh,Bool.false_eq_true,if_false,Array.empty_append,Array.size_map];have hch:∃(j:Nat)(w1:World),j<L.size/\(w1=w\/w1=w.drew)/\(choose (Question.mapNext L.size)).run P w=.ok j w1:=by
   by_cases hf:L.size<=1
   .exact⟨0,w,by omega,.inl rfl,by simp[choose,Sem.run,Question.forced,hf]⟩
   exact⟨_,w.drew,Nat.mod_lt _ (by omega),.inr rfl,by
     simp only[choose,Sem.run,Question.forced,decide_eq_true_eq,hf,if_false,Question.cut];rfl⟩
  obtain⟨j,w1,hj,Ha,aP⟩:=hch;have hk:aB (λ_=>True) w w1:=by
   rcases Ha with rfl|rfl
   .exact aB.refl _ _
   exact aB.drew _ _
  refine⟨L[j],by simp,w1,hk,?_⟩;have Bk:w1.heap[R]?=some (.mapIter (some bm) since seen c0):=(hk.block R trivial).trans hR;have dE:∀o':Obj,(setObj R o').run P w1=.ok () {w1 with heap:=w1.heap.setIfInBounds R o'}:=λo'=>by
   simp only[setObj,Sem.run,Bk]
  simp only[aP,Array.getElem?_map,Array.getElem?_eq_getElem hj,Option.map_some,Sem.run_bind,dE,Result.andThen];rfl
omit [aM]in
theorem Hw{es:List MapEntry}(h:pS es){i j:Nat}{e e':MapEntry}(hi:es[i]?=some e)(hj:es[j]?=some e')(hb:e.born=e'.born):i=j:=by
 obtain⟨qp,rfl⟩:=List.getElem?_eq_some_iff.1 hi;obtain⟨ng,rfl⟩:=List.getElem?_eq_some_iff.1 hj;have hp:=List.pairwise_iff_getElem.1 h;rcases Nat.lt_trichotomy i j with h1|h1|h1
 .have:=hp i j qp ng h1;omega
 .exact h1
 have:=hp j i ng qp h1;omega
omit [aM]in
theorem Bt{es:Array MapEntry}{seen:List Nat}{sn:Array Nat}(QS:sn.toList=(seen.reverse.map λq=>((es[q]?).map (·.born)).getD 0))(cG:∀q∈seen,q<es.size)(hb:pS es.toList){q:Nat}{e:MapEntry}(hq:es[q]?=some e):
    sn.contains e.born=true↔q∈seen:=by
  rw[Array.contains_iff_mem,<-Array.mem_toList_iff,QS];constructor
  .intro h
   obtain⟨q',FX,he⟩:=List.mem_map.1 h;have FX:=List.mem_reverse.1 FX;have hl:=cG q' FX;have h1:es[q']?=some es[q']:=Array.getElem?_eq_getElem hl;rw[h1]at he;have:=Hw hb (i:=q') (j:=q) (e:=es[q']) (e':=e) (by simp) (by simpa using hq) he;rw[<-this];exact FX
  intro h;exact List.mem_map.2 ⟨q,List.mem_reverse.2 h,by rw[hq];rfl⟩
omit [aM]in
theorem Hx(hs:bf cx V U β I S N a w){t kt et:TypeId}(ht:P.underlying t=some (.map kt et)){v:Value}{j:Nat}(hv:Rel I β v (.cn j)){fz:Bool}{ks vs:List D}(aN:U.boxes[j]?=some (.map fz ks vs)):
    ∃o,(Instr.range t v).run P w=.ok (.pointer (some ⟨w.heap.size,0,none⟩)) (w.alloc o)/\∀β':BE,β.le β'->bA I β' (w.alloc o) ⟨some w.heap.size,true,0,0,0,0,0⟩ (.aJ false j ks vs []):=by
  cases hv with
  |cn _ b R hb hf hR=>
  obtain⟨box,fp,cV⟩:=hs.bx j b hb;rw[aN]at fp;cases fp;obtain⟨_,R',es,clock,dh,hh,zg,T2⟩:=cV;rw[hR]at dh;cases dh;refine⟨.mapIter (some R) clock #[] clock,?_,λβ' hle=>?_⟩
  .simp[Instr.range,run_underlying ht,MapKept.run_getObj_map hh]
  have Z1:β' j=some b:=by
    obtain⟨b',h1,rfl|⟨h2,_⟩⟩:=hle j b hb
    .exact h1
    rw[hf]at h2;cases h2
  refine⟨rfl,w.heap.size,b,R,es,clock,clock,clock,#[],rfl,Z1,hf,hR,World.alloc_heap_new w _,(Below.heap_alloc w _ R (bo hh)).trans hh,zg,Nat.le_refl _,Nat.le_refl _,λq hq=>(by cases hq),T2,rfl,λq hq=>(by cases hq)⟩
theorem JW(ak:cx.Ok)(hs:bf cx V U β I S N a w){v:Value}{i:Nat}(hv:Rel I β v (.iY i)){j:Nat}{ks vs:List D}{seen:List Nat}(aN:U.boxes[i]?=some (.aJ false j ks vs seen)){k:bE->Prop}
    (hk:(∀(q:Nat)(kd vd:D),ks[q]?=some kd->vs[q]?=some vd->q∉seen->k (.set i (.aJ false j ks vs (q::seen)) (.b9 [.tt,kd,vd])))/\((∀q:Nat,q<ks.length->q∈seen)->k (.set i (.aJ false j ks vs seen) (.b9 [.ff]))))(ty:TypeId):
    ∃w' Bu d e,(Instr.next v false ty).run P w=.ok e w'/\k (.set i (.aJ false j ks vs Bu) d)/\bf cx V ⟨U.tmps,U.boxes.set i (.aJ false j ks vs Bu),U.y⟩ β I S N a w'/\Rel I β e d:=by
  cases hv with
  |iY _ b R hb hf hR=>
  obtain⟨box,fp,cV⟩:=hs.bx i b hb;rw[aN]at fp;cases fp;obtain⟨_,R',bm,Rm,es,clock,since,c0,sn,dh,oE,Pf,A7,h1,h2,h3,h4,Qt,h5,h6,h7,h8⟩:=cV;rw[hR]at dh;cases dh;have eh:Rm≠R:=λe=>by rw[e,h1]at h2;cases h2
  rcases run_next_at (P:=P) w ty R Rm since c0 sn es clock h1 h2 h3 h4 with⟨h0,aP⟩|⟨e,he,w1,xq,aP⟩
  .refine⟨w,seen,_,_,aP,hk.2 λq hq=>?_,?_,Rel.ji (vs:=[.bool false]) (bn.cons .ff .nil)⟩
   .have ND:q<es.size:=by have:=h6.kl;simp at this;omega
    have Z2:es[q]?=some es[q]:=Array.getElem?_eq_getElem ND;refine(Bt h7 h8 h6.born Z2).1 ?_;cases hc:sn.contains es[q].born with
    |true=>rfl
    |false=>
     exfalso;have:es[q]∈Bs es sn:=Array.mem_filter.2 ⟨Array.getElem_mem ND,by rw[hc];rfl⟩;have:=Array.size_pos_of_mem this;omega
   have:U.boxes.set i (.aJ false j ks vs seen)=U.boxes:=by
     refine List.ext_getElem? λn=>?_;rw[List.getElem?_set];split
     .rename_i e;subst e
      rw[aN,if_pos (List.getElem?_eq_some_iff.1 aN).1]
     rfl
   rw[this];exact hs
  have eX:e∈es/\sn.contains e.born=false:=by
    unfold Bs at he;simpa using he
  obtain⟨q,hq⟩:=Array.mem_iff_getElem?.1 eX.1;have ND:=(Array.getElem?_eq_some_iff.1 hq).1;have Du:q<ks.length:=by have:=h6.kl;simp at this;omega
  have T1:q<vs.length:=by have:=h6.vl;simp at this;omega
  have Z3:q∉seen:=λh=>by
   have:=(Bt h7 h8 h6.born hq).2 h;rw[eX.2]at this;cases this
  have hkr:=h6.k q e ks[q] (by simpa using hq) (List.getElem?_eq_getElem Du);have xb:=h6.v q e vs[q] (by simpa using hq) (List.getElem?_eq_getElem T1);have JX:w1.heap[R]?=some (.mapIter (some Rm) since sn c0):=(xq.block R trivial).trans h1;refine⟨_,q::seen,_,_,aP,hk.1 q ks[q] vs[q] (List.getElem?_eq_getElem Du) (List.getElem?_eq_getElem T1) Z3,?_,
   Rel.ji (vs:=[.bool true,e.key,e.val]) (bn.cons .tt (bn.cons (hkr.lift I.le_refl) (bn.cons (xb.lift I.le_refl) .nil)))⟩
  have cL:aB (λB=>B<w.heap.size/\b.R≠some B) w {w1 with heap:=w1.heap.setIfInBounds R (.mapIter (some Rm) since (sn.push e.born) clock)}:=
   (xq.mono λ_ _=>trivial).trans ((ja w1 R _).mono λB hB e=>hB.2 (by rw[hR,e]))
  have:=hs.set ak hb aN rfl (λ_ _ _ e=>by cases e) (b':=b) (box':=.aJ false j ks vs (q::seen)) cL (λR hR=>.inl hR) (k8 hb) (by
   rw[dA hb];refine⟨hf,R,bm,Rm,es,clock,since,clock,sn.push e.born,hR,oE,Pf,A7,?_,?_,h3,Qt,Qt,λ_ _=>rfl,h6,?_,?_⟩
   .have:=bo JX
    simp[this]
   .have M1:w1.heap[Rm]?=some (.map es clock):=(xq.block Rm trivial).trans h2
    simp[Ne.symm eh,M1]
   .rw[Array.toList_push,h7]
    simp[hq]
   intro q' FX;rcases List.mem_cons.1 FX with rfl|FX
   .exact ND
   exact h8 q' FX)
  rw[dA hb]at this;exact this
omit [aM]in
theorem Hy(hs:bf cx V U β I S N a w){v:Value}{i:Nat}(hv:Rel I β v (.iY i)){fz:Bool}{j:Nat}{ks vs:List D}{q:Nat}{seen:List Nat}(aN:U.boxes[i]?=some (.aJ fz j ks vs (q::seen))){kd vd:D}(jY:ks[q]?=some kd)(Nw:vs[q]?=some vd):
    ∃e,(Instr.entry v).run P w=.ok e w/\Rel I β e (.b9 [kd,vd]):=by
  cases hv with
  |iY _ b R hb hf hR=>
  obtain⟨box,fp,cV⟩:=hs.bx i b hb;rw[aN]at fp;cases fp;obtain⟨_,R',bm,Rm,es,clock,since,c0,sn,dh,oE,Pf,A7,h1,h2,h3,h4,Qt,h5,h6,h7,h8⟩:=cV;rw[hR]at dh;cases dh;have ua:c0=clock:=h5 q rfl;subst ua;have ND:=h8 q (by simp);have Z2:es[q]?=some es[q]:=Array.getElem?_eq_getElem ND;have mL:sn.back?=some es[q].born:=by
   rw[<-Array.getLast?_toList,h7,List.reverse_cons,List.map_append,List.map_cons,List.map_nil,List.getLast?_concat,Z2];rfl
  have UY:es.find? (·.born==es[q].born)=some es[q]:=by
   rw[<-Array.find?_toList];have key:∀(l:List MapEntry),pS l->∀e∈l,l.find? (·.born==e.born)=some e:=by
    intro l
    induction l with
    |nil=>intro _ e he;cases he
    |cons x r ih=>
     intro hb e he;obtain⟨hx,hr⟩:=List.pairwise_cons.1 hb;rw[List.find?_cons];rcases List.mem_cons.1 he with rfl|he
     .simp
     have:(x.born==e.born)=false:=by have:=hx e he;simp;omega
     rw[this];exact ih hr e he
   exact key _ h6.born _ (by simp)
  refine⟨.tuple #[es[q].key,es[q].val],?_,Rel.ji (vs:=[es[q].key,es[q].val]) (bn.cons ((h6.k q _ kd (by simp) jY).lift I.le_refl) (bn.cons ((h6.v q _ vd (by simp) Nw).lift I.le_refl) .nil))⟩;simp only[Instr.entry,getObj,Sem.run_bind,Sem.run,h1,h2,Result.andThen,mL,bne_self_eq_false,Bool.false_eq_true,if_false,UY];rfl
end
end Go.V
namespace Go.V
open Go.RowKit
theorem gP(f:Nat->Nat):∀l,mY f l=l.map (eg f)
 |[]=>rfl
 |d::r=>by simp only[mY,List.map_cons];rw[gP f r]
theorem gK{f:Nat->Nat}{l:List D}{i:Nat}:(mY f l)[i]?=(l[i]?).map (eg f):=by rw[gP,List.getElem?_map]
theorem Rel.eg{I:aW}{β β':BE}{v:Value}{d:D}(h:Rel I β v d){f:Nat->Nat}(hf:∀i b,β i=some b->β' (f i)=some b):Rel I β' v (eg f d):=by
 induction h with
 |agg cs ds hl h1 _ ih=>
  refine .agg cs _ (by rw[gP];simpa using hl) h1 λi v d hv hd=>?_;rw[gK]at hd;cases gq:ds[i]? with
  |none=>rw[gq]at hd;cases hd
  |some d'=>rw[gq]at hd;cases hd;exact ih i v d' hv gq hf
 |b9 cs ds hl _ ih=>
  refine .b9 cs _ (by rw[gP];simpa using hl) λi v d hv hd=>?_;rw[gK]at hd;cases gq:ds[i]? with
  |none=>rw[gq]at hd;cases hd
  |some d'=>rw[gq]at hd;cases hd;exact ih i v d' hv gq hf
 |bR fn vs us ds es hl hm _ _ ih G7=>
  refine .bR fn vs us _ _ (by rw[gP];simpa using hl) (by rw[gP];simpa using hm) (λi v d hv hd=>?_) λi v d hv hd=>?_
  .rw[gK]at hd
   cases gq:ds[i]? with
   |none=>rw[gq]at hd;cases hd
   |some d'=>rw[gq]at hd;cases hd;exact ih i v d' hv gq hf
  rw[gK]at hd;cases gq:es[i]? with
  |none=>rw[gq]at hd;cases hd
  |some d'=>rw[gq]at hd;cases hd;exact G7 i v d' hv gq hf
 |loc i off b R hb dN hR=>exact .loc _ off b R (hf i b hb) dN hR
 |bH i off b R hb dN hR=>exact .bH _ off b R (hf i b hb) dN hR
 |bM i g r off b R hb dN hR hg=>exact .bM _ g r off b R (hf i b hb) dN hR hg
 |dT a i g r off b hb dN hg=>exact .dT a _ g r off b (hf i b hb) dN hg
 |sl a c i g off len b hb dN hg hc hl hn ha=>exact .sl a c _ g off len b (hf i b hb) dN hg hc hl hn ha
 |cJ a c i g off len b hb dN hg=>exact .cJ a c _ g off len b (hf i b hb) dN hg
 |eL v=>exact .eL v
 |j7=>exact .j7
 |tt=>exact .tt
 |ff=>exact .ff
 |bool b=>exact .bool b
 |int k n=>exact .int k n
 |str s=>exact .str s
 |cO=>exact .cO
 |ro B off ds u hI h1 h _=>exact .ro B off ds u hI h1 h
 |dj a cap sz=>exact .dj a cap sz
 |list B off cap sz rows u hc aI hI h1 h _=>exact .list B off cap sz rows u hc aI hI h1 h
 |ao a=>exact .ao a
 |a7=>exact .a7
 |j8 l=>exact .j8 l
 |fh=>exact .fh
 |dI=>exact .dI
 |cn i b R hb dN hR=>exact .cn _ b R (hf i b hb) dN hR
 |iY i b R hb dN hR=>exact .iY _ b R (hf i b hb) dN hR
 |gj a c i off sz len b R hb dN hR hl ha=>exact .gj a c _ off sz len b R (hf i b hb) dN hR hl ha
 |gp g off=>exact .gp g off
 |dY R c h=>exact .dY R c h
 |nk R es ks vs hI hb hl hm h h' _ _=>exact .nk R es ks vs hI hb hl hm h h'
theorem Rel.s9{I:aW}{β β':BE}{v:Value}{e:D}(h:Rel I β' v e){f:Nat->Nat}(hf:∀i,β i=β' (f i)):∀{d:D},e=V.eg f d->Rel I β v d:=by
 induction h with
 |agg cs ds hl h1 _ ih=>
  intro d e;cases d<;>simp only[V.eg,D.agg.injEq,reduceCtorEq]at e;subst e;refine .agg cs _ (by rw[gP]at hl;simpa using hl) h1 λi v d hv hd=>ih i v (V.eg f d) hv (by rw[gK,hd];rfl) hf rfl
 |b9 cs ds hl _ ih=>
  intro d e;cases d<;>simp only[V.eg,D.b9.injEq,reduceCtorEq]at e;subst e;refine .b9 cs _ (by rw[gP]at hl;simpa using hl) λi v d hv hd=>ih i v (V.eg f d) hv (by rw[gK,hd];rfl) hf rfl
 |bR fn vs us ds es hl hm _ _ ih G7=>
  intro d e;cases d<;>simp only[V.eg,D.bR.injEq,reduceCtorEq]at e;obtain⟨rfl,rfl,rfl⟩:=e;refine .bR _ vs us _ _ (by rw[gP]at hl;simpa using hl) (by rw[gP]at hm;simpa using hm) (λi v d hv hd=>ih i v (V.eg f d) hv (by rw[gK,hd];rfl) hf rfl) λi v d hv hd=>G7 i v (V.eg f d) hv (by rw[gK,hd];rfl) hf rfl
 |loc i off b R hb dN hR=>
  intro d e;cases d<;>simp only[V.eg,D.loc.injEq,reduceCtorEq]at e;obtain⟨rfl,rfl⟩:=e;exact .loc _ _ b R ((hf _).trans hb) dN hR
 |bH i off b R hb dN hR=>
  intro d e;cases d<;>simp only[V.eg,D.bH.injEq,reduceCtorEq]at e;obtain⟨rfl,rfl⟩:=e;exact .bH _ _ b R ((hf _).trans hb) dN hR
 |bM i g r off b R hb dN hR hg=>
  intro d e;cases d<;>simp only[V.eg,D.bM.injEq,reduceCtorEq]at e;obtain⟨rfl,rfl,rfl,rfl⟩:=e;exact .bM _ _ _ _ b R ((hf _).trans hb) dN hR hg
 |dT a i g r off b hb dN hg=>
  intro d e;cases d<;>simp only[V.eg,D.bM.injEq,reduceCtorEq]at e;obtain⟨rfl,rfl,rfl,rfl⟩:=e;exact .dT a _ _ _ _ b ((hf _).trans hb) dN hg
 |sl a c i g off len b hb dN hg hc hl hn ha=>
  intro d e;cases d<;>simp only[V.eg,D.sl.injEq,reduceCtorEq]at e;obtain⟨rfl,rfl,rfl,rfl⟩:=e;exact .sl a c _ _ _ _ b ((hf _).trans hb) dN hg hc hl hn ha
 |cJ a c i g off len b hb dN hg=>
  intro d e;cases d<;>simp only[V.eg,D.sl.injEq,reduceCtorEq]at e;obtain⟨rfl,rfl,rfl,rfl⟩:=e;exact .cJ a c _ _ _ _ b ((hf _).trans hb) dN hg
 |eL v=>intro d e;cases d<;>simp only[V.eg,reduceCtorEq]at e;exact .eL v
 |j7=>intro d e;cases d<;>simp only[V.eg,reduceCtorEq]at e;exact .j7
 |tt=>intro d e;cases d<;>simp only[V.eg,reduceCtorEq]at e;exact .tt
 |ff=>intro d e;cases d<;>simp only[V.eg,reduceCtorEq]at e;exact .ff
 |bool b=>intro d e;cases d<;>simp only[V.eg,reduceCtorEq,D.bool.injEq]at e;subst e;exact .bool _
 |int k n=>intro d e;cases d<;>simp only[V.eg,reduceCtorEq,D.int.injEq]at e;obtain⟨rfl,rfl⟩:=e;exact .int _ _
 |str s=>intro d e;cases d<;>simp only[V.eg,reduceCtorEq,D.str.injEq]at e;subst e;exact .str _
 |cO=>intro d e;cases d<;>simp only[V.eg,reduceCtorEq]at e;exact .cO
 |ro B off ds u hI h1 h _=>intro d e;cases d<;>simp only[V.eg,reduceCtorEq,D.ro.injEq]at e;subst e;exact .ro B off _ u hI h1 h
 |dj a cap sz=>intro d e;cases d<;>simp only[V.eg,reduceCtorEq,D.list.injEq]at e;obtain⟨rfl,rfl⟩:=e;exact .dj a cap _
 |list B off cap sz rows u hc aI hI h1 h _=>intro d e;cases d<;>simp only[V.eg,reduceCtorEq,D.list.injEq]at e;obtain⟨rfl,rfl⟩:=e;exact .list B off cap _ _ u hc aI hI h1 h
 |ao a=>intro d e;cases d<;>simp only[V.eg,reduceCtorEq]at e;exact .ao a
 |a7=>intro d e;cases d<;>simp only[V.eg,reduceCtorEq]at e;exact .a7
 |j8 l=>intro d e;cases d<;>simp only[V.eg,reduceCtorEq,D.j8.injEq]at e;subst e;exact .j8 _
 |fh=>intro d e;cases d<;>simp only[V.eg,reduceCtorEq]at e;exact .fh
 |dI=>intro d e;cases d<;>simp only[V.eg,reduceCtorEq]at e;exact .dI
 |cn i b R hb dN hR=>
  intro d e;cases d<;>simp only[V.eg,D.cn.injEq,reduceCtorEq]at e;subst e;exact .cn _ b R ((hf _).trans hb) dN hR
 |iY i b R hb dN hR=>
  intro d e;cases d<;>simp only[V.eg,D.iY.injEq,reduceCtorEq]at e;subst e;exact .iY _ b R ((hf _).trans hb) dN hR
 |gj a c i off sz len b R hb dN hR hl ha=>
  intro d e;cases d<;>simp only[V.eg,D.gj.injEq,reduceCtorEq]at e;obtain⟨rfl,rfl,rfl,rfl⟩:=e;exact .gj a c _ _ _ _ b R ((hf _).trans hb) dN hR hl ha
 |gp g off=>intro d e;cases d<;>simp only[V.eg,reduceCtorEq,D.gp.injEq]at e;obtain⟨rfl,rfl⟩:=e;exact .gp _ _
 |dY R c h=>intro d e;cases d<;>simp only[V.eg,reduceCtorEq,D.dY.injEq]at e;subst e;exact .dY R _ h
 |nk R es ks vs hI hb hl hm h h' _ _=>intro d e;cases d<;>simp only[V.eg,reduceCtorEq,D.nk.injEq]at e;obtain⟨rfl,rfl⟩:=e;exact .nk R es _ _ hI hb hl hm h h'
theorem bn.s9{I:aW}{β β':BE}{vs:List Value}{ds:List D}{f:Nat->Nat}(h:bn I β' vs (mY f ds))(hf:∀i,β i=β' (f i)):bn I β vs ds:=
 ⟨by have:=h.1;rw[gP]at this;simpa using this,λi v d hv hd=>(h.2 i v (eg f d) hv (by rw[gK,hd];rfl)).s9 hf rfl⟩
theorem bn.eg{I:aW}{β β':BE}{vs:List Value}{ds:List D}{f:Nat->Nat}(h:bn I β vs ds)(hf:∀i b,β i=some b->β' (f i)=some b):bn I β' vs (mY f ds):=
 ⟨by rw[gP];simpa using h.1,λi v d hv hd=>by
  rw[gK]at hd;cases gq:ds[i]? with
  |none=>rw[gq]at hd;cases hd
  |some d'=>rw[gq]at hd;cases hd;exact(h.2 i v d' hv gq).eg hf⟩
theorem qI{f:Nat->Nat}:∀{l:List D},(mY f l).length=l.length
 |[]=>rfl
 |_::r=>by simp only[mY,List.length_cons,qI (l:=r)]
theorem bA.eg{I:aW}{β β':BE}{w:World}{b:BI}{box:af}(h:bA I β w b box){f:Nat->Nat}(hf:∀i b,β i=some b->β' (f i)=some b):bA I β' w b (box.eg f):=by
 cases box with
 |flat fz cells=>
  obtain⟨h1,R,c,t,h2,h3,h4⟩:=h;exact⟨h1,R,c,t,h2,h3,by rw[qI];exact h4.1.eg hf,by rw[qI];exact h4.2⟩
 |rows fz g sz rs=>exact h
 |map fz ks vs=>exact h
 |aA fz s pos=>exact h
 |aJ fz i ks vs seen=>
  obtain⟨h1,R,bm,Rm,es,clock,since,c0,sn,h2,h3,h4⟩:=h;exact⟨h1,R,bm,Rm,es,clock,since,c0,sn,h2,hf i bm h3,h4⟩
theorem bA.s9{I:aW}{β β':BE}{w:World}{b:BI}{box:af}{f:Nat->Nat}(h:bA I β' w b (box.eg f))(hf:∀i,β i=β' (f i)):bA I β w b box:=by
 cases box with
 |flat fz cells=>
  obtain⟨h1,R,c,t,h2,h3,h4⟩:=h;rw[qI]at h4;exact⟨h1,R,c,t,h2,h3,h4.1.s9 hf,h4.2⟩
 |rows fz g sz rs=>exact h
 |map fz ks vs=>exact h
 |aA fz s pos=>exact h
 |aJ fz i ks vs seen=>
  obtain⟨h1,R,bm,Rm,es,clock,since,c0,sn,h2,h3,h4⟩:=h;exact⟨h1,R,bm,Rm,es,clock,since,c0,sn,h2,(hf i).trans h3,h4⟩
theorem pr:∀{sel:List Nat},iP sel=true->∀{i j k:Nat},sel[i]?=some k->sel[j]?=some k->i=j
 |[],_,i,j,k,h,_=>by simp at h
 |x::r,hd,i,j,k,hi,hj=>by
  simp only[iP]at hd;split at hd
  .cases hd
  rename_i hc;have hn:x∉r:=λh=>by rw[List.contains_iff_mem.2 h]at hc;cases hc
  cases i with
  |zero=>
   cases j with
   |zero=>rfl
   |succ j=>
    simp at hi hj;subst hi;exact absurd (List.mem_of_getElem? hj) hn
  |succ i=>
   cases j with
   |zero=>
    simp at hi hj;subst hj;exact absurd (List.mem_of_getElem? hi) hn
   |succ j=>have:=pr hd (i:=i) (j:=j) (k:=k) (by simpa using hi) (by simpa using hj);omega
structure Bv(sel:List Nat)(n:Nat):Prop where
 inj:∀{i j k:Nat},sel[i]?=some k->sel[j]?=some k->i=j
 lt:∀{i k:Nat},sel[i]?=some k->k<n
theorem D6{sel:List Nat}{n:Nat}(h:FL sel n=true):Bv sel n:=by
 unfold FL at h;rw[Bool.and_eq_true]at h;exact⟨pr h.1,λ{i k} hi=>by
  have:=List.all_eq_true.1 h.2 k (List.mem_of_getElem? hi);exact Nat.blt_eq▸this⟩
theorem qJ{sel:List Nat}{n i k:Nat}(h:sel[i]?=some k):jL sel n i=k:=by unfold jL;rw[h]
theorem nM{sel:List Nat}{n i:Nat}(h:sel.length<=i):jL sel n i=n+(i-sel.length):=by
 unfold jL;rw[List.getElem?_eq_none h]
theorem JY{sel:List Nat}{n:Nat}(h:Bv sel n){i j:Nat}(e:jL sel n i=jL sel n j):i=j:=by
 cases hi:sel[i]? with
 |some k=>
  rw[qJ hi]at e;cases hj:sel[j]? with
  |some m=>rw[qJ hj]at e;subst e;exact h.inj hi hj
  |none=>
   rw[nM (by simpa using hj)]at e;have:=h.lt hi;omega
 |none=>
  have h1:sel.length<=i:=by simpa using hi
  rw[nM h1]at e;cases hj:sel[j]? with
  |some m=>rw[qJ hj]at e;have:=h.lt hj;omega
  |none=>
   have h2:sel.length<=j:=by simpa using hj
   rw[nM h2]at e;omega
theorem vu:∀{sel:List Nat}{bs:List af}{i:Nat},(j9 bs sel)[i]?=(sel[i]?).map λk=>bs[k]?
 |[],bs,i=>by simp[j9]
 |x::r,bs,i=>by
  cases i with
  |zero=>simp[j9]
  |succ i=>simp only[j9,List.getElem?_cons_succ];exact vu
theorem vv:∀(sel:List Nat)(bs:List af),(j9 bs sel).length=sel.length
 |[],_=>rfl
 |x::r,bs=>by simp[j9,vv r bs]
theorem vw:∀{sel:List Nat}{bs l:List af},sel.length<=l.length->(ed bs sel l).length=bs.length+(l.length-sel.length)
 |[],bs,l,_=>by simp[ed]
 |i::sel,bs,b::l,h=>by
  simp only[ed];rw[vw (by simpa using h)];simp
 |i::sel,bs,[],h=>by simp at h
theorem mh:∀{sel:List Nat}{bs l:List af}{k:Nat},sel.length<=l.length->(∀i:Nat,sel[i]?≠some k)->k<bs.length->(ed bs sel l)[k]?=bs[k]?
 |[],bs,l,k,_,_,hk=>by simp only[ed];rw[List.getElem?_append_left hk]
 |x::sel,bs,b::l,k,h,hk,hl=>by
  simp only[ed];rw[mh (by simpa using h) (λi=>by have:=hk (i+1);simpa using this) (by simpa using hl)];have:=hk 0;simp at this;rw[List.getElem?_set_ne this]
 |x::sel,bs,[],k,h,_,_=>by simp at h
theorem vx:∀{sel:List Nat}{bs l:List af}{i:Nat},sel.length<=l.length->(ed bs sel l)[bs.length+i]?=l[sel.length+i]?
 |[],bs,l,i,_=>by simp only[ed];rw[List.getElem?_append_right (by omega)];simp
 |x::sel,bs,b::l,i,h=>by
  simp only[ed];have:=vx (sel:=sel) (bs:=bs.set x b) (l:=l) (i:=i) (by simpa using h);simp only[List.length_set]at this;rw[this];rw[show(x::sel).length+i=sel.length+i+1 by simp;omega];rfl
 |x::sel,bs,[],i,h=>by simp at h
theorem vy:∀{sel:List Nat}{bs l:List af}{j k:Nat},Bv sel bs.length->sel.length<=l.length->sel[j]?=some k->(ed bs sel l)[k]?=l[j]?
 |[],bs,l,j,k,_,_,hj=>by simp at hj
 |x::sel,bs,b::l,j,k,hs,h,hj=>by
  simp only[ed];have fu:Bv sel (bs.set x b).length:=⟨λ{i j k} hi hj=>by
      have:=hs.inj (i:=i+1) (j:=j+1) (k:=k) (by simpa using hi) (by simpa using hj);omega,λ{i k} hi=>by have:=hs.lt (i:=i+1) (k:=k) (by simpa using hi);simpa using this⟩
  cases j with
  |zero=>
   simp at hj;subst hj;rw[mh (by simpa using h) (λi hi=>by have:=hs.inj (i:=i+1) (j:=0) (k:=x) (by simpa using hi) rfl;omega) (by have:=hs.lt (i:=0) (k:=x) rfl;simpa using this)];rw[List.getElem?_set_self (hs.lt (i:=0) (k:=x) rfl)];rfl
  |succ j=>
   rw[vy fu (by simpa using h) (by simpa using hj)];rfl
 |x::sel,bs,[],j,k,_,h,_=>by simp at h
theorem D7{sel:List Nat}{bs l:List af}(hs:Bv sel bs.length)(h:sel.length<=l.length)(i:Nat):(ed bs sel l)[jL sel bs.length i]?=l[i]?:=by
 cases hi:sel[i]? with
 |some k=>rw[qJ hi];exact vy hs h hi
 |none=>
  have h1:sel.length<=i:=by simpa using hi
  rw[nM h1,vx h];congr 1;omega
theorem qK:∀{bs:List af},DC bs=true->∀b∈bs,b.fz=false
 |[],_,b,hb=>by cases hb
 |x::r,h,b,hb=>by
  simp only[DC]at h;split at h
  .cases h
  rename_i hx;rcases List.mem_cons.1 hb with rfl|hb
  .exact hx
  exact qK h b hb
theorem Bw{sel:List Nat}{bs:List af}(h:uS sel bs=true):FL sel bs.length=true/\∀i∈sel,kS i bs=true:=by
 unfold uS at h;split at h
 .rename_i h1
  exact⟨h1,λi hi=>List.all_eq_true.1 h i hi⟩
 cases h
theorem af.zh(f:Nat->Nat)(b:af):(b.eg f).fz=b.fz:=by cases b<;>rfl
section
variable{P:Program}[aM]{sh:er}{ish:Nat->Bool}{T:Nat->Option TI}{cx:Cx}{U:St}{β:BE}{I:aW}{S:Nat->Prop}{N:Nat}{a:Act}{w:World}
def pt(cx:Cx)(I:aW)(k:Nat):Prop:=¬cx.dP k/\∃off v,I k off=some v
def Cx.D8(cx:Cx)(X:Nat->Prop)(wX:World)(I:aW)(m:Nat)(β0:BE):Cx where
 dP:=λk=>cx.dP k\/pt cx I k
 Fr:=λw=>cx.Fr w/\aB (λk=>pt cx I k/\¬Mem I k) wX w
 J:=λy Sx w=>∃S,cx.J y S w/\(∀k,Sx k↔(S k\/X k))/\(∀k,S k->¬X k)/\(∀k,X k->k<wX.heap.size)/\aB X wX w/\(∀B off v,I B off=some v->¬cx.dP B->¬S B)
 I0:=I
 G:=λ_ _=>False
 lo:=m
 b0:=β0
 sV:=λ_=>False
variable{X:Nat->Prop}{wX:World}{m:Nat}{β0:BE}
theorem Cx.Hz(ak:cx.Ok)(uv:cx.I0.le I)(hold:∀B off,cx.dP B->I B off=cx.I0 B off)(hb:∀i b,β0 i=some b->i<m):(cx.D8 X wX I m β0).Ok where
 gl:=aW.le_trans ak.gl uv
 fr:=λ_ _ h k=>⟨ak.fr _ _ h.1 (k.mono λB hB=>⟨.inl hB.1,λ⟨c,hc⟩=>hB.2 ⟨c,(hold B _ hB.1).symm.trans hc⟩⟩),h.2.trans (k.mono λ_ hB=>⟨.inr hB.1,hB.2⟩)⟩
 j:=λ_ _ _ _⟨S,h1,h2,h3,h4,h5,h6⟩ k=>⟨S,ak.j _ _ _ _ h1 (k.mono λB hB=>(h2 B).2 (.inl hB)),h2,h3,h4,h5.trans (k.mono λB hB=>(h2 B).2 (.inr hB)),h6⟩
 g:=λ_ _ h=>h.elim
 b:=hb
 d:=λ_ h=>h.elim
omit [aM]in
theorem o9.sub{dP NF S S':Nat->Prop}{I0 YD:aW}{w:World}{vs:List Value}{x:List D}{G:Nat->Prop}(h:o9 dP S I0 I w vs x G)(ho:∀B,NF B->dP B)(hS:∀B,S' B->S B)(hI:YD.le I0)(hp:∀B off v,(dP B/\I0 B off=some v)\/(¬dP B/\¬S B)->(NF B/\YD B off=some v)\/(¬NF B/\¬S' B)):o9 NF S' YD I w vs x G:=by
 cases h with
 |plain vs x h hs=>exact .plain vs x h λB off v hv=>hp B off v (hs B off v hv)
 |DQ R es clock ks us hR hc hm hk hu h1 h2 h3=>
  refine .DQ R es clock ks us hR hc hm hk hu (λh=>h1 (ho R h)) (λh=>h2 (hS R h)) λoff=>?_;cases hv:YD R off with
  |none=>rfl
  |some v=>have:=hI R off v hv;rw[h3 off]at this;cases this
omit [aM]in
theorem o9.out{dP S:Nat->Prop}{I0:aW}{w:World}{vs:List Value}{x:List D}{G:Nat->Prop}(h:o9 dP S I0 I w vs x G):∀B,G B->¬dP B/\¬S B/\∀off,I0 B off=none:=by
 cases h with
 |plain vs x h _=>exactλ_ h=>h.elim
 |DQ R es clock ks us hR hc hm hk hu h1 h2 h3=>rintro B rfl;exact⟨h1,h2,h3⟩
omit [aM]in
theorem Cx.zi(hy:bB P cx)(uv:cx.I0.le I)(hold:∀B off,cx.dP B->I B off=cx.I0 B off)(hXo:∀k,X k->¬cx.dP k):bB P (cx.D8 X wX I m β0):=by
 rintro l x r Sx w I' vs G⟨S,h1,h2,h3,h4,h5,h6⟩ Bm gT AN hS vz aq;have hG:=aq.out;obtain⟨f,tmps,assign,body,aP,kr⟩:=hy l x r S w I' vs G h1 Bm.1 (gT.of_le uv) (λk hk=>AN k (.inl hk)) (λB hB=>hS B ((h2 B).2 (.inl hB))) vz (aq.sub (λB h=>.inl h) (λB h=>(h2 B).2 (.inl h)) uv λB off v h=>by
  rcases h with⟨ho,hv⟩|⟨ho,hs⟩
  .by_cases hB:cx.dP B
   .exact .inl ⟨hB,(hold B off hB).symm.trans hv⟩
   exact .inr ⟨hB,h6 B off v hv hB⟩
  exact .inr ⟨λh=>ho (.inl h),λh=>hs ((h2 B).2 (.inl h))⟩)
 refine⟨f,tmps,assign,body,aP,kr.mono ?_⟩;rintro e w'⟨b,QT,rfl,hj,hk,gu,ta,vA,zj⟩;have JZ:∀k,X k->k<w.heap.size/\¬(cx.dP k/\Mem cx.I0 k)/\¬S k/\¬G k:=λk hk=>⟨hS k ((h2 k).2 (.inr hk)),λho=>hXo k hk ho.1,λhs=>h3 k hs hk,λhg=>(hG k hg).2.1 ((h2 k).2 (.inr hk))⟩;refine⟨b,λk=>QT k\/X k,rfl,⟨QT,hj,λk=>Iff.rfl,?_,h4,h5.trans (hk.mono JZ),?_⟩,hk.mono λk bF=>⟨bF.1,λ⟨ho,c,hc⟩=>bF.2.1 ⟨.inl ho,c,uv _ _ _ hc⟩,λhs=>bF.2.2.1 ((h2 k).2 (.inl hs)),bF.2.2.2⟩,?_,?_,?_,zj,?_⟩
 .intro k bF hx
  rcases gu k bF with h|h|h
  .exact h3 k h hx
  .have:=(JZ k hx).1;omega
  exact(JZ k hx).2.2.2 h
 .intro B off v hv hB hs
  rcases gu B hs with h|h|h
  .exact h6 B off v hv hB h
  .have:=cy (gT B off v hv);omega
  exact(hG B h).1 (.inr ⟨hB,off,v,hv⟩)
 .rintro B(hB|hB)
  .rcases gu B hB with h|h|h
   .exact .inl ((h2 B).2 (.inl h))
   .exact .inr (.inl h)
   exact .inr (.inr h)
  exact .inl ((h2 B).2 (.inr hB))
 .rintro B(hB|hB)
  .exact ta B hB
  exact Nat.lt_of_lt_of_le (JZ B hB).1 hk.size
 .refine⟨λB off v hv=>?_,gT.ex⟩
  by_cases hB:cx.dP B
  .exact vA B off v (by rw[<-hold B off hB];exact hv)
  have h7:=gT B off v hv;rw[hk.cell ⟨cy h7,λho=>hB ho.1,h6 B off v hv hB,λhg=>(hG B hg).1 (.inr ⟨hB,off,v,hv⟩)⟩];exact h7
 exact Bm.2.trans (hk.mono λk⟨⟨ho,off,v,hv⟩,_⟩=>⟨cy (gT k off v hv),λh=>ho h.1,h6 k off v hv ho,λhg=>(hG k hg).1 (.inr ⟨ho,off,v,hv⟩)⟩)
theorem D9(ak:cx.Ok)(hy:bB P cx)(hs:bf cx (λ_=>True) U β I S N a w)(cK:∀i,i<U.boxes.length->(β i).isSome=true){sel:List Nat}(QU:uS sel U.boxes=true){fk:FuncId}{jG:List D}{uU:List af}{Q:D->List af->eG->Prop}
    {vs:List Value}(aq:bn I β vs (mY (jL sel U.boxes.length) jG))(k6:uU.map (λb=>some (b.eg (jL sel U.boxes.length)))=j9 U.boxes sel)(ph:DC uU=true)(qC:lA P fk jG uU U.y Q):
    Calls P fk vs.toArray w λe w'=>∃v d bu y',e=.returned v/\Q d bu y'/\∃β' I' S',bf cx (λ_=>True) ⟨U.tmps,ed U.boxes sel (bu.map (af.eg (jL sel U.boxes.length))),y'⟩ β' I' S' N a w'/\
     (∀i,i<(ed U.boxes sel (bu.map (af.eg (jL sel U.boxes.length)))).length->(β' i).isSome=true)/\Rel I' β' v (eg (jL sel U.boxes.length) d):=by
  obtain⟨UZ,D4⟩:=Bw QU;have Ea:=D6 UZ;obtain⟨n,hn⟩:∃n,U.boxes.length=n:=⟨_,rfl⟩;rw[hn]at aq k6 Ea⊢;obtain⟨f,hf⟩:∃f,jL sel n=f:=⟨_,rfl⟩;have sa:∀{i k:Nat},sel[i]?=some k->f i=k:=λ{i k} h=>by rw[<-hf];exact qJ h
  have J0:∀{i:Nat},sel.length<=i->f i=n+(i-sel.length):=λ{i} h=>by rw[<-hf];exact nM h
  have Nq:∀{i j:Nat},f i=f j->i=j:=λ{i j} e=>JY Ea (by rw[hf];exact e);rw[hf]at aq k6⊢;have nK:∀i b,β i=some b->i<n:=λi b hb=>by
   obtain⟨box,h1,_⟩:=hs.bx i b hb;rw[<-hn];exact(List.getElem?_eq_some_iff.1 h1).1
  have J1:∀i b,β (f i)=some b->i<sel.length:=λi b hb=>by
   rcases Nat.lt_or_ge i sel.length with h|h
   .exact h
   have:=nK _ b hb;rw[J0 h]at this;omega
  have DS:uU.length=sel.length:=by
   have:=congrArg List.length k6;rw[List.length_map,vv]at this;exact this
  have cM:∀{i k:Nat},sel[i]?=some k->∃b0,uU[i]?=some b0/\U.boxes[k]?=some (b0.eg f):=λ{i k} hi=>by
   have h1:uU[i]?=some (uU[i]'(by rw[DS];exact(List.getElem?_eq_some_iff.1 hi).1)):=List.getElem?_eq_getElem _;refine⟨_,h1,?_⟩;have:=congrArg (·[i]?) k6;simp only[List.getElem?_map,vu,h1,hi,Option.map_some,Option.some.injEq]at this;exact this.symm
  obtain⟨Xs,Eb⟩:∃Xs:Nat->Prop,Xs=λR=>∃i b,β (f i)=some b/\b.R=some R:=⟨_,rfl⟩;have Eb:∀R,Xs R↔∃i b,β (f i)=some b/\b.R=some R:=λR=>by rw[Eb]
  obtain⟨X,hX⟩:∃X:Nat->Prop,X=λk=>k<w.heap.size/\¬cx.dP k/\¬S k/\¬Xs k/\¬pt cx I k:=⟨_,rfl⟩;have hX:∀k,X k↔(k<w.heap.size/\¬cx.dP k/\¬S k/\¬Xs k/\¬pt cx I k):=λk=>by rw[hX]
  have Z4:∀{i b R},β (f i)=some b->b.R=some R->¬pt cx I R:=λ{i b R} hb hR jb=>by
   obtain⟨_,off,v,hv⟩:=jb;have hi:=J1 i b hb;obtain⟨k,hk⟩:∃k,sel[i]?=some k:=⟨_,List.getElem?_eq_getElem hi⟩;obtain⟨b0,h1,h2⟩:=cM hk;have:=hs.clear (f i) b R (b0.eg f) hb hR (by rw[sa hk];exact h2) (by rw[af.zh];exact qK ph b0 (List.mem_of_getElem? h1)) off;rw[this]at hv;cases hv
  let Ec:=cx.D8 X w I sel.length (λi=>β (f i))
  have Ed:Ec.Ok:=Cx.Hz ak hs.I0 hs.fV J1;have Z5:bB P Ec:=Cx.zi hy hs.I0 hs.fV λk hk=>((hX k).1 hk).2.1;have Z6:∀k,X k->∀off,I k off=none:=λk hk off=>by
   cases hv:I k off with
   |none=>rfl
   |some v=>exact absurd ⟨((hX k).1 hk).2.1,off,v,hv⟩ ((hX k).1 hk).2.2.2.2
  have hp:Hp Ec uU U.y (λi=>β (f i)) I (λk=>S k\/X k) w:=by
   refine⟨{tm:=λt d _ hl=>(by cases hl),sz:=rfl,agree:=hs.agree,bx:=λi b hb=>?_,apart:=λi j b c R hb hc hR dh=>Nq (hs.apart _ _ b c R hb hc hR dh),own:=λi b R hb hR=>?_,clear:=λi b R box hb hR aN NG=>?_,fr:=⟨hs.fr,aB.refl _ _⟩,n0:=λk hk=>?_,I0:=aW.le_refl _,fV:=λ_ _ _=>rfl,j:=⟨S,hs.j,λk=>Iff.rfl,λk hk hx=>((hX k).1 hx).2.2.1 hk,λk hk=>((hX k).1 hk).1,aB.refl _ _,λB off v hv hB=>hs.sI B off v hv hB⟩,sb:=λB hB=>?_,sI:=λB off v hv hB=>?_,nt:=λB hB=>?_,gh:=λ_ _ h=>h.elim,qw:=BE.le_refl _,nd:=.nil,ep:=λ_ h=>h.elim,dn:=λ_ h=>h.elim,marks:=λd hd=>(by cases hd)},λi hi=>?_⟩
   .have hi:=J1 i b hb
    obtain⟨k,hk⟩:∃k,sel[i]?=some k:=⟨_,List.getElem?_eq_getElem hi⟩;obtain⟨b0,h1,h2⟩:=cM hk;obtain⟨box,h3,h4⟩:=hs.bx (f i) b hb;rw[sa hk,h2]at h3;cases h3;exact⟨b0,h1,h4.s9 λ_=>rfl⟩
   .obtain⟨h1,h2⟩:=hs.own (f i) b R hb hR
    refine⟨λho=>ho.elim h1 (Z4 hb hR),λho=>ho.elim h2 λhx=>((hX R).1 hx).2.2.2.1 ((Eb R).2 ⟨i,b,hb,hR⟩)⟩
   .have hi:=J1 i b hb
    obtain⟨k,hk⟩:∃k,sel[i]?=some k:=⟨_,List.getElem?_eq_getElem hi⟩;obtain⟨b0,h1,h2⟩:=cM hk;exact hs.clear (f i) b R (b0.eg f) hb hR (by rw[sa hk];exact h2) (by rw[af.zh];exact qK ph b0 (List.mem_of_getElem? h1))
   .rcases hk with hk|⟨_,off,v,hv⟩
    .exact hs.n0 k hk
    exact cy (hs.agree k off v hv)
   .rcases hB with hB|hB
    .exact hs.sb B hB
    exact((hX B).1 hB).1
   .by_cases ho:cx.dP B
    .exact absurd (.inl ho) hB
    exact absurd (.inr ⟨ho,off,v,hv⟩) hB
   .rcases hB with(hB|hB)|⟨i,b,hb,hR⟩
    .exact hs.nt B (.inl hB)
    .rintro⟨c,hc⟩;rw[Z6 B hB]at hc;cases hc
    exact hs.nt B (.inr ⟨_,b,hb,hR⟩)
   have bC:i<sel.length:=by rw[<-DS];exact hi
   obtain⟨k,hk⟩:∃k,sel[i]?=some k:=⟨_,List.getElem?_eq_getElem bC⟩;show(β (f i)).isSome=true;rw[sa hk];exact cK k (by rw[hn];exact Ea.lt hk)
  refine(qC.2 Ec w _ I _ vs Ed Z5 (by rw[DS];exact Nat.le_refl _) hp (aq.s9 λ_=>rfl)).mono ?_;rintro e w'⟨v,d,bu,y',β1,I1,S1,rfl,hq,⟨gu,U1⟩,hv⟩;obtain⟨S2,hJ,QV,U2,Z7,YG,hSI⟩:=gu.j;obtain⟨Bm,hkY⟩:=gu.fr;refine⟨v,d,bu,y',rfl,hq,?_⟩;have y8:sel.length<=(bu.map (af.eg f)).length:=by
   rw[List.length_map];rcases Nat.lt_or_ge bu.length sel.length with h|h
   .exfalso
    obtain⟨k,hk⟩:∃k,sel[bu.length]?=some k:=⟨_,List.getElem?_eq_getElem h⟩;have h1:=cK k (by rw[hn];exact Ea.lt hk);obtain⟨b,hb⟩:=Option.isSome_iff_exists.1 h1;obtain⟨b',h2,_⟩:=gu.qw bu.length b (by show β (f bu.length)=some b;rw[sa hk];exact hb);obtain⟨box,h3,_⟩:=gu.bx _ b' h2;have:=(List.getElem?_eq_some_iff.1 h3).1;exact Nat.lt_irrefl _ this
   exact h
  have Pv:∀i,(ed U.boxes sel (bu.map (af.eg f)))[f i]?=(bu[i]?).map (af.eg f):=λi=>by
   have:=D7 (sel:=sel) (bs:=U.boxes) (l:=bu.map (af.eg f)) (by rw[hn];exact Ea) y8 i;rw[hn,hf]at this;rw[this,List.getElem?_map]
  have Pw:∀k,(∀i,f i≠k)->k<n->(ed U.boxes sel (bu.map (af.eg f)))[k]?=U.boxes[k]?:=λk hk YH=>
   mh y8 (λi hi=>hk i (sa hi)) (by rw[hn];exact YH)
  have U3:(ed U.boxes sel (bu.map (af.eg f))).length=n+(bu.length-sel.length):=by
   rw[vw y8,hn,List.length_map]
  obtain⟨β',zk,NH⟩:∃β':BE,(∀i,β' (f i)=β1 i)/\∀k,(∀i,f i≠k)->β' k=β k:=by
   classical
   refine⟨λk=>if h:∃i,f i=k then β1 h.choose else β k,λi=>?_,λk hk=>?_⟩
   .have h:∃j,f j=f i:=⟨i,rfl⟩
    simp only[dif_pos h];rw[Nq h.choose_spec]
   simp only;rw[dif_neg (λ⟨i,hi⟩=>hk i hi)]
  have bG:∀k,(∃i,f i=k)\/∀i,f i≠k:=λk=>by
   by_cases h:∃i,f i=k
   .exact .inl h
   exact .inr λi hi=>h ⟨i,hi⟩
  have hle:β.le β':=λk b hb=>by
   rcases bG k with⟨i,rfl⟩|hk
   .obtain⟨b',h1,h2⟩:=gu.qw i b hb
    exact⟨b',by rw[zk];exact h1,h2⟩
   exact⟨b,by rw[NH k hk];exact hb,.inl rfl⟩
  have hI:I.le I1:=gu.I0;have me:∀{k b R},(∀i,f i≠k)->β k=some b->b.R=some R->¬Xs R/\w'.heap[R]?=w.heap[R]?:=λ{k b R} hk hb hR=>by
   have T3:¬Xs R:=λhx=>by
    obtain⟨i,c,hc,nH⟩:=(Eb R).1 hx;exact hk i (hs.apart _ _ c b R hc hb nH hR)
   refine⟨T3,?_⟩;obtain⟨h1,h2⟩:=hs.own k b R hb hR;by_cases jb:pt cx I R
   .exact hkY.block R ⟨jb,hs.nt R (.inr ⟨k,b,hb,hR⟩)⟩
   obtain⟨box,_,h4⟩:=hs.bx k b hb;obtain⟨_,_,h5⟩:=h4.lt hR;exact YG.block R ((hX R).2 ⟨bo h5,h1,h2,T3,jb⟩)
  have pw:∀d∈a.defers,¬cx.sV d->∃R,d={target:=.collected R,args:=#[]}/\w.heap[R]?=some (.deferred (some []))/\¬cx.dP R/\¬S R/\X R:=λd hd hD=>by
   obtain⟨R,h1,h2,h3,h4⟩:=hs.marks d hd hD;refine⟨R,h1,h2,h3,h4,(hX R).2 ⟨bo h2,h3,h4,λhx=>?_,λ⟨_,off,v,hv⟩=>?_⟩⟩
   .obtain⟨i,b,hb,hR⟩:=(Eb R).1 hx
    obtain⟨box,_,h5⟩:=hs.bx _ b hb;obtain⟨_,eX,h6⟩:=h5.lt hR;rw[h2]at h6;cases h6;exact Bool.noConfusion eX
   have:=hs.agree R off v hv;simp[cN,World.cell?,h2]at this
  refine⟨β',I1,S2,{tm:=λt e _ hl=>?_,sz:=hs.sz,agree:=gu.agree,bx:=λk b hb=>?_,apart:=λk j b c R hb hc hR dh=>?_,own:=λk b R hb hR=>?_,clear:=λk b R box hb hR aN NG off=>?_,fr:=Bm,n0:=λk hk=>gu.n0 k (.inl hk),I0:=aW.le_trans hs.I0 hI,fV:=λB off hB=>(gu.fV B off (.inl hB)).trans (hs.fV B off hB),j:=hJ,sb:=λB hB=>gu.sb B ((QV B).2 (.inl hB)),sI:=λB off v hv hB hSB=>?_,nt:=λB hB=>?_,gh:=λv d hg=>(hs.gh v d hg).mono hI hle,qw:=BE.le_trans hs.qw hle,nd:=hs.nd,ep:=hs.ep,dn:=hs.dn,marks:=λd hd hD=>?_},λk hk=>?_,hv.eg λi b hb=>by rw[zk];exact hb⟩
  .obtain⟨v,hv,hr⟩:=hs.tm t e trivial hl
   exact⟨v,hv,hr.mono hI hle⟩
  .rcases bG k with⟨i,rfl⟩|hk
   .rw[zk]at hb
    obtain⟨box,h1,h2⟩:=gu.bx i b hb;exact⟨box.eg f,by rw[Pv,h1];rfl,h2.eg λi b hb=>by rw[zk];exact hb⟩
   rw[NH k hk]at hb;obtain⟨box,h1,h2⟩:=hs.bx k b hb;refine⟨box,by rw[Pw k hk (nK k b hb)];exact h1,h2.mono hI hle λR hR=>?_⟩;rcases hR with hR|hR
   .exact(me hk hb hR).2
   cases box with
   |aJ fz j ks vs seen=>
    obtain⟨bm,oE,A7⟩:=hR;refine(me (k:=j) (λi hi=>?_) oE A7).2;have Bh:f i=j:=hi;have Z8:sel[i]?=some j:=by
     rw[<-Bh]at oE;obtain⟨k',bF⟩:∃k,sel[i]?=some k:=⟨_,List.getElem?_eq_getElem (J1 i bm oE)⟩;rw[bF,<-Bh,sa bF]
    exact rS (D4 j (List.mem_of_getElem? Z8)) h1 rfl
   |_=>exact hR.elim
  ·
   have hx:∀{i k b c},β1 i=some b->(∀i,f i≠k)->β k=some c->b.R=some R->c.R=some R->False:=λ{i k b c} hb hk hc hR dh=>by
    obtain⟨T3,_⟩:=me hk hc dh;obtain⟨h1,h2⟩:=gu.own i b R hb hR;obtain⟨h3,h4⟩:=hs.own k c R hc dh;obtain⟨box,_,h5⟩:=hs.bx k c hc;obtain⟨_,_,h6⟩:=h5.lt dh;exact h2 ((QV R).2 (.inr ((hX R).2 ⟨bo h6,h3,h4,T3,λjb=>h1 (.inr jb)⟩)))
   rcases bG k with⟨i,rfl⟩|hk
   .rw[zk]at hb
    rcases bG j with⟨i',rfl⟩|hj
    .rw[zk]at hc
     rw[gu.apart i i' b c R hb hc hR dh]
    rw[NH j hj]at hc;exact(hx hb hj hc hR dh).elim
   rw[NH k hk]at hb;rcases bG j with⟨i',rfl⟩|hj
   .rw[zk]at hc
    exact(hx hc hk hb dh hR).elim
   rw[NH j hj]at hc;exact hs.apart k j b c R hb hc hR dh
  .rcases bG k with⟨i,rfl⟩|hk
   .rw[zk]at hb
    obtain⟨h1,h2⟩:=gu.own i b R hb hR;exact⟨λho=>h1 (.inl ho),λhS=>h2 ((QV R).2 (.inl hS))⟩
   rw[NH k hk]at hb;obtain⟨h1,h2⟩:=hs.own k b R hb hR;refine⟨h1,λhS=>?_⟩;by_cases jb:pt cx I R
   .obtain⟨_,off,v,hv⟩:=jb
    exact hSI R off v hv h1 hS
   obtain⟨box,_,h5⟩:=hs.bx k b hb;obtain⟨_,_,h6⟩:=h5.lt hR;exact U2 R hS ((hX R).2 ⟨bo h6,h1,h2,(me hk hb hR).1,jb⟩)
  .rcases bG k with⟨i,rfl⟩|hk
   .rw[zk]at hb
    rw[Pv]at aN;cases A8:bu[i]? with
    |none=>rw[A8]at aN;cases aN
    |some b0=>
     rw[A8]at aN;cases aN;exact gu.clear i b R b0 hb hR A8 (by rw[<-af.zh f];exact NG) off
   rw[NH k hk]at hb;rw[Pw k hk (nK k b hb)]at aN;cases hv:I1 R off with
   |none=>rfl
   |some u=>
    exfalso;obtain⟨h1,h2⟩:=hs.own k b R hb hR;have jb:¬pt cx I R:=λ⟨_,QW,v,Pq⟩=>by rw[hs.clear k b R box hb hR aN NG QW]at Pq;cases Pq
    obtain⟨box',_,h5⟩:=hs.bx k b hb;obtain⟨_,_,h6⟩:=h5.lt hR;exact gu.sI R off u hv (λho=>ho.elim h1 jb) ((QV R).2 (.inr ((hX R).2 ⟨bo h6,h1,h2,(me hk hb hR).1,jb⟩)))
  .by_cases jb:pt cx I B
   .obtain⟨_,QW,v',Pq⟩:=jb
    exact hSI B QW v' Pq hB hSB
   exact gu.sI B off v hv (λho=>ho.elim hB jb) ((QV B).2 (.inl hSB))
  .rcases hB with hB|⟨k,b,hb,hR⟩
   .exact gu.nt B (.inl ((QV B).2 (.inl hB)))
   rcases bG k with⟨i,rfl⟩|hk
   .rw[zk]at hb
    exact gu.nt B (.inr ⟨i,b,hb,hR⟩)
   rw[NH k hk]at hb;by_cases jb:pt cx I B
   .rintro⟨c,hc⟩
    exact hs.nt B (.inr ⟨k,b,hb,hR⟩) ⟨c,(gu.fV B _ (.inr jb)).symm.trans hc⟩
   obtain⟨box',_,h5⟩:=hs.bx k b hb;obtain⟨_,_,h6⟩:=h5.lt hR;obtain⟨h1,h2⟩:=hs.own k b B hb hR;exact gu.nt B (.inl ((QV B).2 (.inr ((hX B).2 ⟨bo h6,h1,h2,(me hk hb hR).1,jb⟩))))
  .obtain⟨R,h1,h2,h3,h4,h5⟩:=pw d hd hD
   exact⟨R,h1,(YG.block R h5).trans h2,h3,λhS=>U2 R hS h5⟩
  rw[U3]at hk;rcases bG k with⟨i,rfl⟩|bF
  .rw[zk]
   refine U1 i ?_;rcases Nat.lt_or_ge i sel.length with h|h
   .rw[List.length_map]at y8;omega
   rw[J0 h]at hk;rw[List.length_map]at y8;omega
  rw[NH k bF];refine cK k ?_;rcases Nat.lt_or_ge k n with h|h
  .rw[hn];exact h
  exact absurd (by rw[J0 (by omega)];omega) (bF (sel.length+(k-n)))
end
end Go.V
namespace Go.V
open Go.RowKit
def eY(nb:Nat)(β:BE):BE:=λi=>if i<nb then β i else none
theorem iT{nb:Nat}:∀{ds:List D}{i:Nat}{d:D},da nb ds=true->ds[i]?=some d->en nb d=true
 |[],i,d,_,h=>by simp at h
 |e::r,i,d,hp,h=>by
  simp only[da]at hp;cases he:en nb e with
  |false=>rw[he]at hp;cases hp
  |true=>
   rw[he]at hp;cases i with
   |zero=>simp at h;subst h;exact he
   |succ i=>exact iT hp (by simpa using h)
theorem cX{a b:Nat}(h:Nat.blt a b=true):a<b:=Nat.blt_eq▸h
theorem Rel.ue{I:aW}{β:BE}{v:Value}{d:D}(h:Rel I β v d)(nb:Nat):en nb d=true->Rel I (eY nb β) v d:=by
 have hb:∀{β:BE}{i:Nat}{b:BI},β i=some b->Nat.blt i nb=true->eY nb β i=some b:=λ{β i b} h hi=>by
  unfold eY;rw[if_pos (cX hi)];exact h
 induction h with
 |eL v=>intro _;exact .eL v
 |j7=>intro _;exact .j7
 |tt=>intro _;exact .tt
 |ff=>intro _;exact .ff
 |bool b=>intro _;exact .bool b
 |int k n=>intro _;exact .int k n
 |str s=>intro _;exact .str s
 |agg cs ds hl h1 _ ih=>intro hp;exact .agg cs ds hl h1 λi v d hv hd=>ih i v d hv hd (iT (by simpa[en]using hp) hd)
 |b9 cs ds hl _ ih=>intro hp;exact .b9 cs ds hl λi v d hv hd=>ih i v d hv hd (iT (by simpa[en]using hp) hd)
 |cO=>intro _;exact .cO
 |loc i off b R hβ hf hR=>intro hp;exact .loc i off b R (hb hβ (by simpa only[en]using hp)) hf hR
 |bH i off b R hβ hf hR=>intro hp;exact .bH i off b R (hb hβ (by simpa only[en]using hp)) hf hR
 |bM i g r off b R hβ hf hR hg=>intro hp;exact .bM i g r off b R (hb hβ (by simpa only[en]using hp)) hf hR hg
 |dT a i g r off b hβ hf hg=>intro hp;exact .dT a i g r off b (hb hβ (by simpa only[en]using hp)) hf hg
 |ro B off ds u hI h1 h _=>intro _;exact .ro B off ds u hI h1 h
 |dj a cap sz=>intro _;exact .dj a cap sz
 |list B off cap sz rows u hc aI hI h1 h _=>intro _;exact .list B off cap sz rows u hc aI hI h1 h
 |ao a=>intro _;exact .ao a
 |sl a c i g off len b hβ hf hg hc hl hn ha=>intro hp;exact .sl a c i g off len b (hb hβ (by simpa only[en]using hp)) hf hg hc hl hn ha
 |cJ a c i g off len b hβ hf hg=>intro hp;exact .cJ a c i g off len b (hb hβ (by simpa only[en]using hp)) hf hg
 |bR fn vs us ds es hl hm _ _ ih G7=>
  intro hp;simp only[en]at hp;cases hd:da nb ds with
  |false=>rw[hd]at hp;cases hp
  |true=>
   rw[hd]at hp;exact .bR fn vs us ds es hl hm (λi v d hv gq=>ih i v d hv gq (iT hd gq)) λi v d hv gq=>G7 i v d hv gq (iT hp gq)
 |a7=>intro _;exact .a7
 |j8 l=>intro _;exact .j8 l
 |fh=>intro _;exact .fh
 |dI=>intro _;exact .dI
 |cn i b R hβ hf hR=>intro hp;exact .cn i b R (hb hβ (by simpa only[en]using hp)) hf hR
 |iY i b R hβ hf hR=>intro hp;exact .iY i b R (hb hβ (by simpa only[en]using hp)) hf hR
 |gj a c i off sz len b R hβ hf hR hl ha=>intro hp;exact .gj a c i off sz len b R (hb hβ (by simpa only[en]using hp)) hf hR hl ha
 |gp g off=>intro _;exact .gp g off
 |dY R c h=>intro _;exact .dY R c h
 |nk R es ks vs hI U4 hl hm h h' _ _=>intro _;exact .nk R es ks vs hI U4 hl hm h h'
mutual
theorem oK{n m:Nat}(h:n<=m):∀{d:D},en n d=true->en m d=true
 |.agg cs,hd=>by simp only[en]at hd⊢;exact ku h hd
 |.b9 cs,hd=>by simp only[en]at hd⊢;exact ku h hd
 |.bR f fs cs,hd=>by
  simp only[en]at hd⊢;cases h1:da n fs with
  |false=>rw[h1]at hd;cases hd
  |true=>rw[h1]at hd;rw[ku h h1];exact ku h hd
 |.loc i o,hd|.bH i o,hd=>by simp only[en]at hd⊢;rw[Nat.blt_eq]at*;omega
 |.bM i g r o,hd=>by simp only[en]at hd⊢;rw[Nat.blt_eq]at*;omega
 |.sl i g o l,hd=>by simp only[en]at hd⊢;rw[Nat.blt_eq]at*;omega
 |.cn i,hd=>by simp only[en]at hd⊢;rw[Nat.blt_eq]at*;omega
 |.iY i,hd=>by simp only[en]at hd⊢;rw[Nat.blt_eq]at*;omega
 |.gj i _ _ _,hd=>by simp only[en]at hd⊢;rw[Nat.blt_eq]at*;omega
 |.fh,_|.dI,_|.nk _ _,_|.gp _ _,_|.pO _ _,_|.dY _,_=>rfl
 |.eL,_|.tt,_|.ff,_|.bool _,_|.int _ _,_|.str _,_|.cO,_|.ro _,_|.list _ _,_|.ao,_|.a7,_|.j7,_|.j8 _,_=>rfl
theorem ku{n m:Nat}(h:n<=m):∀{ds:List D},da n ds=true->da m ds=true
 |[],_=>rfl
 |d::r,hd=>by
  simp only[da]at hd⊢;cases h1:en n d with
  |false=>rw[h1]at hd;cases hd
  |true=>rw[h1]at hd;rw[oK h h1];exact ku h hd
end
theorem fY{nb:Nat}:∀{tm:List (Nat×D)}{t:Nat}{d:D},fF nb tm=true->look tm t=some d->en nb d=true
 |[],_,_,_,h=>by cases h
 |(k,e)::r,t,d,ho,h=>by
  simp only[fF]at ho;cases he:en nb e with
  |false=>rw[he]at ho;cases ho
  |true=>
   rw[he]at ho;simp only[look]at h;cases hk:Nat.beq k t with
   |true=>rw[hk]at h;cases h;exact he
   |false=>rw[hk]at h;exact fY ho h
theorem gX{nb:Nat}:∀{bs:List af}{i:Nat}{fz:Bool}{cs:List D},aS nb bs=true->bs[i]?=some (.flat fz cs)->da nb cs=true
 |[],_,_,_,_,h=>by simp at h
 |.flat f ds::r,i,fz,cs,ho,h=>by
  simp only[aS]at ho;cases hd:da nb ds with
  |false=>rw[hd]at ho;cases ho
  |true=>
   rw[hd]at ho;cases i with
   |zero=>simp at h;rw[<-h.2];exact hd
   |succ i=>exact gX ho (by simpa using h)
 |.rows ..::r,i,fz,cs,ho,h=>by
  simp only[aS]at ho;cases i with
  |zero=>simp at h
  |succ i=>exact gX ho (by simpa using h)
 |.map ..::r,i,fz,cs,ho,h=>by
  simp only[aS]at ho;cases i with
  |zero=>simp at h
  |succ i=>exact gX ho (by simpa using h)
 |.aA ..::r,i,fz,cs,ho,h=>by
  simp only[aS]at ho;cases i with
  |zero=>simp at h
  |succ i=>exact gX ho (by simpa using h)
 |.aJ _ j _ _ _::r,i,fz,cs,ho,h=>by
  simp only[aS]at ho;cases hj:Nat.blt j nb with
  |false=>rw[hj]at ho;cases ho
  |true=>
   rw[hj]at ho;cases i with
   |zero=>simp at h
   |succ i=>exact gX ho (by simpa using h)
theorem gY{nb:Nat}:∀{bs:List af}{i:Nat}{fz:Bool}{j:Nat}{ks vs:List D}{seen:List Nat},aS nb bs=true->bs[i]?=some (.aJ fz j ks vs seen)->j<nb
 |[],_,_,_,_,_,_,_,h=>by simp at h
 |.flat f ds::r,i,fz,j,ks,vs,seen,ho,h=>by
  simp only[aS]at ho;cases hd:da nb ds with
  |false=>rw[hd]at ho;cases ho
  |true=>
   rw[hd]at ho;cases i with
   |zero=>simp at h
   |succ i=>exact gY ho (by simpa using h)
 |.rows ..::r,i,fz,j,ks,vs,seen,ho,h=>by
  simp only[aS]at ho;cases i with
  |zero=>simp at h
  |succ i=>exact gY ho (by simpa using h)
 |.map ..::r,i,fz,j,ks,vs,seen,ho,h=>by
  simp only[aS]at ho;cases i with
  |zero=>simp at h
  |succ i=>exact gY ho (by simpa using h)
 |.aA ..::r,i,fz,j,ks,vs,seen,ho,h=>by
  simp only[aS]at ho;cases i with
  |zero=>simp at h
  |succ i=>exact gY ho (by simpa using h)
 |.aJ _ j' _ _ _::r,i,fz,j,ks,vs,seen,ho,h=>by
  simp only[aS]at ho;cases hj:Nat.blt j' nb with
  |false=>rw[hj]at ho;cases ho
  |true=>
   rw[hj]at ho;cases i with
   |zero=>simp at h;rw[<-h.2.1];exact cX hj
   |succ i=>exact gY ho (by simpa using h)
theorem iU{tm:List (Nat×D)}:∀{l:List Nat}{t:Nat}{d:D},look (il tm l) t=some d->look tm t=some d
 |[],_,_,h=>by cases h
 |u::r,t,d,h=>by
  simp only[il]at h;cases hu:look tm u with
  |none=>rw[hu]at h;exact iU h
  |some e=>
   rw[hu]at h;simp only[look]at h;cases hk:Nat.beq u t with
   |true=>rw[hk]at h;cases h;rw[<-Nat.eq_of_beq_eq_true hk];exact hu
   |false=>rw[hk]at h;exact iU h
theorem sc{nb:Nat}:∀{tm:List (Nat×D)}{t:Nat}{d:D},look (DH nb tm) t=some d->(look tm t=some d/\en nb d=true)\/(d=.eL/\∃e,look tm t=some e)
 |[],_,_,h=>by cases h
 |(k,e)::r,t,d,h=>by
  simp only[DH]at h;cases he:en nb e with
  |true=>
   rw[he]at h;simp only[look]at h⊢;cases hk:Nat.beq k t with
   |true=>rw[hk]at h;cases h;exact .inl ⟨rfl,he⟩
   |false=>rw[hk]at h;exact sc h
  |false=>
   rw[he]at h;simp only[look]at h⊢;cases hk:Nat.beq k t with
   |true=>rw[hk]at h;cases h;exact .inr ⟨rfl,e,rfl⟩
   |false=>rw[hk]at h;exact sc h
section
variable{P:Program}[aM]{T:Nat->Option TI}{cx:Cx}{V:Nat->Prop}{U:St}{β:BE}{I:aW}{S:Nat->Prop}{N:Nat}{a:Act}{w:World}
omit [aM]in
theorem bA.ue{b:BI}{box:af}(h:bA I β w b box){nb:Nat}(du:∀fz cs,box=.flat fz cs->da nb cs=true)(hom:∀fz j ks vs seen,box=.aJ fz j ks vs seen->j<nb):bA I (eY nb β) w b box:=by
 cases box with
 |rows fz g sz rs=>exact h
 |map fz ks vs=>exact h
 |aA fz s pos=>exact h
 |aJ fz j ks vs seen=>
  obtain⟨hf,R,bm,Rm,es,clock,since,c0,sn,hR,oE,h⟩:=h;exact⟨hf,R,bm,Rm,es,clock,since,c0,sn,hR,by unfold eY;rw[if_pos (hom _ _ _ _ _ rfl)];exact oE,h⟩
 |flat fz cs=>
  obtain⟨hf,R,c,t,hR,hh,hr⟩:=h;exact⟨hf,R,c,t,hR,hh,⟨hr.1.1,λi v d hv hd=>(hr.1.2 i v d hv hd).ue nb (iT (du fz cs rfl) hd)⟩,hr.2⟩
omit [aM]in
theorem zm{β0 β:BE}{nb:Nat}(h:β0.le β)(hb:∀i b,β0 i=some b->i<nb):β0.le (eY nb β):=λi b hi=>by
 obtain⟨b',h1,h2⟩:=h i b hi;exact⟨b',by unfold eY;rw[if_pos (hb i b hi)];exact h1,h2⟩
theorem bf.cut(ak:cx.Ok)(h:bf cx V U β I S N a w){nb:Nat}(cY:cx.lo<=nb){tm:List (Nat×D)}(fZ:∀t d,V t->look tm t=some d->∃v,a.tmps[t]?=some v/\Rel I (eY nb β) v d)(hb:aS nb (U.boxes.take nb)=true):
    bf cx V ⟨tm,U.boxes.take nb,U.y⟩ (eY nb β) I S N a w:=by
  have hβ:∀{i b},eY nb β i=some b->i<nb/\β i=some b:=λ{i b} hi=>by
   unfold eY at hi;by_cases h:i<nb
   .rw[if_pos h]at hi;exact⟨h,hi⟩
   rw[if_neg h]at hi;cases hi
  refine{h with tm:=fZ,bx:=?_,apart:=?_,own:=?_,clear:=?_,nt:=λB hB=>h.nt B (hB.imp id λ⟨i,b,h1,h2⟩=>⟨i,b,(hβ h1).2,h2⟩),j:=h.j,gh:=λv d hg=>(h.gh v d hg).ue nb (oK cY (ak.g v d hg)),qw:=zm h.qw λi b hb=>Nat.lt_of_lt_of_le (ak.b i b hb) cY}
  .intro i b hi
   obtain⟨cG,hi⟩:=hβ hi;obtain⟨box,h1,h2⟩:=h.bx i b hi;have MW:(U.boxes.take nb)[i]?=some box:=by rw[List.getElem?_take,if_pos cG];exact h1
   exact⟨box,MW,bA.ue h2 (λfz cs e=>gX hb (e▸MW)) λfz j ks vs seen e=>gY hb (e▸MW)⟩
  .intro i j b c R h1 h2
   exact h.apart i j b c R (hβ h1).2 (hβ h2).2
  .intro i b R h1
   exact h.own i b R (hβ h1).2
  intro i b R box h1 hR aN;have aN:(U.boxes.take nb)[i]?=some box:=aN;rw[List.getElem?_take,if_pos (hβ h1).1]at aN;exact h.clear i b R box (hβ h1).2 hR aN
end
end Go.V
