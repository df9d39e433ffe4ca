/- What ballasted_holds leans on, part UJ. No condition. -/
import Derived.RecoverIn
import Derived.Test.YthglcafppddedaaGreatDoorPackUI

set_option linter.all false
namespace Go.V
open Go.RowKit
def flat:Code->List Code
 |.seq a b=>flat a++flat b
 |c=>[c]
noncomputable def tr(c:Code):List Code:=
 Code.rec (motive:=λ_=>List Code) [.skip] (λid ops dr=>[.region id ops dr]) (λ_ _ a b=>a++b) (λx a b _ _=>[.cond x a b]) (λid c _=>[.block id c]) (λc _=>[.loop c]) (λf ps a c _ _=>[.rangeFunc f ps a c]) (λid=>[.exit id]) (λc _=>[.scope c]) (λl=>[.label l]) (λl=>[.goto l]) [.ret] (λw=>[.refuse w]) c
theorem KP:∀c,tr c=flat c:=by
 intro c
 induction c with
 |seq a b ql FP=>
  show tr a++tr b=_;rw[ql,FP];rfl
 |_=>rfl
def HY(F:Fence)(n:Nat)(P:Program)(Q:Exit->Act->World->Prop):List Code->Act->World->Prop
 |[],a,w=>Q .normal a w
 |c::r,a,w=>c.wpIn F n P (Exit.then (HY F n P Q r) Q) a w
noncomputable def Uf(T:Nat->Option TI)(C:xa)(It:MT)(l:List Code):u0:=
 List.rec (motive:=λ_=>u0) (λ_ U Q=>Q .normal U) (λc _ ih=>λlo U Q=>WR T C It c lo U λe σ'=>match e with
  |.normal=>ih lo σ' Q
  |.exit id=>Q (.exit id) σ'
  |.ret=>Q .ret σ'
  |.panic v=>Q (.panic v) σ') l
section
variable{P:Program}[aM]{sh:er}{ish:Nat->Bool}{T:Nat->Option TI}{cx:Cx}{U:St}{β:BE}{I:aW}{S:Nat->Prop}{N:Nat}{a:Act}{w:World}
omit [aM]in
theorem vU{F:Fence}{n:Nat}{Q:Exit->Act->World->Prop}:∀(l m:List Code)(a:Act)(w:World),HY F n P Q (l++m) a w->HY F n P (Exit.then (HY F n P Q m) Q) l a w
 |[],m,a,w,h=>h
 |c::l,m,a,w,h=>wpIn_mono h λe a w=>by
  cases e with
  |normal=>exact vU l m a w
  |_=>exactλh=>h
omit [aM]in
theorem B3{F:Fence}{n:Nat}{Q:Exit->Act->World->Prop}:∀(l m:List Code)(a:Act)(w:World),HY F n P (Exit.then (HY F n P Q m) Q) l a w->HY F n P Q (l++m) a w
 |[],m,a,w,h=>h
 |c::l,m,a,w,h=>wpIn_mono h λe a w=>by
  cases e with
  |normal=>exact B3 l m a w
  |_=>exactλh=>h
omit [aM]in
theorem vV{F:Fence}{n:Nat}{Q Q':Exit->Act->World->Prop}(hQ:∀e a w,Q e a w->Q' e a w):∀(l:List Code)(a:Act)(w:World),HY F n P Q l a w->HY F n P Q' l a w
 |[],a,w,h=>hQ _ _ _ h
 |c::l,a,w,h=>wpIn_mono h λe a w=>by
  cases e with
  |normal=>exact vV hQ l a w
  |_=>exact hQ _ _ _
omit [aM]in
theorem HZ{F:Fence}{n:Nat}:∀(c:Code)(Q:Exit->Act->World->Prop)(a:Act)(w:World),HY F n P Q (flat c) a w->c.wpIn F n P Q a w:=by
 intro c
 induction c with
 |seq x y Jb PL=>
  intro Q a w h;refine wpIn_seq ?_;have h1:=vU (flat x) (flat y) a w h;refine wpIn_mono (Jb _ a w h1) ?_;intro e a w hq;cases e with
  |normal=>exact PL _ a w hq
  |_=>exact hq
 |_=>
  intro Q a w h;refine wpIn_mono h ?_;intro e a w hq;cases e<;>exact hq
omit [aM]in
theorem zG:∀{c:Code},bounded N c=true->∀x∈flat c,bounded N x=true:=by
 intro c
 induction c with
 |seq x y Jb PL=>
  intro hb z hz;simp only[bounded]at hb;cases hx:bounded N x with
  |false=>rw[hx]at hb;cases hb
  |true=>
   rw[hx]at hb;rcases List.mem_append.1 hz with h|h
   .exact Jb hx z h
   exact PL hb z h
 |_=>intro hb z hz;rw[List.mem_singleton.1 hz];exact hb
theorem sj(hT:br P T)(ef:P.follows .mixedOrders=true){F:Fence}(hF:FW F){n:Nat}(ak:cx.Ok)(hR:qQ F cx)(hy:bB P cx){lo:Nat}(cY:cx.lo<=lo){Q:Ex->St->Prop}:
    ∀(l:List Code)(U:St)(a:Act)(w:World),(∀x∈l,bounded N x=true)->Uf T (CD P sh) (nc P ish) l lo U Q->aac cx U N a w->HY F n P (qP cx N Q) l a w
  |[],U,a,w,_,h,dW=>⟨U,h,dW⟩
  |c::l,U,a,w,hb,h,dW=>by
   have h:WR T (CD P sh) (nc P ish) c lo U λe σ'=>match e with
    |.normal=>Uf T (CD P sh) (nc P ish) l lo σ' Q
    |.exit id=>Q (.exit id) σ'
    |.ret=>Q .ret σ'
    |.panic v=>Q (.panic v) σ':=h
   rw[sU]at h;refine wpIn_mono (qW hT ef c (hb c (by simp)) lo U _ cx F n a w h hF ak hR hy cY dW) ?_;intro e a' w' hq;cases e with
   |normal=>
    obtain⟨σ',h1,h2⟩:=hq;exact sj hT ef hF ak hR hy cY l σ' a' w' (λx hx=>hb x (by simp[hx])) h1 h2
   |exit id=>exact hq
   |ret=>exact hq
   |goto l=>exact hq
   |panic ch=>exact hq
   |outgrown=>exact hq
omit [aM]in
theorem bf.defer(h:bf cx (λ_=>True) U β I S N a w)(T4:∀d,¬cx.sV d){d0:Deferred}(hd:∀R,d0.target≠.collected R):
    bf {cx with sV:=λd=>d=d0} (λ_=>True) U β I S N {a with defers:=d0::a.defers} w:=by
  refine{h with tm:=h.tm,sz:=h.sz,ep:=λd e=>by rw[e];exact List.mem_cons_self ..,dn:=λd e=>by rw[e];exact hd,nd:=List.pairwise_cons.2 ⟨λd Zx e=>?_,h.nd⟩,marks:=λd Zx PF=>?_}
  .obtain⟨R,e1,_⟩:=h.marks d Zx (T4 d)
   exact hd R (by rw[e,e1])
  rcases List.mem_cons.1 Zx with e|e
  .exact absurd e PF
  exact h.marks d e (T4 d)
def Cx.ll(cx:Cx):Cx:={cx with sV:=λ_=>False}
theorem Cx.Ok.ll(h:cx.Ok):cx.ll.Ok:=⟨h.gl,h.fr,h.j,h.g,h.b,λ_ h=>h.elim⟩
theorem bf.NX(ak:cx.Ok){d:Deferred}{ds:List Deferred}(h:bf cx (λ_=>True) U β I S N {a with defers:=d::ds} w)(hd:¬cx.sV d):
    ∃R,d={target:=.collected R,args:=#[]}/\w.heap[R]?=some (.deferred (some []))/\bf cx (λ_=>True) U β I S N {a with defers:=ds} (w.putObj R (.deferred none)):=by
  obtain⟨R,e,hR,ho,hS⟩:=h.marks d (by simp) hd;obtain⟨hp,Ug⟩:=List.pairwise_cons.1 h.nd;have h0:bf cx (λ_=>True) U β I S N {a with defers:=ds} w:={h with
   tm:=h.tm
   sz:=h.sz
   nd:=Ug
   ep:=λx hx=>by
    rcases List.mem_cons.1 (h.ep x hx)with e2|e2
    .subst e2;exact absurd hx hd
    exact e2
   marks:=λx hx hn=>h.marks x (List.mem_cons_of_mem _ hx) hn}
  refine⟨R,e,hR,h0.F9 ak (I1:=λ_ _=>none) (S':=λk=>k≠R) {lo:=λk hk _ e2=>ho (e2▸hk),im:=λB off v hv _ e2=>?_,bx:=λi b R' hb dh e2=>?_,ss:=λk hk e2=>hS (e2▸hk),HP:=λx hx R' dh e2=>?_} (jo w R _) (λ_ _ _ h=>by cases h) ⟨λ_ _ _ h=>(by cases h),λ_ _ h=>(by cases h)⟩⟩
  .subst e2
   exact se hR (h.agree B off v hv) rfl
  .subst e2
   obtain⟨_,_,h3⟩:=h.bx i b hb;obtain⟨_,eX,hh⟩:=h3.lt dh;rw[hR]at hh;cases hh;exact Bool.noConfusion eX
  subst e2;exact hp x hx (by rw[dh,e])
omit [aM]in
theorem bf.Rl{d0:Deferred}{ds:List Deferred}(pc:∀d,cx.sV d↔d=d0)(h:bf cx (λ_=>True) U β I S N {a with defers:=d0::ds} w):bf cx.ll (λ_=>True) U β I S N {a with defers:=ds} w:=by
 obtain⟨hp,Ug⟩:=List.pairwise_cons.1 h.nd;exact{h with
  tm:=h.tm
  sz:=h.sz
  nd:=Ug
  ep:=λx hx=>hx.elim
  dn:=λx hx=>hx.elim
  marks:=λx hx _=>h.marks x (List.mem_cons_of_mem _ hx) λhn=>hp x hx (by rw[(pc x).1 hn])}
theorem vW(ak:cx.Ok){F:Fence}(hF:FW F){n:Nat}{fn:Func}{R:Ending->World->Prop}{u:FrameMode}(hu:u≠.run){k:FuncId}{caps:Array Value}(hk:Enters P k){σ2:St}(pc:∀d,cx.sV d↔d={target:=.fn (.func k) caps,args:=#[]})
    (gJ:∀(a:Act)(w:World),bf cx.ll (λ_=>True) U β I S N a w->CallsDIn F (n-1) P k caps u w λe u' w2=>(∃v,e=.returned v)/\settle u'=.returning/\bf cx.ll (λ_=>True) σ2 β I S N a w2)
    (sa:∀(ds:List Deferred)(w:World),bf cx.ll (λ_=>True) σ2 β I S N {a with defers:=ds} w->LeavesInM F n P fn a.tmps R ds .returning w):
    ∀(ds:List Deferred)(w:World),bf cx (λ_=>True) U β I S N {a with defers:=ds} w->LeavesInM F n P fn a.tmps R ds u w
  |[],w,h=>by
   have:=h.ep _ ((pc _).2 rfl);cases this
  |d::ds,w,h=>by
   by_cases e0:d={target:=.fn (.func k) caps,args:=#[]}
   .subst e0
    refine⟨hu,.inr ⟨λhh=>absurd hh (by rw[hF.depth];simp),_,_,k,caps,rfl,?_,λg _=>hF.fn g,(gJ _ w (h.Rl pc)).mono ?_⟩⟩
    .have:=hk (#[]++caps) w
     simpa[invoke]using this
    rintro e u' w2⟨⟨v,rfl⟩,hs,hz⟩;show LeavesInM F n P fn a.tmps R ds (settle u') w2;rw[hs];exact sa ds w2 hz
   obtain⟨b,e,hb,hs⟩:=h.NX ak (λhn=>e0 ((pc d).1 hn));have nf:d.target=.collected b:=by rw[e]
   exact⟨hu,.inl ⟨b,_,nf,run_takeDeferred hb,vW ak hF hu hk pc gJ sa ds _ hs⟩⟩
structure NY(P:Program)(k:FuncId)(ds:List D)(ok:List af->Prop)(C:Value->List af->List af->Prop):Prop where
 ent:Enters P k
 idle:∀(cx:Cx)(U:St)(β:BE)(I:aW)(S:Nat->Prop)(N:Nat)(a:Act)(w:World)(vs:Array Value),cx.Ok->bf cx (λ_=>True) U β I S N a w->bn I β vs.toList ds->ok U.boxes->
  CallsDIn Fence.wide 0 P k vs .returning w λe u' w'=>(∃v,e=.returned v)/\u'=.returning/\w'=w
 hit:∀(cx:Cx)(U:St)(β:BE)(I:aW)(S:Nat->Prop)(N:Nat)(a:Act)(w:World)(vs:Array Value)(v:Value)(bu:List af),cx.Ok->bf cx (λ_=>True) U β I S N a w->bn I β vs.toList ds->ok U.boxes->C v U.boxes bu->
  CallsDIn Fence.wide 0 P k vs (.panicking [{v:=v,recovered:=false}]) w λe u' w'=>(∃v,e=.returned v)/\settle u'=.returning/\bf cx (λ_=>True) ⟨U.tmps,bu,U.y⟩ β I S N a w'
def tu(P:Program)(T:Nat->Option TI)(C:xa)(It:MT)(fn:Func)(np t3:Nat)(k:FuncId)(cs:List Operand)(args:List D)(d:D):Prop:=
 match fn.body with
 |some c=>ig (kZ args 0) λtm=>Uf T C It ((tr c).take np) 0 ⟨tm,[],.aQ⟩ λe U=>match e with
  |.normal=>∃ds,U.jv cs=some ds/\da U.boxes.length ds=true/\∃ok X,NY P k ds ok X/\
      Uf T C It ((tr c).drop (np+1)) U.boxes.length ⟨(t3,.bR (.func k) [] ds)::U.tmps,U.boxes,U.y⟩ λe σ'=>match e with
       |.exit _=>False
       |.panic v=>ok σ'.boxes/\∃bu,X v σ'.boxes bu/\resultD T fn ⟨σ'.tmps,bu,σ'.y⟩=some d
       |_=>ok σ'.boxes/\resultD T fn σ'=some d
  |.ret=>resultD T fn U=some d
  |.exit _=>False
  |.panic _=>False
 |none=>False
theorem iV(hT:br P T)(ef:P.follows .mixedOrders=true){f:FuncId}{fn:Func}{c:Code}(hf:P.funcs[f]?=some fn)(hb:fn.body=some c)(he:Enters P f)(ug:bounded fn.ntmps c=true){args:List D}(hn:args.length<=fn.ntmps){d:D}
    {np t3 id:Nat}{k:FuncId}{cs:Array Operand}{o1 o2:Oper}(aaz:flat c=(flat c).take np++.region id #[o1,o2] false::(flat c).drop (np+1))(h1:o1.op=.makeFunc (.func k) #[] cs)(h1d:o1.dst=some t3)(h1g:o1.guard=none)
    {cl:Call}(h2:o2.op=.defer cl)(h2c:cl.callee=.value (.tmp t3))(h2a:cl.args=#[])(h2d:o2.dst=none)(h2g:o2.guard=none)(KJ:t3<fn.ntmps)
    (h:tu P T (CD P sh) (nc P ish) fn np t3 k cs.toList args d):Den P f args d:=by
  refine⟨he,λw I vs gT Gh aq=>?_⟩;unfold tu at h;rw[hb]at h;simp only[cg,KP]at h
  let cx:Cx:=⟨(·<w.heap.size),λw'=>dG I w w',λy _ _=>y=.aQ,I,λ_ _=>False,0,dM,λ_=>False⟩
  have hD:∀d,¬cx.sV d:=λ_ h=>h;have ak:cx.Ok:=⟨Gh,λw' NU h1 h2=>h1.trans h2,λ_ _ _ _ h _=>h,λ_ _ h=>h.elim,λ_ _ h=>(by cases h),λ_ h=>h.elim⟩;have hy:bB P cx:=λl x r S w' I' oz G hj=>by cases hj
  have dW:=bf.start (cx:=cx) (S:=λ_=>False) (y:=.aQ) (N:=fn.ntmps) (λ_=>Iff.rfl) rfl (aB.refl _ w) rfl (λ_ _ h=>h) rfl (λ_ h=>h) gT (λ_ h=>h.elim) (λ_ h=>h.elim) aq hn
  let R:Ending->World->Prop:=λe w'=>∃v I',e=.returned v/\dG I w w'/\Grow w.heap.size I I'/\bc I' w'/\Rel I' dM v d
  have fin:∀(PM:Cx),PM.dP=cx.dP->PM.I0=cx.I0->PM.Fr=cx.Fr->PM.Ok->(∀d,¬PM.sV d)->∀U β I' S a' w',resultD T fn U=some d->bf PM (λ_=>True) U β I' S fn.ntmps a' w'->LeavesInM Fence.wide 0 P fn a'.tmps R a'.defers .returning w':=by
   intro PM e1 e2 e3 aaA hD' U β I' S a' w' dZ hs;refine gv a'.defers w' hs.nd (λd hd=>let⟨R,h1,h2,_⟩:=hs.marks d hd (hD' d);⟨R,h1,h2⟩) λNU k=>?_;have fu:=hs.left aaA hD' k;obtain⟨v,L,aP,jj⟩:=lI hT fu dZ;have Bm:=fu.fr;rw[e3]at Bm;have uv:=fu.I0;rw[e2]at uv;refine⟨v,aP,v,_,rfl,Bm,⟨aW.le_trans uv (dU fu.agree L β),λB off hB=>?_⟩,db fu.agree L β,jj⟩;unfold bQ;have YK:PM.dP B:=by rw[e1];exact hB
   rw[if_neg]
   .have:=fu.fV B off YK
    rw[e2]at this;exact this
   rintro⟨⟨i,b,_,jt,hR⟩,_⟩;have:=(fu.own i b B jt hR).1;exact this YK
  refine callsIn_wide.1 (callsIn_of_wp_marks (n:=0) hf hb trivial ?_);refine HZ c _ _ w ?_;rw[aaz];have mO:=zG ug;refine B3 _ _ _ _ (vV ?_ _ _ _ (sj hT ef (.inl rfl) (n:=0) ak (λl y S w' hl=>by cases hl) hy (Nat.le_refl _) _ _ _ _ (λx hx=>mO x (List.mem_of_mem_take hx)) h dW));intro e a' w' hq;cases e with
  |ret=>obtain⟨U,h1,β,I',S,hs,_⟩:=hq;exact fin cx rfl rfl rfl ak hD U β I' S a' w' h1 hs
  |exit id=>obtain⟨U,h1,h2⟩:=hq;exact h1.elim
  |goto l=>exact hq.elim
  |panic ch=>obtain⟨_,_,_,h1,_⟩:=hq;exact h1.elim
  |outgrown=>exact hq.elim
  |normal=>
   obtain⟨U,⟨ds,UE,aaB,ok,X,p8,kC⟩,β,I',S,hs,cK⟩:=hq;show(Code.region id #[o1,o2] false).wpIn Fence.wide 0 P (Exit.then (HY Fence.wide 0 P (bodyPostM Fence.wide 0 P fn R) ((flat c).drop (np+1))) (bodyPostM Fence.wide 0 P fn R)) a' w';have gi:=hs.jv (λ_ _ _ _=>trivial) UE;obtain⟨vs,oG⟩:∃vs:Array Value,cs.map a'.eval=vs:=⟨_,rfl⟩;have gi:bn I' β vs.toList ds:=by rw[<-oG];simpa using gi
   have VR:(execOp a'.eval o1).run P w'=.ok (.value (.func (.func k) #[] vs)) w':=by
    unfold execOp;simp only[h1];simp[Instr.makeFunc,<-oG]
   obtain⟨a1,Uh⟩:∃a1,a'.put o1.dst (.func (.func k) #[] vs)=a1:=⟨_,rfl⟩;have dQ:t3<a'.tmps.size:=by rw[hs.sz];exact KJ
   have ev3:a1.eval (.tmp t3)=.func (.func k) #[] vs:=by rw[<-Uh,h1d];simp[Act.eval,Act.put,dQ]
   obtain⟨d0,pc⟩:∃d0:Deferred,d0={target:=.fn (.func k) vs,args:=#[]}:=⟨_,rfl⟩;have VS:(execOp a1.eval o2).run P w'=.ok (.defer d0) w':=by
    unfold execOp;simp only[h2];simp[resolve,h2c,h2a,ev3,Deferred.ofValue,pc]
   have gu:bf cx (λ_=>True) ⟨(t3,.bR (.func k) [] ds)::U.tmps,U.boxes,U.y⟩ β I' S fn.ntmps a1 w':=by
    rw[<-Uh,h1d];exact hs.put (dst:=some t3) (v:=.func (.func k) #[] vs) (d:=.bR (.func k) [] ds) (λt e=>by cases e;exact KJ) λ_=>.bR _ _ _ _ _ rfl gi.1 (λi v d h=>by simp at h) gi.2
   let Ec:Cx:={cx with G:=λv d=>∃i:Nat,vs.toList[i]?=some v/\ds[i]?=some d,lo:=U.boxes.length,sV:=λd=>d=d0}
   have Ed:Ec.Ok:=⟨Gh,ak.fr,ak.j,λv d⟨i,_,h⟩=>iT aaB h,λ_ _ h=>(by cases h),λd e R=>by
    have e:d=d0:=e;rw[e,pc];simp⟩
   have Z5:bB P Ec:=λl x r S w' I' oz G hj=>by cases hj
   have aaC:aac Ec ⟨(t3,.bR (.func k) [] ds)::U.tmps,U.boxes,U.y⟩ fn.ntmps {a1 with defers:=d0::a1.defers} w':=by
    have ta:=gu.defer hD (d0:=d0) (λR=>by rw[pc];simp);have T7:∀v d,(∃i:Nat,vs.toList[i]?=some v/\ds[i]?=some d)->Rel I' β v d:=λv d⟨i,h1,h2⟩=>gi.2 i v d h1 h2;exact⟨β,I',S,{ta with tm:=ta.tm,bx:=ta.bx,clear:=ta.clear,gh:=T7},cK⟩
   refine wpIn_region ?_;show wpOpsIn Fence.wide 0 P #[o1,o2] _ [0,1] a' w';have g0:(#[o1,o2]:Array Oper)[0]?=some o1:=rfl;have g1:(#[o1,o2]:Array Oper)[1]?=some o2:=rfl;simp only[wpOpsIn,g0,g1];rw[if_pos (by simp[Region.wanted,h1g])];refine cz (.inl rfl) (by rw[h1];simp) VR ?_;rw[if_pos (by simp[Region.wanted,h2g])];refine⟨λf _=>trivial,?_⟩;rw[show Fence.wide.round=none from rfl,Oper.semAt_none,Uh,VS];show HY Fence.wide 0 P (bodyPostM Fence.wide 0 P fn R) ((flat c).drop (np+1)) (({a1 with defers:=d0::a1.defers}:Act).put o2.dst undef) w';rw[h2d];refine vV ?_ _ _ _ (sj hT ef (.inl rfl) (n:=0) Ed (λl y S w' hl=>by cases hl) Z5 (Nat.le_refl _) _ _ _ _ (λx hx=>mO x (List.mem_of_mem_drop hx)) kC aaC);intro e a2 w2 hq;have leave:∀(u:FrameMode)(σ' σ2:St),u≠.run->aac Ec σ' fn.ntmps a2 w2->resultD T fn σ2=some d->(∀β I S a w,bf Ec.ll (λ_=>True) σ' β I S fn.ntmps a w->bn I β vs.toList ds->CallsDIn Fence.wide 0 P k vs u w λe u' w2=>(∃v,e=.returned v)/\settle u'=.returning/\bf Ec.ll (λ_=>True) σ2 β I S fn.ntmps a w2)->
       LeavesInM Fence.wide 0 P fn a2.tmps R a2.defers u w2:=by
     rintro u σ' σ2 hu⟨β',I2,S2,ta,ht2⟩ dZ hc;exact vW (fn:=fn) (n:=0) (R:=R) (a:=a2) (U:=σ') (σ2:=σ2) (β:=β') (I:=I2) (S:=S2) (N:=fn.ntmps) Ed (.inl rfl:FW Fence.wide) hu p8.ent (caps:=vs) (λd=>by show d=d0↔_;rw[pc])
      (λa w hs=>hc β' I2 S2 a w hs ⟨gi.1,λi v d h1 h2=>hs.gh v d ⟨i,h1,h2⟩⟩)
      (λds w hs=>fin Ec.ll rfl rfl rfl Ed.ll (λ_ h=>h) σ2 β' I2 S2 {a2 with defers:=ds} w dZ hs) a2.defers w2 ta
   have idle:∀(σ':St),ok σ'.boxes->resultD T fn σ'=some d->aac Ec σ' fn.ntmps a2 w2->LeavesInM Fence.wide 0 P fn a2.tmps R a2.defers .returning w2:=by
    intro σ' hc dZ oZ;refine leave .returning σ' σ' (by simp) oZ dZ λβ I S a w hs r=>?_;refine(p8.idle Ec.ll σ' β I S fn.ntmps a w vs Ed.ll hs r hc).mono ?_;rintro e u' w'⟨he,rfl,rfl⟩;exact⟨he,rfl,hs⟩
   cases e with
   |normal=>obtain⟨σ',⟨h3,h4⟩,h5⟩:=hq;exact idle σ' h3 h4 h5
   |ret=>obtain⟨σ',⟨h3,h4⟩,h5⟩:=hq;exact idle σ' h3 h4 h5
   |exit id=>obtain⟨σ',h3,h4⟩:=hq;exact h3.elim
   |goto l=>exact hq.elim
   |outgrown=>exact hq.elim
   |panic ch=>
    obtain⟨σ',v,rfl,⟨hc,bu,hX,dZ⟩,oZ⟩:=hq;exact leave _ σ' ⟨σ'.tmps,bu,σ'.y⟩ (by simp) oZ dZ λβ I S a w hs r=>p8.hit Ec.ll σ' β I S fn.ntmps a w vs v bu Ed.ll hs r hc hX
end
end Go.V
namespace Go.V
open Go.RowKit
section
variable{P:Program}[aM]
theorem lA.mono{f:FuncId}{args:List D}{bs:List af}{y:eG}{Q Q':D->List af->eG->Prop}(h:lA P f args bs y Q)(hq:∀d bs y,Q d bs y->Q' d bs y):lA P f args bs y Q':=
 ⟨h.1,λcx w β I S vs ak hy cY hp aq=>(h.2 cx w β I S vs ak hy cY hp aq).mono λe w'⟨v,d,bu,y',β',I',S',he,hd,hr⟩=>⟨v,d,bu,y',β',I',S',he,hq _ _ _ hd,hr⟩⟩
theorem lA.cut{f:FuncId}{args:List D}{bs:List af}{y:eG}{Q Q':D->List af->eG->Prop}(h:lA P f args bs y Q)
    (hQ:∀d bu y',Q d bu y'->en bs.length d=true/\aS bs.length (bu.take bs.length)=true/\Q' d (bu.take bs.length) y'):lA P f args bs y Q':=by
  refine⟨h.1,λcx w β I S vs ak hy cY hH aq=>(h.2 cx w β I S vs ak hy cY hH aq).mono ?_⟩;rintro e w'⟨v,d,bu,y',β',I',S',rfl,hq,⟨hs,cK⟩,hv⟩;obtain⟨h1,h2,h3⟩:=hQ d bu y' hq;refine⟨v,d,bu.take bs.length,y',eY bs.length β',I',S',rfl,h3,⟨hs.cut ak cY (λt d _ hl=>(by cases hl)) h2,λi hi=>?_⟩,hv.ue bs.length h1⟩;rw[List.length_take]at hi;unfold eY;rw[if_pos (by omega)];exact cK i (by omega)
omit [aM]in
theorem qZ{nb:Nat}{fz:Bool}{cs:List D}{r:List af}(h:da nb cs=true)(hr:aS nb r=true):aS nb (.flat fz cs::r)=true:=by
 show(match da nb cs with|true=>aS nb r|false=>false)=true;rw[h,hr]
end
end Go.V
namespace Go.V
open Go.RowKit
def Dy(x y:D):Prop:=∀(I:aW)(β:BE)(v:Value),Rel I β v x->Rel I β v y
def AP(r s:List D):Prop:=r.length=s.length/\∀(i:Nat)(d e:D),r[i]?=some d->s[i]?=some e->Dy d e
theorem Dy.refl(x:D):Dy x x:=λ_ _ _ h=>h
theorem Dy.of[aM]{x y:D}(h:Wk x y):Dy x y:=λ_ _ _ hr=>h.rel hr
theorem AP.nil:AP [] []:=⟨rfl,λi d e h=>by simp at h⟩
theorem AP.cons{d e:D}{r s:List D}(h:Dy d e)(hs:AP r s):AP (d::r) (e::s):=by
 refine⟨by simp[hs.1],λi a b ha hb=>?_⟩;cases i with
 |zero=>simp at ha hb;subst ha hb;exact h
 |succ i=>exact hs.2 i a b (by simpa using ha) (by simpa using hb)
theorem AP.aaD{r s:List D}(h:AP r s){I:aW}{β:BE}{vs:List Value}(hr:bn I β vs r):bn I β vs s:=by
 refine⟨hr.1.trans h.1,λi v e hv he=>?_⟩;have hi:i<r.length:=by rw[h.1];exact(List.getElem?_eq_some_iff.1 he).1
 exact h.2 i r[i] e (List.getElem?_eq_getElem hi) he I β v (hr.2 i v r[i] hv (List.getElem?_eq_getElem hi))
end Go.V
