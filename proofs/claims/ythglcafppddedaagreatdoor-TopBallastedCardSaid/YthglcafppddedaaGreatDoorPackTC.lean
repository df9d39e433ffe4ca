/- What ballasted_holds leans on, part TC. No condition. -/
import Derived.Test.YthglcafppddedaaGreatDoorPackTB
import Derived.Test.YthglcafppddedaaGreatDoorPackUL
import Derived.Test.YthglcafppddedaaGreatDoorPackVC

set_option linter.all false
set_option maxHeartbeats 40000000
set_option maxRecDepth 4000
namespace Go.Proofs.Ball
open Go.V Go.Proofs
theorem uL{h:Hull}{w:Int}:h.o7 w=0↔∀q∈Ar w,jF h q.1 q.2>=0:=by
 have h0:jF h 0 w=least h 0 w-1:=rfl;have h1:jF h 1 w=least h 1 w:=rfl;have h2:jF h 2 w=least h 2 w:=rfl;unfold Ar Hull.o7 CB;simp only[List.mem_cons,List.not_mem_nil,or_false,forall_eq_or_imp,forall_eq,h0,h1,h2];split
 .constructor
  .intro e;cases e
  intro e;omega
 split
 .constructor
  .intro e;cases e
  intro e;omega
 split
 .constructor
  .intro e;cases e
  intro e;omega
 constructor
 .intro _;omega
 intro _;rfl
theorem yw{h:Hull}{xs:List (Int×Int)}:(dF h xs).1=0↔∀q∈pG xs,jF h q.1 q.2>=0:=by
 rw[wE];unfold pG;constructor
 .intro hp q hq
  obtain⟨p,HD,Ug⟩:=List.mem_flatMap.1 hq;rcases List.mem_append.1 Ug with h1|h1
  .exact uL.1 (hp p HD).1 q h1
  exact uL.1 (hp p HD).2 q h1
 intro hq p hp;exact⟨uL.2 λq h1=>hq q (List.mem_flatMap.2 ⟨p,hp,List.mem_append.2 (.inl h1)⟩),uL.2 λq h1=>hq q (List.mem_flatMap.2 ⟨p,hp,List.mem_append.2 (.inr h1)⟩)⟩
theorem Mc(h:Hull)(k:Nat)(n:Int)(i:Nat)(z:Pt):arm (h.more k n) i z=arm h i z:=by
 match i with
 |0=>rfl
 |1=>rfl
 |_+2=>rfl
theorem Md(h:Hull)(x:Pt)(n:Int)(i:Nat):arm h i (x.more n)=arm h i x:=by
 match i with
 |0=>rfl
 |1=>rfl
 |_+2=>rfl
theorem yx(h:Hull)(k:Nat)(n:Int)(i:Nat)(w:Int):∀l,jU (h.more k n) i w l=jU h i w l
 |[]=>rfl
 |z::r=>by
  unfold jU term;rw[Mc,yx h k n i w r]
theorem CS{h:Hull}{i:Nat}{w:Int}:∀{l:List Pt}{k:Nat}{x y:Pt},l[k]?=some x->jU h i w (l.set k y)=jU h i w l+(term h i w y-term h i w x)
 |[],_,_,_,hx=>by simp at hx
 |z::r,0,x,y,hx=>by
  simp at hx;subst hx;simp only[List.set_cons_zero,jU];omega
 |z::r,k+1,x,y,hx=>by
  have:=CS (h:=h) (i:=i) (w:=w) (l:=r) (k:=k) (x:=x) (y:=y) (by simpa using hx);simp only[List.set_cons_succ,jU,this];omega
theorem IA{h:Hull}{x:Pt}{i:Nat}{w n:Int}(ha:0<=arm h i x):term h i w (x.more n)=term h i w x+arm h i x*n:=by
 unfold term;rw[Md,if_neg (by omega),if_neg (by omega)];have:pF (x.more n) w=pF x w+n:=by
  show x.tI+n-x.Al*jH x w=(x.tI-x.Al*jH x w)+n;omega
 rw[this,Int.mul_add]
theorem yz{h:Hull}{k:Nat}{x:Pt}{i:Nat}{w n:Int}(hx:h.parts[k]?=some x)(ha:0<=arm h i x):jF (h.more k n) i w=jF h i w+arm h i x*n:=by
 have hp:(h.more k n).parts=h.parts.set k (x.more n):=by unfold Hull.more;simp only[hx]
 have hl:least (h.more k n) i w=least h i w+arm h i x*n:=by
  unfold least;rw[hp,yx,CS hx,IA ha];omega
 match i with
 |0=>show least (h.more k n) 0 w-1=least h 0 w-1+_;rw[hl];omega
 |i+1=>exact hl
theorem OE{a s:Int}(h0:0<a)(h1:s<0):0<=s+a*(a-1-s).tdiv a/\s+a*((a-1-s).tdiv a-1)<0:=by
 rw[Int.tdiv_eq_ediv_of_nonneg (by omega)];have e:=Int.mul_ediv_add_emod (a-1-s) a;have m0:=Int.emod_nonneg (a-1-s) (by omega:a≠0);have m1:=Int.emod_lt_of_pos (a-1-s) h0;obtain⟨q,hq⟩:∃q,(a-1-s)/a=q:=⟨_,rfl⟩;rw[hq]at e⊢;rw[Int.mul_sub];omega
theorem wN{h:Hull}{x:Pt}(ha:∀i,0<=arm h i x):∀(L:List (Nat×Int))(m n:Int),iN h x L m=some n->m<=n/\(∀q∈L,0<=jF h q.1 q.2+arm h q.1 x*n\/n<0)/\(n=m\/∃q∈L,jF h q.1 q.2+arm h q.1 x*(n-1)<0)
 |[],m,n,e=>by
  cases e;exact⟨Int.le_refl _,(λq h=>by cases h),.inl rfl⟩
 |q::L,m,n,e=>by
  have e:(if jF h q.1 q.2>=0 then iN h x L m else if arm h q.1 x=0 then none else iN h x L (max m ((arm h q.1 x-1-jF h q.1 q.2).tdiv (arm h q.1 x))))=some n:=e;have hq:=ha q.1;by_cases h1:jF h q.1 q.2>=0
  .rw[if_pos h1]at e
   obtain⟨e1,e2,e3⟩:=wN ha L m n e;refine⟨e1,λr hr=>?_,?_⟩
   .rcases List.mem_cons.1 hr with rfl|hr
    .by_cases hn:n<0
     .exact .inr hn
     have:=Int.mul_nonneg hq (by omega:0<=n);exact .inl (by omega)
    exact e2 r hr
   rcases e3 with e3|⟨r,hr,e3⟩
   .exact .inl e3
   exact .inr ⟨r,List.mem_cons_of_mem _ hr,e3⟩
  rw[if_neg h1]at e;by_cases h2:arm h q.1 x=0
  .rw[if_pos h2]at e;cases e
  rw[if_neg h2]at e;obtain⟨e1,e2,e3⟩:=wN ha L _ n e;have hc:=OE (a:=arm h q.1 x) (s:=jF h q.1 q.2) (by omega) (by omega);obtain⟨v,hv⟩:∃v,(arm h q.1 x-1-jF h q.1 q.2).tdiv (arm h q.1 x)=v:=⟨_,rfl⟩;rw[hv]at hc e1 e3;refine⟨by omega,λr hr=>?_,?_⟩
  .rcases List.mem_cons.1 hr with rfl|hr
   .have:=Int.mul_le_mul_of_nonneg_left (by omega:v<=n) hq
    exact .inl (by omega)
   exact e2 r hr
  rcases e3 with e3|⟨r,hr,e3⟩
  .by_cases Yy:m>=v
   .exact .inl (by omega)
   refine .inr ⟨q,List.mem_cons_self ..,?_⟩;rw[show n=v by omega];exact hc.2
  exact .inr ⟨r,List.mem_cons_of_mem _ hr,e3⟩
theorem IB{h:Hull}{k:Nat}{x:Pt}(hx:h.parts[k]?=some x):h.more k 0=h:=by
 unfold Hull.more;simp only[hx];have e:x.more 0=x:=by unfold Pt.more;simp
 rw[e];have:h.parts.set k x=h.parts:=by
  apply List.ext_getElem?;intro j;rw[List.getElem?_set];by_cases e:k=j
  .subst e
   rw[if_pos rfl,if_pos (List.getElem?_eq_some_iff.1 hx).1,hx]
  rw[if_neg e]
 rw[this]
theorem yA{h:Hull}{k:Nat}{x:Pt}(hx:h.parts[k]?=some x)(n:Int):(h.more k n).parts.map (·.jE)=h.parts.map (·.jE):=by
 unfold Hull.more;simp only[hx];apply List.ext_getElem?;intro j;rw[List.getElem?_map,List.getElem?_map,List.getElem?_set];by_cases e:k=j
 .subst e
  rw[if_pos rfl,if_pos (List.getElem?_eq_some_iff.1 hx).1,hx];rfl
 rw[if_neg e]
def DA(g k:Nat):Nat:=if k>g then k-1 else k
theorem yB{α:Type}{l:List α}{g k:Nat}(hk:k≠g):(l.eraseIdx g)[DA g k]?=l[k]?:=by
 unfold DA;rw[List.getElem?_eraseIdx];by_cases h:k>g
 .rw[if_pos h,if_neg (by omega),show k-1+1=k by omega]
 rw[if_neg h,if_pos (by omega)]
theorem IC{α:Type}{l:List α}{g k:Nat}{y:α}(hk:k≠g):(l.set k y).eraseIdx g=(l.eraseIdx g).set (DA g k) y:=by
 unfold DA;by_cases h:k>g
 .rw[if_pos h,List.eraseIdx_set_lt h]
 rw[if_neg h,List.eraseIdx_set_gt (by omega)]
theorem ID{h:Hull}{g k:Nat}{x:Pt}(hx:h.parts[k]?=some x)(hk:k≠g)(n:Int):(h.more k n).less g=(h.less g).more (DA g k) n:=by
 have Zf:(h.less g).parts[DA g k]?=some x:=(yB hk).trans hx;unfold Hull.more;simp only[hx,Zf];unfold Hull.less;simp only[IC hk]
theorem Ft{h:Hull}{k:Nat}{x:Pt}{lo hi n:Int}(hx:h.parts[k]?=some x)(ho:kR h.mA h.fv x.pos=false)(hb:iN h x (pG (pieces h.parts lo hi)) 0=some n):
    0<=n/\(dF (h.more k n) (pieces (h.more k n).parts lo hi)).1=0/\(1<=n->(dF (h.more k (n-1)) (pieces (h.more k (n-1)).parts lo hi)).1≠0):=by
  have ha:=GH ho;obtain⟨e1,e2,e3⟩:=wN ha _ 0 n hb;refine⟨e1,?_,λh1=>?_⟩
  .rw[tL lo hi (yA hx n),yw]
   intro q hq;rw[yz hx (ha _)];rcases e2 q hq with e|e
   .exact e
   omega
  rw[tL lo hi (yA hx (n-1)),Ne,yw];intro cW;rcases e3 with e3|⟨q,hq,e3⟩
  .omega
  have:=cW q hq;rw[yz hx (ha _)]at this;omega
structure Me(n:Nt)(bl:List Int)(st:List Vs)(e4:Int)(free js:List Int):Prop where
 ref:DN 28 [.agg n.enc,.list 1 (bl.map aC),.list 2 (st.map Vs.enc)] (.b9 [.eL,.int .i64 e4])
 prog:e4=0->DN 51 [.agg n.enc,.list 1 (bl.map aC),.list 2 (st.map Vs.enc)] (.b9 [.agg (Us free js),.int .i64 0])
 fit:free.length<9223372036854775808
theorem CT(t:Task)(hs:t.Sz){e4:Int}{free js:List Int}(hv:Me t.net t.blanks t.steps e4 free js):∃v:Bool,DN 4 [.agg t.enc] (.bool v)/\(v=true->t.hull.parts.length=t.ar.length/\(2<=t.ar.length->t.Ok free js)):=by
 obtain⟨a3,b3,e3,h27,du⟩:=Xh t.hull hs.parts t.lo t.hi;have JX:=XC t hs a3 b3 e3 h27 e4 hv.ref;refine⟨_,aa9 t JX,λh=>?_⟩;obtain⟨q1,q2,q3,q4,q5,q6,q7,q8,q9⟩:=L9 (by simpa using h);obtain⟨w1,w2,w3,w4⟩:=du q6;exact⟨q3,λn2=>⟨q1,⟨q2,by omega,by omega,w2,w3,w4⟩,q3,q5,hv.prog q7,q8,q9⟩⟩
theorem w1(b c:Bool):(wK false b c false==4)=false:=by cases b<;>cases c<;>rfl
theorem w2{b c d:Bool}(h:(wK false b c d !=4)=true):(wK false b c false !=wK false b c d)=false:=by
 cases b<;>cases c<;>cases d<;>first|rfl|(exact absurd h (by decide))
theorem w3(b c:Bool):(wK false b c true !=0)=true:=by cases b<;>cases c<;>rfl
theorem w4(b c:Bool):(wK false b c false !=4)=true:=by cases b<;>cases c<;>rfl
def Task.more(t:Task)(k:Nat)(n:Int):Task:=⟨t.ar,t.hull.more k n,t.lo,t.hi,t.net,t.blanks,t.steps,t.ad⟩
theorem CU{h:Hull}{k:Nat}{n:Int}:(h.more k n).parts.length=h.parts.length:=by
 unfold Hull.more;cases h.parts[k]? with
 |none=>rfl
 |some x=>simp
theorem Task.OF{t:Task}(h:t.Sz)(k:Nat)(n:Int):(t.more k n).Sz:=⟨h.ar,by show(t.hull.more k n).parts.length<_;rw[CU];exact h.parts,h.ad,h.on,h.eR⟩
def Task.XG(t:Task)(g:Nat):Bool:=bits .and .i64 ((2^t.hull.parts.length-1:Nat):Int) (mE t.ar (AQ t.ar g) t.ar.length) !=0
def Task.gsd(t:Task)(free:List Int)(g:Nat):Bool:=Av (oo t.ad free t.ar.length) g
theorem Task.Mf(t:Task)(free:List Int)(g:Nat):t.bad free g=wK false (t.XG g) (t.gsd free g) (t.dm g !=0):=rfl
theorem Task.Mg(t:Task)(k:Nat)(n:Int)(g:Nat):(t.more k n).XG g=t.XG g:=by
 unfold Task.XG;have e:(t.more k n).hull.parts.length=t.hull.parts.length:=CU;rw[e];rfl
theorem Task.CV(t:Task)(free:List Int)(k:Nat)(n:Int)(g:Nat):(t.more k n).bad free g=wK false (t.XG g) (t.gsd free g) ((t.more k n).dm g !=0):=by
 rw[Task.Mf,Task.Mg];rfl
theorem Task.CW{t:Task}{g k:Nat}{x:Pt}(hx:t.hull.parts[k]?=some x)(hk:k≠g)(n:Int):(t.more k n).dm g=(dF ((t.hull.less g).more (DA g k) n) (pieces ((t.hull.less g).more (DA g k) n).parts t.lo t.hi)).1:=by
 have e:(t.more k n).hull.less g=(t.hull.less g).more (DA g k) n:=ID hx hk n;unfold Task.dm;rw[e];rfl
theorem Mh:∀m:Nat,m<8->∀g:Nat,g<m->((2^m:Nat):Int)-1-((2^g:Nat):Int)=(iO m g:Nat)/\∀i:Nat,i<m->(iO m g).testBit i=!(i==g):=by decide+kernel
theorem XI{m x0 x1:Nat}(h2:2<=m):x0 %m<m/\(x0 %m+1+x1 %(m-1))%m<m/\(x0 %m+1+x1 %(m-1))%m≠x0 %m:=by
 have h1:=Nat.mod_lt x0 (by omega:0<m);have h3:=Nat.mod_lt x1 (by omega:0<m-1);refine⟨h1,Nat.mod_lt _ (by omega),λe=>?_⟩;obtain⟨g,hg⟩:∃g,x0 %m=g:=⟨_,rfl⟩;obtain⟨r,hr⟩:∃r,x1 %(m-1)=r:=⟨_,rfl⟩;rw[hg,hr]at e;rw[hg]at h1;rw[hr]at h3;by_cases h:g+1+r<m
 .rw[Nat.mod_eq_of_lt h]at e;omega
 rw[Nat.mod_eq_sub_mod (by omega),Nat.mod_eq_of_lt (by omega)]at e;omega
theorem u8w{x:Nat}(h:x<256):IntKind.i64.wrap (x:Int)=x:=wrap64 (by omega) (by omega)
theorem Mi(a b:Nat):(a:Int).tmod b=((a %b:Nat):Int):=by rw[Int.tmod_eq_emod_of_nonneg (Int.natCast_nonneg _)];rfl
theorem Mj{t:Task}{k g:Nat}{x:Pt}{n:Int}(hx:t.hull.parts[k]?=some x)(h:(t.more k n).dm g=0)(hn:n=0):(t.dm g !=0)=false:=by
 subst hn;have e:t.more k 0=t:=by unfold Task.more;rw[IB hx]
 rw[e]at h;rw[h];rfl
theorem Tf{a:Int}(h:a≠0):(a !=0)=true:=by simpa using h
theorem OG{n:Int}(n0:0<=n)(n1:n<=1000000):IntKind.i64.wrap (n-1)=n-1/\(n≠0->1<=n/\0<=n-1/\n-1<=1000000):=⟨wrap64 (by omega) (by omega),λh=>by omega⟩
theorem aba(t:Task)(hs:t.Sz){e4:Int}{free js:List Int}(hv:Me t.net t.blanks t.steps e4 free js)(h5:DN 5 [] (.bool true))(x0 x1:Nat)(JS:x0<256)(hx1:x1<256):DN 3 [.agg t.enc,.agg [.int .u8 x0,.int .u8 x1]] (.bool true):=by
 have hlen:=bD Hp.enc t.ar;obtain⟨v,h4,vj⟩:=CT t hs hv;cases v with
 |false=>
  refine dX Tryz.func3 Tryz.call3 rfl rfl ?_;refine⟨_,rfl,_,h4,?_⟩;refine⟨λ_=>?_,λh=>absurd h (by decide)⟩;exact⟨_,rfl,_,h5,rfl⟩
 |true=>
 obtain⟨kj,vj⟩:=vj rfl;by_cases h2:t.ar.length<2
 .refine dX Tryz.func3 Tryz.call3 rfl rfl ?_
  refine⟨_,rfl,_,h4,?_⟩;refine⟨λh=>absurd h (by decide),λ_=>?_⟩;refine⟨λ_=>?_,λh=>absurd (of_decide_eq_false h) (by rw[hlen];omega)⟩;exact⟨_,rfl,_,h5,rfl⟩
 have ok:=vj (by omega);obtain⟨m,hm⟩:∃m,t.ar.length=m:=⟨_,rfl⟩;rw[hm]at kj h2 hlen;have n7:=ok.Fm.n7;rw[kj]at n7;obtain⟨hgm,hkm,XJ⟩:=XI (m:=m) (x0:=x0) (x1:=x1) (by omega);have ud:t.Fit free:=⟨hs.on,hs.eR,hv.fit⟩;have t1:=Mi x0 m;have t2:=Mi x1 (m-1);have t3:=Mi (x0 %m+1+x1 %(m-1)) m;obtain⟨r,hr⟩:∃r,x1 %(m-1)=r:=⟨_,rfl⟩;have hrm:r<7:=by rw[<-hr];have:=Nat.mod_lt x1 (by omega:0<m-1);omega
 obtain⟨k,hk⟩:∃k,(x0 %m+1+x1 %(m-1))%m=k:=⟨_,rfl⟩;obtain⟨g,hg⟩:∃g,x0 %m=g:=⟨_,rfl⟩;rw[hk]at hkm XJ t3;rw[hg]at hgm XJ t1 t3;rw[hr]at t2 t3;clear hk hg hr;obtain⟨x,hx⟩:∃x,t.hull.parts[k]?=some x:=⟨_,List.getElem?_eq_getElem (by omega)⟩;have Ik:=ok.Fm.hull.part x (List.mem_of_getElem? hx);have qB:=Mh m (by omega) g hgm;have hr7:=CO m (by omega) (by omega) g hgm;have h6:=aa7 t (by omega) (iO m g) g (by omega) (λi hi=>qB.2 i (by omega));have cY:=GJ ok.Fm.hull (g:=g) (by omega) (by omega);have Zf:(t.hull.less g).parts[DA g k]?=some x:=(yB XJ).trans hx;have h8:=aa0 (t.hull.less g) cY (DA g k) x Zf t.lo t.hi ok.Fm.lo0 ok.Fm.le ok.Fm.Ud;obtain⟨a9,h9⟩:=Xz t ok ud g (by omega);obtain⟨n,e,eh,bG⟩:∃n e:Int,(if kR (t.hull.less g).mA (t.hull.less g).fv x.pos=true then((0:Int),(2:Int))else LR (iN (t.hull.less g) x (pG (pieces (t.hull.less g).parts t.lo t.hi)) 0))=(n,e)/\
     ((e=2\/e=9)\/(e=0/\0<=n/\n<=1000000/\(t.more k n).dm g=0/\(1<=n->(t.more k (n-1)).dm g≠0))):=by
   by_cases ho:kR (t.hull.less g).mA (t.hull.less g).fv x.pos=true
   .exact⟨0,2,if_pos ho,.inl (.inl rfl)⟩
   rw[if_neg ho];cases hb:iN (t.hull.less g) x (pG (pieces (t.hull.less g).parts t.lo t.hi)) 0 with
   |none=>exact⟨0,9,rfl,.inl (.inr rfl)⟩
   |some n=>
    by_cases hn:n>1000000
    .exact⟨0,9,(show(if n>1000000 then((0:Int),(9:Int))else(n,0))=_ from if_pos hn),.inl (.inr rfl)⟩
    have U4:=Ft Zf (by simpa using ho) hb;refine⟨n,0,(show(if n>1000000 then((0:Int),(9:Int))else(n,0))=_ from if_neg hn),.inr ⟨rfl,U4.1,by omega,?_,?_⟩⟩
    .rw[Task.CW hx XJ];exact U4.2.1
    rw[Task.CW hx XJ];exact U4.2.2
 rw[eh]at h8;have h8:∀z:Int,z=((DA g k:Nat):Int)->DN 8 [.agg (t.hull.less g).enc,.int .i64 z,.agg (iD t.lo t.hi)] (.b9 [.int .i64 n,.int .i64 e]):=λz hz=>hz▸h8;have hz1:k>g->IntKind.i64.wrap ((k:Int)-1)=((DA g k:Nat):Int):=λh=>by
  have e:DA g k=k-1:=if_pos h;rw[e,show(k:Int)-1=((k-1:Nat):Int)by omega];exact wrap64 (by omega) (by omega)
 have hz2:¬k>g->(k:Int)=((DA g k:Nat):Int):=λh=>by
  have e:DA g k=k:=if_neg h;rw[e]
 have hgt:((k:Int)>(g:Int))->k>g:=λh=>Int.ofNat_lt.1 h;have abb:¬((k:Int)>(g:Int))->¬k>g:=λh q=>h (Int.ofNat_lt.2 q);have tp:∀q:Int,0<=q->q<=1000000->DN 10 [.agg t.hull.enc,.int .i64 k,.int .i64 q] (.agg (t.hull.more k q).enc):=λq q0 q1=>XF t.hull (by omega) k x hx Ik q q0 q1;have Qh:∀q:Int,∃vq:Bool,DN 4 [.agg (t.more k q).enc] (.bool vq)/\(vq=true->∃a:Int,DN 9 [.agg (t.more k q).enc,.list 1 [[.int .i64 g]]] (nj a ((t.more k q).bad free g) 0)):=λq=>by
  obtain⟨vq,q1,q2⟩:=CT (t.more k q) (Task.OF hs k q) hv;refine⟨vq,q1,λhq=>?_⟩;have okq:=(q2 hq).2 (by show 2<=t.ar.length;omega);exact Xz (t.more k q) okq ⟨hs.on,hs.eR,hv.fit⟩ g (by show g<t.ar.length;omega)
 have N0:=Task.Mf t free g;have hL:((t.ar.map Hp.enc).length:Int)=m:=hlen;have h7m:DN 7 [.int .i64 ((t.ar.map Hp.enc).length:Int)] (.int .i64 ((2^m:Nat):Int)):=by rw[hL];exact Te m (by omega)
 have h7g:=Te g (by omega);have HD:=Qf (n:=m) (by omega);have Ug:(1:Int)<=((2^m:Nat):Int):=Int.ofNat_le.2 Nat.one_le_two_pow;have q1:IntKind.i64.wrap (((2^m:Nat):Int)-1)=((2^m:Nat):Int)-1:=wrap64 (by omega) (by omega);have q2:IntKind.i64.wrap (((2^m:Nat):Int)-1-((2^g:Nat):Int))=((iO m g:Nat):Int):=by rw[qB.1];exact wrap64 (by omega) (by omega)
 have q3:IntKind.i64.wrap ((g:Int)+1)=(g:Int)+1:=wrap64 (by omega) (by omega);have q4:IntKind.i64.wrap (((t.ar.map Hp.enc).length:Int)-1)=((m-1:Nat):Int):=by rw[hL,show(m:Int)-1=((m-1:Nat):Int)by omega];exact wrap64 (by omega) (by omega)
 have q5:IntKind.i64.wrap ((g:Int)+1+r)=((g+1+r:Nat):Int):=by rw[show(g:Int)+1+r=((g+1+r:Nat):Int)by omega];exact wrap64 (by omega) (by omega)
 have z1:((t.ar.map Hp.enc).length:Int)≠0:=by rw[hL];omega
 have z2:((m-1:Nat):Int)≠0:=by omega
 rw[<-hL]at t1 t3;have abc:¬((t.ar.map Hp.enc).length:Int)<2:=by rw[hL];omega
 refine dX Tryz.func3 Tryz.call3 rfl rfl ?_;refine⟨_,rfl,_,h4,?_⟩;refine⟨λh=>absurd h (by decide),λ_=>?_⟩;refine⟨λh=>absurd (of_decide_eq_true h) abc,λ_=>?_⟩;refine⟨⟨by decide,by decide⟩,?_⟩;refine⟨_,u8w JS,?_⟩;refine⟨z1,_,t1,?_⟩;refine⟨_,q3,?_⟩;refine⟨⟨by decide,by decide⟩,?_⟩;refine⟨_,u8w hx1,?_⟩;refine⟨_,q4,?_⟩;refine⟨z2,_,t2,?_⟩;refine⟨_,q5,?_⟩;refine⟨z1,_,t3,?_⟩;refine Or.inl ⟨by kernel_rfl,?_⟩;refine⟨_,rfl,_,h7m,?_⟩;refine⟨_,q1,?_⟩;refine⟨_,rfl,_,h7g,?_⟩;refine⟨_,q2,?_⟩;refine⟨_,rfl,_,h6,?_⟩;refine⟨λq=>?_,λq=>?_⟩;refine⟨_,hz1 (hgt (of_decide_eq_true q)),?_⟩;refine⟨_,rfl,_,h8 _ rfl,?_⟩
 rotate_left 1
 refine⟨_,rfl,_,h8 _ (hz2 (abb (of_decide_eq_false q))),?_⟩
 all_goals rcases bG with he|⟨rfl,n0,n1,Uo,Ha⟩
 all_goals first
  |rcases he with rfl|rfl
   .refine⟨λ_=>?_,λh=>absurd h (by decide)⟩
    refine⟨λ_=>?_,λh=>absurd h (by decide)⟩;exact⟨_,rfl,_,h5,rfl⟩
   refine⟨λ_=>?_,λh=>absurd h (by decide)⟩;refine⟨λh=>absurd h (by decide),λ_=>?_⟩;refine⟨λ_=>?_,λh=>absurd h (by decide)⟩;exact⟨_,rfl,_,h5,rfl⟩
  |skip
 all_goals
  have AN:¬n<0:=Int.not_lt.2 n0;have TV:=Mj hx Uo;have qm:=Qh n;have jQ:=Qh (n-1);rcases qm with⟨vq,hv4,hv9⟩
  rcases jQ with⟨vl,hl4,hl9⟩
  have FQ:=OG n0 n1;rw[N0]at h9;refine⟨λh=>absurd h (by decide),λ_=>?_⟩;refine⟨_,rfl,_,h9,?_⟩;refine⟨_,rfl,_,tp n n0 n1,?_⟩;refine⟨λh=>absurd h (by decide),λ_=>?_⟩;refine⟨λh=>absurd (of_decide_eq_true h) AN,λ_=>?_⟩;refine⟨_,rfl,_,hv4,?_⟩;refine⟨λq=>?_,λq=>?_⟩;have Oz:=hv9 q;rcases Oz with⟨aw,Oz⟩
  rw[Task.CV,Uo]at Oz;refine⟨_,rfl,_,Oz,?_⟩;refine⟨λh=>absurd h (by decide),λ_=>?_⟩;refine⟨λh=>nt ((w1 _ _).symm.trans h),λ_=>?_⟩;refine⟨λh=>?_,λh=>?_⟩;refine⟨λq=>nt ((w2 h).symm.trans q),λ_=>?_⟩
 all_goals
  refine⟨λh=>?_,λh=>?_⟩
  .have e0:=Io h
   rw[TV e0]at*;refine⟨λ_=>?_,λh=>tn ((w4 _ _).symm.trans h)⟩;exact⟨_,rfl,_,h5,rfl⟩
  have e1:=FQ.2 (GG h);refine⟨_,FQ.1,?_⟩;refine⟨_,rfl,_,tp (n-1) e1.2.1 e1.2.2,?_⟩;refine⟨_,rfl,_,hl4,?_⟩;refine⟨λq=>?_,λq=>?_⟩
  .exact⟨_,rfl,_,h5,rfl⟩
  have Ut:=hl9 (qc q);rcases Ut with⟨al,Ut⟩
  have hd:=Tf (Ha e1.1);rw[Task.CV,hd]at Ut;refine⟨_,rfl,_,Ut,?_⟩;refine⟨λ_=>?_,λh=>absurd h (by decide)⟩;refine⟨λ_=>?_,λh=>tn ((w3 _ _).symm.trans h)⟩;exact⟨_,rfl,_,h5,rfl⟩
theorem pH{a b n:Nat}(ha:a<2^n)(hb:b<2^n):a|||b<2^n:=Nat.or_lt_two_pow ha hb
theorem uM{a b:Nat}(ha:a<2^62)(hb:b<2^62):bits .or .u64 a b=((a|||b:Nat):Int):=by
 have h1:=pH ha hb;show IntKind.u64.wrap (((BitVec.ofInt 64 (a:Int)|||BitVec.ofInt 64 (b:Int)).toNat:Nat):Int)=_;rw[BitVec.toNat_or,od ha,od hb];exact ym (by omega) (by omega)
def diff(a b:Nat):Nat:=a^^^(a&&&b)
theorem iF(a b i:Nat):(diff a b).testBit i=(a.testBit i&&!(b.testBit i)):=by
 unfold diff;rw[Nat.testBit_xor,Nat.testBit_and];cases a.testBit i<;>cases b.testBit i<;>rfl
theorem uN{a b n:Nat}(ha:a<2^n):diff a b<2^n:=by
 unfold diff;exact Nat.xor_lt_two_pow ha (Nat.lt_of_le_of_lt Nat.and_le_left ha)
theorem ot{a b:Nat}(ha:a<2^62)(hb:b<2^62):bits .andNot .u64 a b=((diff a b:Nat):Int):=by
 have h2:(BitVec.ofInt 64 (a:Int)&&&~~~(BitVec.ofInt 64 (b:Int))).toNat=diff a b:=by
  apply Nat.eq_of_testBit_eq;intro i;rw[iF,BitVec.toNat_and,Nat.testBit_and,od ha];rcases Nat.lt_or_ge i 64 with hi|hi
  .congr 1
   rw[BitVec.testBit_toNat,BitVec.getLsbD_not,<-BitVec.testBit_toNat,od hb];simp[hi]
  have h3:a.testBit i=false:=Nat.testBit_lt_two_pow (Nat.lt_of_lt_of_le ha (Nat.pow_le_pow_right (by decide) (by omega)));simp[h3]
 have h1:diff a b<2^62:=uN ha;show IntKind.u64.wrap (((BitVec.ofInt 64 (a:Int)&&&~~~(BitVec.ofInt 64 (b:Int))).toNat:Nat):Int)=_;rw[h2];exact ym (by omega) (by omega)
def setOf:Nat->(Nat->Bool)->Nat
 |0,_=>0
 |n+1,p=>setOf n p+if p n then 2^n else 0
theorem rB(p:Nat->Bool):∀n,setOf n p<2^n
 |0=>Nat.zero_lt_one
 |n+1=>by
  have:=rB p n;have h2:2^(n+1)=2^n+2^n:=by rw[Nat.pow_succ];omega
  unfold setOf;split<;>omega
theorem oU(p:Nat->Bool):∀n i,(setOf n p).testBit i=(decide (i<n)&&p i)
 |0,i=>by simp[setOf]
 |n+1,i=>by
  have cG:=rB p n;have ih:=oU p n i;unfold setOf;cases hp:p n with
  |false=>
   simp only[Bool.false_eq_true,if_false,Nat.add_zero,ih];by_cases h:i=n
   .subst h;simp[hp]
   have:decide (i<n+1)=decide (i<n):=by apply Bool.eq_iff_iff.2;simp;omega
   rw[this]
  |true=>
   simp only[if_true];have e:setOf n p+2^n=2^n*1+setOf n p:=by omega
   rw[e,Nat.testBit_two_pow_mul_add _ cG];by_cases h:i<n
   .rw[if_pos h,ih]
    have h2:i<n+1:=by omega
    simp[h,h2]
   rw[if_neg h];by_cases h2:i=n
   .subst h2;simp[hp]
   have h3:Nat.testBit 1 (i-n)=false:=by
     cases h4:Nat.testBit 1 (i-n)with
     |false=>rfl
     |true=>have:=Nat.testBit_one_eq_true_iff_self_eq_zero.1 h4;omega
   have h5:¬i<n+1:=by omega
   rw[h3];simp[h5]
theorem bL{n m:Nat}:(2^n).testBit m=decide (m=n):=by
 rw[Nat.testBit_two_pow];apply Bool.eq_iff_iff.2;simp;exact eq_comm
theorem abd(i:Nat)(h:i<=60):IntKind.u64.wrap (1*2^(min (i:Int).toNat IntKind.u64.bits))=((2^i:Nat):Int):=by
 have h1:min (i:Int).toNat IntKind.u64.bits=i:=by show min i 64=i;omega
 have h2:2^i<2^61:=Nat.pow_lt_pow_right (by decide) (by omega);have h3:(1:Int)*2^i=((2^i:Nat):Int):=by rw[Int.one_mul];exact(Int.natCast_pow 2 i).symm
 rw[h1,h3];have h4:∀q:Nat,q<2^61->IntKind.u64.wrap (q:Int)=q:=λq hq=>ym (by omega) (by omega);exact h4 _ h2
theorem Mk{i:Nat}(h:i<=60):2^i<2^62:=Nat.pow_lt_pow_right (by decide) (by omega)
theorem Fu{n:Nat}(p:Nat->Bool)(h:n<=60):setOf n p<2^62:=
 Nat.lt_of_lt_of_le (rB p n) (Nat.pow_le_pow_right (by decide) (by omega))
theorem Ml{n:Nat}{p:Nat->Bool}(h:p n=true):setOf n p|||2^n=setOf (n+1) p:=by
 apply Nat.eq_of_testBit_eq;intro i;rw[Nat.testBit_or,oU,oU,bL];by_cases hi:i=n
 .subst hi;simp[h]
 have:decide (i<n+1)=decide (i<n):=by apply Bool.eq_iff_iff.2;simp;omega
 simp[hi,this]
theorem Fv{n:Nat}{p:Nat->Bool}(h:p n=false):setOf n p=setOf (n+1) p:=by
 show _=setOf n p+if p n then 2^n else 0
 rw[h];rfl
theorem OH(n k:Nat)(hk:k<=60):(n:Int).fdiv (2^(min (k:Int).toNat IntKind.u64.bits))=((n/2^k:Nat):Int):=by
 have h1:min (k:Int).toNat IntKind.u64.bits=k:=by show min k 64=k;omega
 rw[h1];have h2:(2:Int)^k=((2^k:Nat):Int):=(Int.natCast_pow 2 k).symm;rw[h2,Int.fdiv_eq_ediv_of_nonneg _ (Int.natCast_nonneg _)];exact(Int.natCast_ediv _ _).symm
theorem Tg{n k m:Nat}(h:n<m):n/2^k<m:=Nat.lt_of_le_of_lt (Nat.div_le_self _ _) h
theorem abe(n k:Nat):n/2^k&&&1=if n.testBit k then 1 else 0:=by
 rw[Nat.and_one_is_mod,Nat.testBit_eq_decide_div_mod_eq];have:n/2^k %2<2:=Nat.mod_lt _ (by decide);by_cases h:n/2^k %2=1
 .simp[h]
 have h0:n/2^k %2=0:=by omega
 simp[h0]
theorem abf(n k:Nat):(((n/2^k&&&1:Nat):Int)==1)=n.testBit k:=by
 rw[abe];cases n.testBit k<;>rfl
theorem sK(s i:Nat)(hs:s<2^62)(hi:i<=60):DN 149 [.int .u64 s,.int .i64 i] (.bool (s.testBit i)):=by
 refine mk Tryz.func149 Tryz.call149 rfl rfl ?_;refine⟨Int.natCast_nonneg _,_,OH s i hi,?_⟩;refine⟨_,wC (b:=1) (Tg hs) (by decide),?_⟩;show some (D.bool _)=some (D.bool _);rw[<-abf]
theorem sL(i:Nat)(hi:i<=60):DN 144 [.int .i64 i] (.int .u64 ((2^i:Nat):Int)):=by
 refine mk Tryz.func144 Tryz.call144 rfl rfl ?_;exact⟨Int.natCast_nonneg _,_,abd i hi,rfl⟩
def iX(s n:Nat):List Int:=((List.range n).filter λi=>s.testBit i).map λi=>((i:Nat):Int)
theorem CX(s n:Nat):iX s (n+1)=if s.testBit n=true then iX s n++[(n:Int)]else iX s n:=by
 unfold iX;rw[List.range_succ,List.filter_append,List.map_append];by_cases h:s.testBit n=true
 .simp[h]
 simp[h]
theorem yC(s n:Nat):(iX s n).length<=n:=by
 unfold iX;rw[List.length_map];exact Nat.le_trans (List.length_filter_le _ _) (by simp)
def ad(s:Nat):List Int:=iX s 7
theorem Mm(s:Nat)(hs:s<2^62):DN 145 [.int .u64 s] (.list 1 ((ad s).map aC)):=by
 refine mk Tryz.func145 Tryz.call145 rfl rfl ?_;refine⟨[0,2,4],0,[(.slot 2,1)],λU=>∃(i g:Nat),i<=7/\
  U=⟨[(0,.int .u64 s),(2,.sl 0 g 0 ((iX s i).map aC).length),(4,.int .i64 i)],[.rows false g 1 ((iX s i).map aC)],.aQ⟩,
  λU=>(1000-aZ 4 U).toNat,rfl,⟨rfl,rfl⟩,⟨0,0,Nat.zero_le _,rfl⟩,?_⟩
 rintro U⟨i,g,hi,rfl⟩;have hle:=yC s i;have GM:=CX s i;refine⟨λh1=>?_,λh1=>?_⟩
 .have h1:(i:Int)<7:=of_decide_eq_true h1
  have less:(1000-((i:Int)+1)).toNat<(1000-(i:Int)).toNat:=by omega
  refine⟨_,rfl,_,sK s i hs (by omega),?_⟩;refine⟨λh2=>?_,λh2=>?_⟩
  .rw[if_pos h2]at GM
   have p8:(iX s i).map aC++[[D.int .i64 i]]=(iX s (i+1)).map aC:=by rw[GM];simp[aC]
   refine⟨trivial,cA (by rw[aG];rfl) ⟨Nat.le_of_eq (Nat.zero_add _),?_,_,ij rfl,_,p8,?_⟩⟩
   .rw[Lv];show(_+1)*8<=ay;unfold ay;omega
   refine⟨(i:Int)+1,wrap64 (by omega) (by omega),?_⟩;exact⟨⟨rfl,rfl⟩,⟨i+1,g+1,by omega,rfl⟩,less⟩
  have h2:s.testBit i=false:=h2;rw[if_neg (by rw[h2];decide)]at GM;refine⟨(i:Int)+1,wrap64 (by omega) (by omega),?_⟩;exact⟨⟨rfl,rfl⟩,⟨i+1,g,by omega,by rw[GM];rfl⟩,less⟩
 have h1:¬(i:Int)<7:=of_decide_eq_false h1;have e:i=7:=by omega
 subst e;show reify [.rows false g 1 ((iX s 7).map aC)] 8 (.sl 0 g 0 ((iX s 7).map aC).length)=_;exact ga rfl rfl
structure Pp where
 fr:Nat
 to:Nat
 gE:Bool
def Pp.enc(p:Pp):List D:=[.int .i64 p.fr,.int .i64 p.to,.bool p.gE]
structure aR where
 ad:List Tk
 ai:List Pp
 kept:Nat
 wanted:Nat
 op:List Bool
def aR.enc(n:aR):List D:=[.list 2 (n.ad.map Tk.enc),.list 3 (n.ai.map Pp.enc),.int .u64 n.kept,.int .u64 n.wanted]++n.op.map D.bool
structure aR.Ok(n:aR):Prop where
 t1:1<=n.ad.length
 t7:n.ad.length<=7
 p:n.ai.length<=12
 pe:∀p∈n.ai,p.fr<n.ad.length/\p.to<n.ad.length/\p.fr≠p.to
 k:n.kept<2^7
 w:n.wanted<2^7
 o:n.op.length=12
def aR.DB(n:aR)(i:Nat):Bool:=n.op.getD i false
theorem aR.OI{n:aR}(h:n.Ok){i:Nat}(hi:i<12):(n.op.map D.bool).drop i=D.bool (n.DB i)::(n.op.map D.bool).drop (i+1):=by
 have hl:i<(n.op.map D.bool).length:=by rw[List.length_map,h.o];exact hi
 rw[List.drop_eq_getElem_cons hl];congr 1;unfold aR.DB;simp[List.getD_eq_getElem?_getD,List.getElem?_eq_getElem (show i<n.op.length by rw[h.o];exact hi)]
def aR.kK(n:aR)(s:Nat):Nat->Nat
 |0=>s
 |k+1=>match n.ai[k]? with
  |none=>n.kK s k
  |some p=>if(n.DB k&&((n.kK s k).testBit p.fr||(n.kK s k).testBit p.to))=true then n.kK s k|||(2^p.fr|||2^p.to)else n.kK s k
theorem wO{i:Nat}(h:i<7):2^i<2^7:=Nat.pow_lt_pow_right (by decide) h
def Fw(f b:Nat):List D:=[.int .u64 f,.int .u64 b]
def aR.mV(n:aR)(f b:Nat):Nat->Nat
 |0=>f
 |k+1=>match n.ai[k]? with
  |none=>n.mV f b k
  |some p=>if(!(n.DB k)||((n.mV f b k).testBit p.fr==(n.mV f b k).testBit p.to))=true then n.mV f b k else diff (n.mV f b k) (diff (n.mV f b k&&&(2^p.fr|||2^p.to)) b)
def aR.sp(n:aR)(f b:Nat):Nat:=n.mV f b n.ai.length
def aR.eO(n:aR):Nat->Nat->Nat->Nat
 |0,f,_=>f
 |r+1,f,b=>if n.sp f b=f then f else n.eO r (n.sp f b) b
def aR.spread(n:aR)(f b:Nat):Nat:=n.eO 128 f b
theorem OK(a b:Nat):diff a b<=a:=by
 have h:diff a b|||(a&&&b)=a:=by
  apply Nat.eq_of_testBit_eq;intro i;rw[Nat.testBit_or,iF,Nat.testBit_and];cases a.testBit i<;>cases b.testBit i<;>rfl
 have h2:diff a b<=diff a b|||(a&&&b):=Nat.left_le_or;omega
theorem aR.wQ(n:aR)(f b:Nat):∀k,n.mV f b k<=f
 |0=>Nat.le_refl _
 |k+1=>by
  have ih:=n.wQ f b k;unfold aR.mV;cases hp:n.ai[k]? with
  |none=>exact ih
  |some p=>
   simp only;split
   .exact ih
   exact Nat.le_trans (OK _ _) ih
theorem aR.CY{n:aR}{f b:Nat}(h:n.sp f b=f):∀r,n.eO r f b=f
 |0=>rfl
 |r+1=>by unfold aR.eO;rw[if_pos h]
def CZ(i off:Nat)(U:St):Int:=match U.boxes[i]? with
 |some (.flat _ cs)=>match cs[off]? with
  |some (.int _ n)=>n
  |_=>0
 |_=>0
theorem aR.Fx{n:aR}{f b:Nat}(hf:f<2^7)(k:Nat):n.mV f b k<2^7:=Nat.lt_of_le_of_lt (n.wQ f b k) hf
theorem Mn(n:aR)(h:n.Ok)(f b:Nat)(hf:f<2^7)(hb:b<2^7):DN 229 [.ro n.enc,.agg (Fw f b)] (.agg (Fw (n.spread f b) b)):=by
 refine mk Tryz.func229 Tryz.call229 rfl rfl ?_;have kj:((n.ai.map Pp.enc).length:Int)=n.ai.length:=by simp
 refine⟨[0,3,4,5],3,[(.swap 2 3,0)],λU=>∃(lf lb t r:Nat),t<2^7/\n.eO r t b=n.spread f b/\t<r/\(lf=t->lb=b->n.sp t b=t)/\
  U=⟨[(0,.ro n.enc),(3,.loc 0 0),(4,.loc 1 0),(5,.loc 2 0)],[.flat false (Fw t b),.flat false [.int .u64 0,.int .u64 0],.flat false (Fw lf lb)],.aQ⟩,
  λU=>2*(CZ 0 0 U).toNat+(if CZ 2 0 U=CZ 0 0 U/\CZ 2 1 U=CZ 0 1 U then 0 else 1),rfl,⟨rfl,rfl⟩,⟨0,0,f,128,hf,rfl,by omega,λe1 _=>?_,rfl⟩,?_⟩
 .have:=n.wQ f b n.ai.length
  show n.mV f b n.ai.length=f;omega
 rintro U⟨lf,lb,t,r,ht,hJ,hr,abg,rfl⟩;refine⟨λh1=>?_,λh1=>?_⟩
 rotate_left
 .have h1:(!((lf:Int)==t&&((lb:Int)==b&&true)))=false:=h1
  simp at h1;rw[aR.CY (abg (by omega) (by omega))]at hJ;rw[<-hJ];rfl
 have h1:(!((lf:Int)==t&&((lb:Int)==b&&true)))=true:=h1;have eh:¬((lf:Int)=t/\(lb:Int)=b):=by simp at h1;omega
 refine⟨[0,3,4,5,18,19,20],3,[],λU=>∃k:Nat,k<=n.ai.length/\
  U=⟨[(0,.ro n.enc),(3,.loc 0 0),(4,.loc 1 0),(5,.loc 2 0),(18,.list 3 (n.ai.map Pp.enc)),(19,.int .i64 (n.ai.map Pp.enc).length),(20,.int .i64 k)],
   [.flat false (Fw (n.mV t b k) b),.flat false [.int .u64 0,.int .u64 0],.flat false (Fw t b)],.aQ⟩,
  λU=>(1000-aZ 20 U).toNat,rfl,⟨rfl,rfl⟩,⟨0,Nat.zero_le _,rfl⟩,?_⟩
 rintro U⟨k,hk,rfl⟩;refine⟨λh2=>?_,λh2=>?_⟩
 .have h2:=of_decide_eq_true h2
  rw[kj]at h2;have bF:k<n.ai.length:=by omega
  obtain⟨p,hp⟩:∃p,n.ai[k]=p:=⟨_,rfl⟩;have JH:n.ai[k]?=some p:=by rw[List.getElem?_eq_getElem bF,hp]
  have aI:(n.ai.map Pp.enc)[((k:Int)).toNat]?=some (p.enc):=by simp[bF,hp]
  have NC:=h.pe p (List.mem_of_getElem? JH);have h7:=h.t7;have M1:=h.p;have less:(1000-((k:Int)+1)).toNat<(1000-(k:Int)).toNat:=by omega
  have cG:=n.Fx (b:=b) ht k;have gH:n.mV t b (k+1)=if(!(n.DB k)||((n.mV t b k).testBit p.fr==(n.mV t b k).testBit p.to))=true then n.mV t b k else diff (n.mV t b k) (diff (n.mV t b k&&&(2^p.fr|||2^p.to)) b):=by
   show(match n.ai[k]? with|none=>_|some p=>_)=_;rw[JH]
  obtain⟨c,hc⟩:∃c,n.mV t b k=c:=⟨_,rfl⟩;rw[hc]at cG gH⊢;have CJ:(!(n.DB k)||(c.testBit p.fr==c.testBit p.to))=true->n.mV t b (k+1)=c:=λh=>by rw[gH,if_pos h]
  have dE:(!(n.DB k)||(c.testBit p.fr==c.testBit p.to))=false->n.mV t b (k+1)=diff c (diff (c&&&(2^p.fr|||2^p.to)) b):=λh=>by rw[gH,if_neg (by rw[h];decide)]
  have abS:2^p.fr|||2^p.to<2^7:=pH (wO (by omega)) (wO (by omega));have XK:c&&&(2^p.fr|||2^p.to)<2^7:=Nat.lt_of_le_of_lt Nat.and_le_left cG;have abK:diff (c&&&(2^p.fr|||2^p.to)) b<2^7:=uN XK;have ea:=n.OI h (i:=k) (by omega);refine⟨by omega,_,aI,?_⟩;refine Or.inl ⟨by kernel_rfl,?_⟩;refine⟨⟨by omega,by omega⟩,_,(show(n.op.map D.bool).drop (k*1)=D.bool (n.DB k)::(n.op.map D.bool).drop (k+1)by rw[Nat.mul_one];exact ea),?_⟩;refine⟨λh3=>?_,λh3=>?_⟩
  .have h3:(!(n.DB k))=true:=h3
   have fu:=CJ (by rw[h3];rfl);refine⟨(k:Int)+1,wrap64 (by omega) (by omega),?_⟩;exact⟨⟨rfl,rfl⟩,⟨k+1,bF,by rw[fu];rfl⟩,less⟩
  have h3:(!(n.DB k))=false:=h3;refine⟨_,rfl,_,sK c p.fr (by omega) (by omega),?_⟩;refine⟨_,rfl,_,sK c p.to (by omega) (by omega),?_⟩;refine⟨λh4=>?_,λh4=>?_⟩
  .have h4:(c.testBit p.fr==c.testBit p.to)=true:=h4
   have fu:=CJ (by rw[h3,h4];rfl);refine⟨(k:Int)+1,wrap64 (by omega) (by omega),?_⟩;exact⟨⟨rfl,rfl⟩,⟨k+1,bF,by rw[fu];rfl⟩,less⟩
  have h4:(c.testBit p.fr==c.testBit p.to)=false:=h4;have fu:=dE (by rw[h3,h4];rfl);refine Or.inl ⟨by kernel_rfl,?_⟩;refine⟨_,rfl,_,sL p.fr (by omega),?_⟩;refine⟨_,rfl,_,sL p.to (by omega),?_⟩;refine⟨_,uM (Nat.lt_of_lt_of_le (wO (by omega)) (by decide)) (Nat.lt_of_lt_of_le (wO (by omega)) (by decide)),?_⟩;refine⟨_,wC (by omega) (by omega),?_⟩;refine⟨_,ot (by omega) (by omega),?_⟩;refine⟨_,ot (by omega) (by omega),?_⟩;refine⟨(k:Int)+1,wrap64 (by omega) (by omega),?_⟩;exact⟨⟨rfl,rfl⟩,⟨k+1,bF,by rw[fu];rfl⟩,less⟩
 have h2:=of_decide_eq_false h2;rw[kj]at h2;have e:k=n.ai.length:=by omega
 subst e;have hle:=n.wQ t b n.ai.length;have cG:=n.Fx (b:=b) ht n.ai.length;obtain⟨c,hc⟩:∃c,n.mV t b n.ai.length=c:=⟨_,rfl⟩;rw[hc]at hle cG⊢;have Qi:n.sp t b=c:=hc;have Hu:∃q,r=q+1:=⟨r-1,by omega⟩;obtain⟨q,rfl⟩:=Hu;by_cases hct:c=t
 .subst hct
  refine⟨⟨rfl,rfl⟩,⟨c,b,c,q+1,ht,hJ,hr,λ_ _=>Qi,rfl⟩,?_⟩;show 2*((c:Int)).toNat+(if((c:Nat):Int)=c/\((b:Nat):Int)=b then 0 else 1)<2*((c:Int)).toNat+(if((lf:Nat):Int)=c/\((lb:Nat):Int)=b then 0 else 1);rw[if_pos ⟨rfl,rfl⟩,if_neg eh];omega
 have hJ':n.eO q c b=n.spread f b:=by
   rw[<-hJ];show _=if n.sp t b=t then t else n.eO q (n.sp t b) b
   rw[Qi,if_neg hct]
 refine⟨⟨rfl,rfl⟩,⟨t,b,c,q,cG,hJ',by omega,λe=>absurd e.symm hct,rfl⟩,?_⟩;show 2*((c:Int)).toNat+(if((t:Nat):Int)=c/\((b:Nat):Int)=b then 0 else 1)<2*((t:Int)).toNat+(if((lf:Nat):Int)=t/\((lb:Nat):Int)=b then 0 else 1);rw[if_neg eh];split<;>omega
def aR.cE(n:aR)(f b i:Nat)(off:Bool):(Nat×Nat)×Bool:=
 if(n.kept.testBit i||!(b.testBit i==off))=true then((f,b),false)
 else match off with
  |true=>((n.spread f (diff b (2^i)),diff b (2^i)),true)
  |false=>((n.spread (f|||2^i) (b|||2^i),b|||2^i),true)
theorem Mo(n:aR)(h:n.Ok)(f b i:Nat)(hf:f<2^7)(hb:b<2^7)(hi:i<7)(off:Bool):
    DN 147 [.ro n.enc,.agg (Fw f b),.agg [.int .i64 i,.bool off]] (.b9 [.agg (Fw (n.cE f b i off).1.1 (n.cE f b i off).1.2),.bool (n.cE f b i off).2]):=by
  refine mk Tryz.func147 Tryz.call147 rfl rfl ?_;have hk:=h.k;have hp:=wO hi;refine Or.inl ⟨by kernel_rfl,?_⟩;refine⟨_,rfl,_,sK n.kept i (by omega) (by omega),?_⟩;refine⟨λh1=>?_,λh1=>?_⟩
  .have h1:n.kept.testBit i=true:=h1
   have e:n.cE f b i off=((f,b),false):=by unfold aR.cE;rw[if_pos (by rw[h1];rfl)]
   rw[e];rfl
  have h1:n.kept.testBit i=false:=h1;refine⟨_,rfl,_,sK b i (by omega) (by omega),?_⟩;refine⟨λh2=>?_,λh2=>?_⟩
  .have h2:(!(b.testBit i==off))=true:=h2
   have e:n.cE f b i off=((f,b),false):=by unfold aR.cE;rw[if_pos (by rw[h1,h2];rfl)]
   rw[e];rfl
  have h2:(!(b.testBit i==off))=false:=h2;cases off with
  |true=>
   have e:n.cE f b i true=((n.spread f (diff b (2^i)),diff b (2^i)),true):=by unfold aR.cE;rw[if_neg (by rw[h1,h2];decide)]
   rw[e];have h89:=Mn n h f (diff b (2^i)) hf (uN hb);refine⟨λ_=>?_,λh=>absurd h (by decide)⟩;refine Or.inr (Or.inl ⟨6,[],by kernel_rfl,?_⟩);refine⟨_,rfl,_,sL i (by omega),?_⟩;refine⟨_,ot (by omega) (by omega),?_⟩;refine⟨trivial,?_⟩;refine⟨trivial,?_⟩;exact⟨_,rfl,_,h89,rfl⟩
  |false=>
   have e:n.cE f b i false=((n.spread (f|||2^i) (b|||2^i),b|||2^i),true):=by unfold aR.cE;rw[if_neg (by rw[h1,h2];decide)]
   rw[e];have h89:=Mn n h (f|||2^i) (b|||2^i) (pH hf hp) (pH hb hp);refine⟨λh=>absurd h (by decide),λ_=>?_⟩;refine Or.inr (Or.inl ⟨6,[],by kernel_rfl,?_⟩);refine⟨_,rfl,_,sL i (by omega),?_⟩;refine⟨_,uM (by omega) (by omega),?_⟩;refine⟨trivial,?_⟩;refine⟨trivial,?_⟩;refine Or.inr (Or.inl ⟨6,[],by kernel_rfl,?_⟩);refine⟨_,rfl,_,sL i (by omega),?_⟩;refine⟨_,uM (by omega) (by omega),?_⟩;refine⟨trivial,?_⟩;refine⟨trivial,?_⟩;exact⟨_,rfl,_,h89,rfl⟩
def wR(ts:List Tk)(x:Tk):Int:=fH (ts.map (·.name)) x.name
def mW(many:Int)(p:Rp):Int:=match[p.fr,p.to].any (cP many)with
 |true=>4
 |false=>match p.fr==p.to with|true=>2|false=>0
def sM(ts:List Tk):Nat->Nat->Option (Nat×Int)
 |0,_=>none
 |r+1,i=>match ts[i]? with
  |none=>none
  |some x=>if wR (ts.take i) x=0 then sM ts r (i+1)else some (i,wR (ts.take i) x)
def sN(many:Int)(ps:List Rp):Nat->Nat->Option (Nat×Int)
 |0,_=>none
 |r+1,i=>match ps[i]? with
  |none=>none
  |some p=>if mW many p=0 then sN many ps r (i+1)else some (i,mW many p)
def Nt.check(n:Nt):Int×Int×Int:=
 if n.ad.length=0\/n.ad.length>7\/n.ai.length>12 then(1,0,3)
 else match sM n.ad n.ad.length 0 with
  |some (i,e)=>(2,i,e)
  |none=>match sN n.ad.length n.ai n.ai.length 0 with
   |some (i,e)=>(3,i,e)
   |none=>(0,0,0)
def abh(p:Int×Int×Int):D:=.b9 [.int .i64 p.1,.int .i64 p.2.1,.int .i64 p.2.2]
def Ax(l:List Int)(i:Nat):Int:=match l[i]? with|some v=>v|none=>0
theorem Ay{l:List Int}{i:Nat}(h:i<l.length):Ax l i=l[i]:=by unfold Ax;rw[List.getElem?_eq_getElem h]
def mX(p:Int->Bool)(many:Int)(l:List Int):Nat->Nat->Option Int
 |0,_=>none
 |r+1,k=>if cP many (Ax l k)=true then some 4 else if 0<k/\Ax l k<=Ax l (k-1)then some 2 else if p (Ax l k)=true then some 9 else mX p many l r (k+1)
theorem Mp(l:List Tk):((l.map Tk.enc).length:Int)=l.length:=by simp
theorem Mq(l:List Rp):((l.map Rp.enc).length:Int)=l.length:=by simp
theorem Fy(ts:List Tk)(x:Tk):fH (ts.map (·.name)) x.name=wR ts x:=rfl
theorem Az(v many:Int):DN 111 [.int .i64 v,.int .i64 many] (.bool (!(cP many v))):=by
 refine mk Tryz.func111 Tryz.call111 rfl rfl ?_;refine⟨λh=>?_,λh=>?_⟩
 .have h:v>=0:=of_decide_eq_true h
  show some (D.bool (decide (v<many)))=some (D.bool _);congr 2;unfold cP;apply Bool.eq_iff_iff.2;simp;omega
 have h:¬v>=0:=of_decide_eq_false h;show some (D.bool false)=some (D.bool _);congr 2;unfold cP;apply Bool.eq_iff_iff.2;simp;omega
theorem Th(n:Nt):DN 198 [.agg n.enc] (abh n.check):=by
 refine mk Tryz.func198 Tryz.call198 rfl rfl ?_;have nn:=Mp n.ad;have kj:=Mq n.ai;have long:(n.ad.length=0\/n.ad.length>7\/n.ai.length>12)->n.check=(1,0,3):=λh=>by unfold Nt.check;rw[if_pos h]
 refine⟨λh1=>?_,λh1=>?_⟩
 .have h1:((n.ad.map Tk.enc).length:Int)<1:=of_decide_eq_true h1
  rw[long (.inl (by omega))];rfl
 have h1:¬((n.ad.map Tk.enc).length:Int)<1:=of_decide_eq_false h1;refine⟨λh2=>?_,λh2=>?_⟩
 .have h2:((n.ad.map Tk.enc).length:Int)>7:=of_decide_eq_true h2
  rw[long (.inr (.inl (by omega)))];rfl
 have h2:¬((n.ad.map Tk.enc).length:Int)>7:=of_decide_eq_false h2;refine⟨λh3=>?_,λh3=>?_⟩
 .have h3:((n.ai.map Rp.enc).length:Int)>12:=of_decide_eq_true h3
  rw[long (.inr (.inr (by omega)))];rfl
 have h3:¬((n.ai.map Rp.enc).length:Int)>12:=of_decide_eq_false h3;have pX:n.check=match sM n.ad n.ad.length 0 with
  |some (i,e)=>(2,(i:Int),e)
  |none=>match sN n.ad.length n.ai n.ai.length 0 with
   |some (i,e)=>(3,(i:Int),e)
   |none=>(0,0,0):=by unfold Nt.check;rw[if_neg (by omega)];try rfl
 refine⟨[1,5,6],1,[(.slot 5,1)],λU=>∃(i g:Nat),i<=n.ad.length/\sM n.ad n.ad.length 0=sM n.ad (n.ad.length-i) i/\
  U=⟨[(1,.loc 0 0),(5,.sl 1 g 0 (((n.ad.take i).map (·.name)).map eM).length),(6,.int .i64 i)],[.flat false n.enc,.rows false g 1 (((n.ad.take i).map (·.name)).map eM)],.aQ⟩,
  λU=>(1000-aZ 6 U).toNat,rfl,⟨rfl,rfl⟩,⟨0,0,Nat.zero_le _,rfl,rfl⟩,?_⟩
 rintro U⟨i,g,hi,hb,rfl⟩;refine⟨λh4=>?_,λh4=>?_⟩
 .have h4:=of_decide_eq_true h4
  rw[nn]at h4;have bC:i<n.ad.length:=by omega
  obtain⟨x,hx⟩:∃x,n.ad[i]=x:=⟨_,rfl⟩;have hgx:n.ad[i]?=some x:=by rw[List.getElem?_eq_getElem bC,hx]
  have aI:(n.ad.map Tk.enc)[((i:Int)).toNat]?=some (x.enc):=by simp[bC,hx]
  have less:(1000-((i:Int)+1)).toNat<(1000-(i:Int)).toNat:=by omega
  have gH:sM n.ad (n.ad.length-i) i=if wR (n.ad.take i) x=0 then sM n.ad (n.ad.length-(i+1)) (i+1)else some (i,wR (n.ad.take i) x):=by
   rw[show n.ad.length-i=(n.ad.length-(i+1))+1 by omega];show(match n.ad[i]? with|none=>none|some x=>_)=_;rw[hgx]
  rw[gH]at hb;have h53:=LF ((n.ad.take i).map (·.name)) x.name (by rw[List.length_map,List.length_take];omega);rw[Fy]at h53;have p8:((n.ad.take i).map (·.name)).map eM++[[D.str x.name]]=((n.ad.take (i+1)).map (·.name)).map eM:=by
   rw[List.take_succ_eq_append_getElem bC,hx];simp[eM]
  have hl:(((n.ad.take i).map (·.name)).map eM).length=i:=by simp;omega
  obtain⟨e,he⟩:∃e,wR (n.ad.take i) x=e:=⟨_,rfl⟩;rw[he]at hb h53;refine⟨by omega,_,aI,?_⟩;refine⟨_,ag rfl (ag (ga rfl rfl) rfl),_,h53,?_⟩;refine⟨by omega,_,aI,?_⟩;refine⟨trivial,cA (by rw[aG];rfl) ⟨Nat.le_of_eq (Nat.zero_add _),?_,_,ij rfl,_,p8,?_⟩⟩
  .rw[hl];show(i+1)*16<=ay;unfold ay;omega
  refine⟨λh5=>?_,λh5=>?_⟩
  .have h5:(e !=0)=true:=h5
   have h5:e≠0:=by simpa using h5
   rw[if_neg h5]at hb;rw[pX,hb];rfl
  have h5:(e !=0)=false:=h5;have h5:e=0:=by simpa using h5
  rw[if_pos h5]at hb;refine⟨(i:Int)+1,wrap64 (by omega) (by omega),?_⟩;exact⟨⟨rfl,rfl⟩,⟨i+1,g+1,bC,hb,rfl⟩,less⟩
 have h4:=of_decide_eq_false h4;rw[nn]at h4;rw[show n.ad.length-i=0 by omega]at hb;rw[hb]at pX;have pX:n.check=match sN n.ad.length n.ai n.ai.length 0 with
     |some (i,e)=>(3,(i:Int),e)
     |none=>(0,0,0):=pX
 refine⟨[1,8],1,[],λU=>∃k:Nat,k<=n.ai.length/\sN n.ad.length n.ai n.ai.length 0=sN n.ad.length n.ai (n.ai.length-k) k/\
  U=⟨[(1,.loc 0 0),(8,.int .i64 k)],[.flat false n.enc],.aQ⟩,
  λU=>(1000-aZ 8 U).toNat,rfl,⟨rfl,rfl⟩,⟨0,Nat.zero_le _,rfl,rfl⟩,?_⟩
 rintro U⟨k,hk,jQ,rfl⟩;refine⟨λh7=>?_,λh7=>?_⟩
 .have h7:=of_decide_eq_true h7
  rw[kj]at h7;have bF:k<n.ai.length:=by omega
  obtain⟨x,hx⟩:∃x,n.ai[k]=x:=⟨_,rfl⟩;have hgx:n.ai[k]?=some x:=by rw[List.getElem?_eq_getElem bF,hx]
  have aI:(n.ai.map Rp.enc)[((k:Int)).toNat]?=some (x.enc):=by simp[bF,hx]
  have less:(1000-((k:Int)+1)).toNat<(1000-(k:Int)).toNat:=by omega
  have gH:sN n.ad.length n.ai (n.ai.length-k) k=if mW n.ad.length x=0 then sN n.ad.length n.ai (n.ai.length-(k+1)) (k+1)else some (k,mW n.ad.length x):=by
   rw[show n.ai.length-k=(n.ai.length-(k+1))+1 by omega];show(match n.ai[k]? with|none=>none|some x=>_)=_;rw[hgx]
  rw[gH]at jQ;have Ao:∀e,mW n.ad.length x=e->e≠0->n.check=(3,(k:Int),e):=λe he h0=>by
   rw[pX,jQ,if_neg (by rw[he];exact h0),he]
  have hp4:(cP n.ad.length x.fr||cP n.ad.length x.to)=true->n.check=(3,(k:Int),4):=λh=>Ao 4 (by unfold mW;rw[show[x.fr,x.to].any (cP n.ad.length)=true by simpa using h]) (by decide);refine⟨by omega,_,aI,?_⟩;refine⟨_,rfl,_,Az x.fr ((n.ad.map Tk.enc).length:Int),?_⟩;refine⟨λh8=>?_,λh8=>?_⟩
  .have h8:(!(!(cP ((n.ad.map Tk.enc).length:Int) x.fr)))=true:=h8
   rw[nn]at h8;rw[hp4 (by simp at h8;rw[h8];rfl)];rfl
  have h8:(!(!(cP ((n.ad.map Tk.enc).length:Int) x.fr)))=false:=h8;rw[nn]at h8;refine⟨_,rfl,_,Az x.to ((n.ad.map Tk.enc).length:Int),?_⟩;refine⟨λh9=>?_,λh9=>?_⟩
  .have h9:(!(!(cP ((n.ad.map Tk.enc).length:Int) x.to)))=true:=h9
   rw[nn]at h9;rw[hp4 (by simp at h9;rw[h9,Bool.or_true])];rfl
  have h9:(!(!(cP ((n.ad.map Tk.enc).length:Int) x.to)))=false:=h9;rw[nn]at h9;have E4:[x.fr,x.to].any (cP n.ad.length)=false:=by simp at h8 h9;simp[h8,h9]
  refine⟨λtp=>?_,λtp=>?_⟩
  .have he:mW n.ad.length x=2:=by unfold mW;rw[E4,tp]
   rw[Ao 2 he (by decide)];rfl
  have he:mW n.ad.length x=0:=by unfold mW;rw[E4,tp]
  rw[if_pos he]at jQ;refine⟨(k:Int)+1,wrap64 (by omega) (by omega),?_⟩;exact⟨⟨rfl,rfl⟩,⟨k+1,bF,jQ,rfl⟩,less⟩
 have h7:=of_decide_eq_false h7;rw[kj]at h7;rw[show n.ai.length-k=0 by omega]at jQ;rw[jQ]at pX;rw[pX];rfl
def Rp.pp(p:Rp):Pp:=⟨p.fr.toNat,p.to.toNat,p.gE⟩
def Nt.tN(n:Nt)(i:Nat):Bool:=match n.ad[i]? with|some t=>t.kept|none=>false
def yD(l:List Int):Nat->Nat
 |0=>0
 |k+1=>match l[k]? with|some v=>yD l k|||2^v.toNat|none=>yD l k
def Uu(many:Nat)(blanks:List Int)(i:Nat):Bool:=decide (i<many)&&!(dB blanks i)
def Nt.look(n:Nt)(blanks wanted:List Int):aR:=⟨n.ad,n.ai.map Rp.pp,setOf n.ad.length n.tN,yD wanted wanted.length,(List.range 12).map (Uu n.ai.length blanks)⟩
theorem wS:∀(r i:Nat)(ts:List Tk)(k:Nat)(e:Int),sM ts r i=some (k,e)->e≠0
 |0,_,_,_,_,h=>by cases h
 |r+1,i,ts,k,e,h=>by
  unfold sM at h;cases hx:ts[i]? with
  |none=>rw[hx]at h;cases h
  |some x=>
   rw[hx]at h;simp only at h;split at h
   .exact wS r (i+1) ts k e h
   cases h;assumption
theorem C0(many:Int):∀(r i:Nat)(ps:List Rp)(k:Nat)(e:Int),sN many ps r i=some (k,e)->e≠0
 |0,_,_,_,_,h=>by cases h
 |r+1,i,ps,k,e,h=>by
  unfold sN at h;cases hx:ps[i]? with
  |none=>rw[hx]at h;cases h
  |some x=>
   rw[hx]at h;simp only at h;split at h
   .exact C0 many r (i+1) ps k e h
   cases h;assumption
theorem yE(many:Int):∀(r i:Nat)(ps:List Rp),sN many ps r i=none->i+r=ps.length->∀j p,i<=j->ps[j]?=some p->mW many p=0
 |0,i,ps,_,hi,j,p,hj,hp=>by have:=(List.getElem?_eq_some_iff.1 hp).1;omega
 |r+1,i,ps,h,hi,j,p,hj,hp=>by
  unfold sN at h;cases hx:ps[i]? with
  |none=>have:=List.getElem?_eq_none_iff.1 hx;omega
  |some x=>
   rw[hx]at h;simp only at h;split at h
   .by_cases e:j=i
    .subst e;rw[hx]at hp;cases hp;assumption
    exact yE many r (i+1) ps h (by omega) j p (by omega) hp
   cases h
structure Nt.Ok(n:Nt):Prop where
 t1:1<=n.ad.length
 t7:n.ad.length<=7
 p:n.ai.length<=12
 pe:∀p∈n.ai,0<=p.fr/\p.fr<n.ad.length/\0<=p.to/\p.to<n.ad.length/\p.fr≠p.to
theorem Nt.rC{n:Nt}(h:n.check.2.2=0):n.Ok:=by
 unfold Nt.check at h;split at h
 .cases h
 rename_i hl;cases hb:sM n.ad n.ad.length 0 with
 |some x=>rw[hb]at h;exact absurd h (wS _ _ _ _ _ hb)
 |none=>
  rw[hb]at h;simp only at h;cases jQ:sN n.ad.length n.ai n.ai.length 0 with
  |some x=>rw[jQ]at h;exact absurd h (C0 _ _ _ _ _ _ jQ)
  |none=>
   refine⟨by omega,by omega,by omega,λp hp=>?_⟩;obtain⟨i,hi⟩:=List.mem_iff_getElem?.1 hp;have h2:=yE _ _ _ _ jQ (by omega) i p (Nat.zero_le _) hi;unfold mW at h2;split at h2
   .cases h2
   rename_i h3;split at h2
   .cases h2
   rename_i h4;simp[cP]at h3;simp at h4;omega
theorem Ti{n:Nt}(h:n.Ok):(n.ai.map Rp.pp).map Pp.enc=n.ai.map Rp.enc:=by
 rw[List.map_map];refine List.map_congr_left λp hp=>?_;have:=h.pe p hp;show[D.int .i64 ((p.fr.toNat:Nat):Int),D.int .i64 ((p.to.toNat:Nat):Int),D.bool p.gE]=[D.int .i64 p.fr,D.int .i64 p.to,D.bool p.gE];rw[Int.toNat_of_nonneg (by omega),Int.toNat_of_nonneg (by omega)]
def Qj(many:Nat)(l:List Int):Prop:=∀v∈l,0<=v/\v<many
theorem C1(p:Int->Bool)(many:Int)(l:List Int):∀(r k:Nat),mX p many l r k=none->k+r=l.length->∀j,k<=j->j<l.length->(0<=Ax l j/\Ax l j<many)/\p (Ax l j)=false/\(0<j->Ax l (j-1)<Ax l j)
 |0,k,_,hk,j,h1,h2=>by omega
 |r+1,k,h,hk,j,h1,h2=>by
  unfold mX at h;split at h
  .cases h
  rename_i ho;split at h
  .cases h
  rename_i hs;split at h
  .cases h
  rename_i hp;by_cases e:j=k
  .subst e
   have h3:=kJ (by simpa using ho);exact⟨h3,by simpa using hp,λh0=>by omega⟩
  exact C1 p many l r (k+1) h (by omega) j (by omega) h2
theorem wT{l:List Int}(h:Qj 7 l):∀k,yD l k<2^7
 |0=>(by decide:0<2^7)
 |k+1=>by
  unfold yD;cases hv:l[k]? with
  |none=>exact wT h k
  |some v=>
   have:=h v (List.mem_of_getElem? hv);exact pH (wT h k) (wO (by omega))
theorem Nt.look_ok{n:Nt}(h:n.Ok)(blanks:List Int){wanted:List Int}(hw:Qj n.ad.length wanted):(n.look blanks wanted).Ok:=by
 have h7:=h.t7;refine⟨h.t1,h.t7,by simp[Nt.look,h.p],λp hp=>?_,?_,wT (λv hv=>by have:=hw v hv;omega) _,by simp[Nt.look]⟩
 .obtain⟨q,hq,rfl⟩:=List.mem_map.1 hp
  have:=h.pe q hq;show q.fr.toNat<n.ad.length/\q.to.toNat<n.ad.length/\q.fr.toNat≠q.to.toNat;omega
 exact Nat.lt_of_lt_of_le (rB _ _) (Nat.pow_le_pow_right (by decide) h7)
def Nt.pI(n:Nt)(v:Int):Bool:=match n.ai[v.toNat]? with|some p=>p.gE|none=>false
def Nt.XL(n:Nt)(v:Int):Bool:=match n.ad[v.toNat]? with|some t=>t.kept|none=>false
def Nt.gQ(n:Nt)(blanks:List Int):Option Int:=mX n.pI n.ai.length blanks blanks.length 0
def Nt.uO(n:Nt)(wanted:List Int):Option Int:=if wanted.length=0 then some 3 else mX n.XL n.ad.length wanted wanted.length 0
def Nt.eZ(n:Nt)(blanks wanted:List Int)(asked:Bool):Int:=if n.check.2.2≠0 then n.check.2.2 else match n.gQ blanks with
 |some e=>e
 |none=>match asked with
  |false=>0
  |true=>match n.uO wanted with
   |some e=>e
   |none=>0
theorem sO(p:Int->Bool)(many:Int)(l:List Int):∀(r k:Nat)(e:Int),mX p many l r k=some e->e≠0
 |0,_,_,h=>by cases h
 |r+1,k,e,h=>by
  unfold mX at h;split at h
  .cases h;decide
  split at h
  .cases h;decide
  split at h
  .cases h;decide
  exact sO p many l r (k+1) e h
def sP(_many:Nat)(blanks:List Int)(k:Nat):List D:=(List.range 12).map λi=>if i<k then D.bool (!(dB blanks i))else D.ff
theorem C2(many:Nat)(blanks:List Int)(k:Nat):(sP many blanks k).length=12:=by simp[sP]
theorem mF{l:List D}{k:Nat}{x:D}(h:k<l.length):cd l k [x]=l.set k x:=by
 unfold cd;rw[List.set_eq_take_append_cons_drop,if_pos h];rfl
theorem IF{many:Nat}{blanks:List Int}{k:Nat}(hk:k<12):cd (sP many blanks k) k [D.bool (!(dB blanks k))]=sP many blanks (k+1):=by
 rw[mF (by rw[C2];exact hk)];apply List.ext_getElem?;intro i;unfold sP;rw[List.getElem?_set];simp only[List.getElem?_map,List.length_map,List.length_range];by_cases e:k=i
 .subst e
  rw[if_pos rfl,if_pos hk];simp[hk]
 rw[if_neg e];by_cases hi:i<12
 .simp only[List.getElem?_range hi,Option.map_some]
  by_cases h2:i<k
  .rw[if_pos h2,if_pos (by omega)]
  rw[if_neg h2,if_neg (by omega)]
 simp[hi]
theorem AA{a b c d:D}{l:List D}{k:Nat}{x:D}:cd (a::b::c::d::l) (4+k) [x]=a::b::c::d::cd l k [x]:=by
 unfold cd;rw[show 4+k=k+1+1+1+1 by omega];simp only[List.take_succ_cons,List.cons_append,List.length_cons,List.length_nil];rw[show k+1+1+1+1+(0+1)=(k+(0+1))+1+1+1+1 by omega];rfl
theorem Mr{bs:List af}{m:Nat}{many:Nat}{blanks:List Int}:bY (reify bs (m+1)) (sP many blanks many)=some (((List.range 12).map (Uu many blanks)).map D.bool):=by
 unfold sP;have:∀l:List Nat,bY (reify bs (m+1)) (l.map λi=>if i<many then D.bool (!(dB blanks i))else D.ff)=some ((l.map (Uu many blanks)).map D.bool):=by
  intro l
  induction l with
  |nil=>rfl
  |cons i l ih=>
   refine ag ?_ ih;unfold Uu;by_cases h:i<many
   .show reify bs (m+1) (if i<many then D.bool (!(dB blanks i))else D.ff)=some (D.bool (decide (i<many)&&!(dB blanks i)))
    rw[if_pos h,decide_eq_true h];rfl
   show reify bs (m+1) (if i<many then D.bool (!(dB blanks i))else D.ff)=some (D.bool (decide (i<many)&&!(dB blanks i)));rw[if_neg h,decide_eq_false h];rfl
 exact this _
theorem Nt.rD{n:Nt}{blanks wanted:List Int}{asked:Bool}(h:n.eZ blanks wanted asked=0):n.Ok/\n.gQ blanks=none/\(asked=true->n.uO wanted=none):=by
 unfold Nt.eZ at h;split at h
 .exact absurd h (by assumption)
 rename_i hc;refine⟨Nt.rC (by simpa using hc),?_⟩;cases hb:n.gQ blanks with
 |some e=>rw[hb]at h;exact absurd h (sO _ _ _ _ _ _ hb)
 |none=>
  rw[hb]at h;refine⟨rfl,λha=>?_⟩;subst ha;simp only at h;cases hw:n.uO wanted with
  |none=>rfl
  |some e=>
   rw[hw]at h;simp only at h;unfold Nt.uO at hw;split at hw
   .cases hw;cases h
   exact absurd h (sO _ _ _ _ _ _ hw)
theorem Nt.Ms{n:Nt}{blanks:List Int}(h:n.eZ blanks [] false=0):(n.look blanks []).Ok:=Nt.look_ok (Nt.rD h).1 blanks (λv hv=>by cases hv)
def Sub(X Y:Nat):Prop:=∀i,X.testBit i=true->Y.testBit i=true
theorem Sub.refl(X:Nat):Sub X X:=λ_ h=>h
theorem Sub.trans{X Y Z:Nat}(h:Sub X Y)(k:Sub Y Z):Sub X Z:=λi hi=>k i (h i hi)
theorem Sub.antisymm{X Y:Nat}(h:Sub X Y)(k:Sub Y X):X=Y:=by
 apply Nat.eq_of_testBit_eq;intro i;cases hx:X.testBit i with
 |true=>rw[h i hx]
 |false=>
  cases hy:Y.testBit i with
  |false=>rfl
  |true=>rw[k i hy]at hx;cases hx
def aR.XM(n:aR)(u v:Nat):Prop:=∃i p,n.ai[i]?=some p/\n.DB i=true/\((p.fr=u/\p.to=v)\/(p.fr=v/\p.to=u))
theorem aR.Mt{n:aR}{u v:Nat}(h:n.XM u v):n.XM v u:=by
 obtain⟨i,p,h1,h2,h3⟩:=h;exact⟨i,p,h1,h2,h3.symm⟩
theorem bP(a b i:Nat):(a|||b).testBit i=(a.testBit i||b.testBit i):=Nat.testBit_or ..
theorem GN(a b i:Nat):(a&&&b).testBit i=(a.testBit i&&b.testBit i):=Nat.testBit_and ..
def aR.II(n:aR)(b X:Nat):Prop:=∀u v,X.testBit u=true->b.testBit u=false->n.XM u v->X.testBit v=true
theorem aR.wU(n:aR)(f b k:Nat):n.mV f b (k+1)=match n.ai[k]? with
    |none=>n.mV f b k
    |some p=>if(!(n.DB k)||((n.mV f b k).testBit p.fr==(n.mV f b k).testBit p.to))=true then n.mV f b k else diff (n.mV f b k) (diff (n.mV f b k&&&(2^p.fr|||2^p.to)) b):=rfl
theorem aR.Mu(n:aR)(f b k:Nat):Sub (n.mV f b (k+1)) (n.mV f b k):=by
 intro i hi;rw[n.wU]at hi;cases hp:n.ai[k]? with
 |none=>rw[hp]at hi;exact hi
 |some p=>
  rw[hp]at hi;simp only at hi;split at hi
  .exact hi
  rw[iF,Bool.and_eq_true]at hi;exact hi.1
theorem aR.oV(n:aR)(f b:Nat){k:Nat}:∀{m:Nat},k<=m->Sub (n.mV f b m) (n.mV f b k)
 |0,h=>by
  obtain rfl:k=0:=by omega
  exact .refl _
 |m+1,h=>by
  by_cases e:k=m+1
  .subst e;exact .refl _
  exact(n.Mu f b m).trans (n.oV f b (m:=m) (by omega))
theorem aR.C3{n:aR}{b X:Nat}(hX:n.II b X){f:Nat}(hf:Sub X f):∀k,Sub X (n.mV f b k)
 |0=>hf
 |k+1=>by
  have ih:=aR.C3 hX hf k;intro i hi;rw[n.wU];cases hp:n.ai[k]? with
  |none=>exact ih i hi
  |some p=>
   simp only;split
   .exact ih i hi
   rename_i hc;rw[Bool.not_eq_true,Bool.or_eq_false_iff]at hc;obtain⟨ho,eh⟩:=hc;have ho:n.DB k=true:=by simpa using ho
   have ha:n.XM p.fr p.to:=⟨k,p,hp,ho,.inl ⟨rfl,rfl⟩⟩;rw[iF,iF,GN,bP,bL,bL,ih i hi];cases hb:b.testBit i with
   |true=>simp
   |false=>
    simp only[Bool.true_and,Bool.not_false,Bool.and_true,Bool.not_eq_true',Bool.or_eq_false_iff,decide_eq_false_iff_not];refine⟨λe=>?_,λe=>?_⟩
    .subst e
     rw[ih _ hi,ih _ (hX _ _ hi hb ha)]at eh;exact absurd eh (by decide)
    subst e;rw[ih _ hi,ih _ (hX _ _ hi hb (aR.Mt ha))]at eh;exact absurd eh (by decide)
theorem aR.IJ{n:aR}{f b:Nat}(h:n.sp f b=f):n.II b f:=by
 rintro u v hu hb⟨i,p,hp,ho,he⟩;have qp:i<n.ai.length:=(List.getElem?_eq_some_iff.1 hp).1;have e:∀k,k<=n.ai.length->n.mV f b k=f:=λk hk=>by
  have h1:=n.oV f b (k:=0) (m:=k) (Nat.zero_le _);have h2:=n.oV f b (k:=k) (m:=n.ai.length) hk;have h3:n.mV f b n.ai.length=f:=h;rw[h3]at h2;exact h1.antisymm h2
 have h4:=e (i+1) (by omega);rw[n.wU,hp,e i (by omega)]at h4;simp only at h4;cases hv:f.testBit v with
 |true=>rfl
 |false=>
  have eh:(f.testBit p.fr==f.testBit p.to)=false:=by rcases he with⟨rfl,rfl⟩|⟨rfl,rfl⟩<;>simp[hu,hv]
  rw[if_neg (by rw[ho,eh];decide)]at h4;have h5:(diff f (diff (f&&&(2^p.fr|||2^p.to)) b)).testBit u=true:=by rw[h4];exact hu
  rw[iF,iF,GN,bP,bL,bL,hu,hb]at h5;rcases he with⟨rfl,rfl⟩|⟨rfl,rfl⟩<;>simp at h5
theorem aR.tO(n:aR)(b:Nat):∀(r f:Nat),Sub (n.eO r f b) f
 |0,f=>.refl f
 |r+1,f=>by
  unfold aR.eO;split
  .exact .refl f
  exact(n.tO b r _).trans (n.oV f b (k:=0) (m:=n.ai.length) (Nat.zero_le _))
theorem aR.rE{n:aR}{b X:Nat}(hX:n.II b X):∀(r f:Nat),Sub X f->Sub X (n.eO r f b)
 |0,f,h=>h
 |r+1,f,h=>by
  unfold aR.eO;split
  .exact h
  exact aR.rE hX r _ (aR.C3 hX h _)
theorem aR.pJ{n:aR}{b:Nat}:∀(r f:Nat),f<r->n.sp (n.eO r f b) b=n.eO r f b
 |0,f,h=>by omega
 |r+1,f,h=>by
  unfold aR.eO;split
  .assumption
  rename_i eh;have h1:=n.wQ f b n.ai.length;have h2:n.mV f b n.ai.length≠f:=eh;exact aR.pJ r _ (by show n.mV f b n.ai.length<r;omega)
theorem aR.Fz(n:aR)(f b:Nat):Sub (n.spread f b) f:=n.tO b 128 f
theorem aR.xG{n:aR}{f:Nat}(hf:f<2^7)(b:Nat):n.II b (n.spread f b):=aR.IJ (aR.pJ 128 f (by omega))
theorem aR.C4{n:aR}{f b X:Nat}(hX:n.II b X)(h:Sub X f):Sub X (n.spread f b):=aR.rE hX 128 f h
theorem Nt.IK{n:Nt}{bl wt:List Int}{a:Bool}(h:n.eZ bl wt a=0):n.check.2.2=0:=by
 unfold Nt.eZ at h;split at h
 .exact absurd h (by assumption)
 rename_i hc;simpa using hc
theorem yF:∀(r i:Nat)(ts:List Tk),sM ts r i=none->i+r=ts.length->∀j x,i<=j->ts[j]?=some x->wR (ts.take j) x=0
 |0,i,ts,_,hi,j,x,hj,hx=>by have:=(List.getElem?_eq_some_iff.1 hx).1;omega
 |r+1,i,ts,h,hi,j,x,hj,hx=>by
  unfold sM at h;cases hy:ts[i]? with
  |none=>have:=List.getElem?_eq_none_iff.1 hy;omega
  |some y=>
   rw[hy]at h;simp only at h;split at h
   .by_cases e:j=i
    .subst e;rw[hy]at hx;cases hx;assumption
    exact yF r (i+1) ts h (by omega) j x (by omega) hx
   cases h
theorem Nt.names{n:Nt}(h:n.check.2.2=0)(i:Nat)(x:Tk)(hx:n.ad[i]?=some x):dH x.name=true/\((n.ad.take i).any λy=>bW y.name x.name)=false:=by
 unfold Nt.check at h;split at h
 .cases h
 cases hb:sM n.ad n.ad.length 0 with
 |some q=>rw[hb]at h;exact absurd h (wS _ _ _ _ _ hb)
 |none=>
  have:=sx (yF _ _ _ hb (by omega) i x (Nat.zero_le _) hx);rw[List.any_map]at this;exact this
theorem XQ{many a b:Int}(h0:0<=a/\a<many)(h1:0<=b/\b<many):DN 146 [.int .i64 many,.list 1 [[.int .i64 a],[.int .i64 b]]] (.bool false):=by
 have:=E1 [a,b] many (by simp);rw[show[a,b].any (cP many)=false by simp[uI h0.1 h0.2,uI h1.1 h1.2]]at this;exact this
theorem Tl{many a:Int}(h0:0<=a)(h1:a<many):DN 146 [.int .i64 many,.list 1 [[.int .i64 a]]] (.bool false):=by
 have:=E1 [a] many (by simp);rw[show[a].any (cP many)=false by simp[uI h0 h1]]at this;exact this
theorem Tm(y x:Tk):DN 273 [.agg y.enc,.ro x.enc] (.bool (bW y.name x.name)):=by
 refine dX Tryz.func273 Tryz.call273 rfl rfl ?_;rfl
theorem Tn(n:Nt)(h:n.check.2.2=0):DN 223 [.agg n.enc] (.b9 [.int .i64 0,.int .i64 0,.int .i64 0]):=by
 have ok:=Nt.rC h;have nn:=Mp n.ad;have kj:=Mq n.ai;have t1:=ok.t1;have t7:=ok.t7;have p12:=ok.p;have eh:(((n.ad.map Tk.enc).length:Int)==0)=false:=by rw[nn];exact beq_eq_false_iff_ne.2 (by omega)
 refine dX Tryz.func223 Tryz.call223 rfl rfl ?_;refine⟨λq=>nt (eh.symm.trans q),λ_=>?_⟩;refine⟨λq=>absurd (of_decide_eq_true q) (by rw[nn];omega),λ_=>?_⟩;refine⟨λq=>absurd (of_decide_eq_true q) (by rw[kj];omega),λ_=>?_⟩;refine⟨[1,26,27,28],1,[],λU=>∃i:Nat,i<=n.ad.length/\U=⟨[(1,.loc 0 0),(26,.list 2 (n.ad.map Tk.enc)),(27,.int .i64 (n.ad.map Tk.enc).length),(28,.int .i64 i)],[.flat false n.enc],.aQ⟩,
  λU=>(1000-aZ 28 U).toNat,rfl,⟨rfl,rfl⟩,⟨0,Nat.zero_le _,rfl⟩,?_⟩
 rintro U⟨i,hi,rfl⟩;refine⟨λh4=>?_,λh4=>?_⟩
 .have h4:=of_decide_eq_true h4
  rw[nn]at h4;have bC:i<n.ad.length:=by omega
  obtain⟨x,hx⟩:∃x,n.ad[i]?=some x:=⟨_,List.getElem?_eq_getElem bC⟩;have less:(1000-((i:Int)+1)).toNat<(1000-(i:Int)).toNat:=by omega
  obtain⟨US,Pr⟩:=Nt.names h i x hx;have P4:=GB x.name;rw[US]at P4;have XR:=Sc (k:=273) (cap:=[.ro x.enc]) ⟨λ_=>rfl,λ_=>rfl,λ_=>rfl⟩ (λy=>bW y.name x.name) (n.ad.take i) (by rw[List.length_take];omega) (λy _=>Tm y x);rw[Pr]at XR;refine⟨by omega,_,aV (e:=Tk.enc) hx,?_⟩;refine⟨_,rfl,_,P4,?_⟩;refine⟨nt,λ_=>?_⟩;refine⟨⟨by omega,by rw[nn];omega⟩,_,(List.map_take ..).symm,?_⟩;refine⟨_,rfl,_,XR,?_⟩;refine⟨nt,λ_=>?_⟩;refine⟨(i:Int)+1,wrap64 (by omega) (by omega),?_⟩;exact⟨⟨rfl,rfl⟩,⟨i+1,bC,rfl⟩,less⟩
 refine⟨[1,49,50,51],1,[],λU=>∃k:Nat,k<=n.ai.length/\U=⟨[(1,.loc 0 0),(49,.list 3 (n.ai.map Rp.enc)),(50,.int .i64 (n.ai.map Rp.enc).length),(51,.int .i64 k)],[.flat false n.enc],.aQ⟩,
  λU=>(1000-aZ 51 U).toNat,rfl,⟨rfl,rfl⟩,⟨0,Nat.zero_le _,rfl⟩,?_⟩
 rintro U⟨k,hk,rfl⟩;refine⟨λh7=>?_,λh7=>rfl⟩;have h7:=of_decide_eq_true h7;rw[kj]at h7;have bF:k<n.ai.length:=by omega
 obtain⟨x,hx⟩:∃x,n.ai[k]?=some x:=⟨_,List.getElem?_eq_getElem bF⟩;have less:(1000-((k:Int)+1)).toNat<(1000-(k:Int)).toNat:=by omega
 have hp:=ok.pe x (List.mem_of_getElem? hx);have abi:DN 146 [.int .i64 (n.ad.map Tk.enc).length,.list 1 [[.int .i64 x.fr],[.int .i64 x.to]]] (.bool false):=XQ (by rw[nn];omega) (by rw[nn];omega);have Jd:(x.fr==x.to)=false:=by simp;omega
 refine⟨by omega,_,aV (e:=Rp.enc) hx,?_⟩;refine⟨_,rfl,_,abi,?_⟩;refine⟨nt,λ_=>?_⟩;refine⟨λq=>nt (Jd.symm.trans q),λ_=>?_⟩;refine⟨(k:Int)+1,wrap64 (by omega) (by omega),?_⟩;exact⟨⟨rfl,rfl⟩,⟨k+1,bF,rfl⟩,less⟩
theorem OL{k:Nat}{cap:List D}(hc:Kp cap)(many:Int)(l:List Int)(hl:l.length<9223372036854775808)(ho:∀(i:Nat)(v:Int),l[i]?=some v->(0<=v/\v<many)/\∀u:Int,0<i->l[i-1]?=some u->u<v)(hd:∀v∈l,DN k (.int .i64 v::cap) (.bool false)):
    DP 225 [.list 1 (l.map aC),.int .i64 many,.bR (.func k) [] cap] none:=by
  refine NW (sh:=shN) (ish:=Ak) Tryz.tok Tryz.mixed Tryz.func225 Tryz.call225 rfl rfl ?_;have hlen:=bD aC l;refine⟨[0,1,2,8,9,10],0,[],λU=>∃i:Nat,i<=l.length/\
   U=⟨[(0,.list 1 (l.map aC)),(1,.int .i64 many),(2,.bR (.func k) [] cap),(8,.list 1 (l.map aC)),(9,.int .i64 (l.map aC).length),(10,.int .i64 i)],[],.aQ⟩,
   λU=>((l.length:Int)-aZ 10 U).toNat,rfl,⟨hc.tm6,rfl⟩,⟨0,Nat.zero_le _,rfl⟩,?_⟩
  rintro U⟨i,hi,rfl⟩;refine⟨λh1=>?_,λ_=>⟨rfl,rfl⟩⟩;have h1:=of_decide_eq_true h1;rw[hlen]at h1;have bC:i<l.length:=by omega
  obtain⟨v,hv⟩:∃v,l[i]?=some v:=⟨_,List.getElem?_eq_getElem bC⟩;have Ua:=ho i v hv;have Zi:=hd v (List.mem_of_getElem? hv);have less:=Ma bC;have hw:=Mb bC hl;refine⟨by omega,_,aV (e:=aC) hv,?_⟩;refine⟨_,rfl,_,Tl Ua.1.1 Ua.1.2,?_⟩;refine⟨nt,λ_=>?_⟩;refine⟨λh6=>?_,λh6=>?_⟩
  .have Rj:=wL (of_decide_eq_true h6) bC hl
   rcases Rj with⟨u,hu,hwu,qn⟩
   have JK:=Int.not_le.2 (Ua.2 u qn hu);refine⟨_,hwu,?_⟩;refine⟨Int.natCast_nonneg _,_,aV (e:=aC) hu,?_⟩;refine⟨λq=>absurd (of_decide_eq_true q) JK,λ_=>?_⟩;refine⟨_,ag rfl (hc.r8 _),_,Zi,?_⟩;refine⟨nt,λ_=>?_⟩;refine⟨_,hw,?_⟩;exact⟨⟨hc.tm6,rfl⟩,⟨i+1,bC,rfl⟩,less⟩
  refine⟨_,ag rfl (hc.r8 _),_,Zi,?_⟩;refine⟨nt,λ_=>?_⟩;refine⟨_,hw,?_⟩;exact⟨⟨hc.tm6,rfl⟩,⟨i+1,bC,rfl⟩,less⟩
theorem Tp(n:Nt)(i:Int)(h0:0<=i){p:Rp}(hp:n.ai[i.toNat]?=some p):DN 226 [.int .i64 i,.ro n.enc] (.bool p.gE):=by
 refine dX Tryz.func226 Tryz.call226 rfl rfl ?_;have aI:(n.ai.map Rp.enc)[i.toNat]?=some p.enc:=by rw[List.getElem?_map,hp];rfl
 exact⟨h0,_,aI,rfl⟩
theorem kM(nb many:Nat)(blanks:List Int)(k:Nat):da nb (sP many blanks k)=true:=by
 unfold sP;have:∀l:List Nat,da nb (l.map λi=>if i<k then D.bool (!(dB blanks i))else D.ff)=true:=by
  intro l
  induction l with
  |nil=>rfl
  |cons i l ih=>
   show(match en nb (if i<k then D.bool (!(dB blanks i))else D.ff)with|true=>da nb _|false=>false)=true;rw[ih];by_cases h:i<k
   .rw[if_pos h];rfl
   rw[if_neg h];rfl
 exact this _
theorem rF{c0:List D}(h0:da 4 c0=true){e:Int}{t p:List (List D)}{k w:Int}{O:List D}(hO:da 4 O=true):
    aS 4 [.flat false c0,.flat false [.loc 3 0],.flat false [.int .i64 e],.flat false (.list 2 t::.list 3 p::.int .u64 k::.int .u64 w::O)]=true:=by
  exact qZ h0 (qZ rfl (qZ rfl (qZ hO rfl)))
theorem Mv{n:Nt}(du:n.Ok){blanks wanted:List Int}:(n.look blanks wanted).enc=.list 2 (n.ad.map Tk.enc)::.list 3 (n.ai.map Rp.enc)::.int .u64 ((setOf n.ad.length n.tN:Nat):Int)::.int .u64 ((yD wanted wanted.length:Nat):Int)::((List.range 12).map (Uu n.ai.length blanks)).map D.bool:=by
 rw[<-Ti du];rfl
theorem Tq(n:Nt)(blanks:List Int)(mO:blanks.length<9223372036854775808)(hz:n.eZ blanks [] false=0):
    DN 142 [.agg n.enc,.list 1 (blanks.map aC),.list 0 [],.bool false] (.b9 [.ro (n.look blanks []).enc,.int .i64 0]):=by
  have hc:=Nt.IK hz;have du:=Nt.rC hc;have h7:=du.t7;have M1:=du.p;have kj:((n.ai.map Rp.enc).length:Int)=n.ai.length:=by simp
  have nn:((n.ad.map Tk.enc).length:Int)=n.ad.length:=by simp
  have hbe:=(Nt.rD hz).2.1;unfold Nt.gQ at hbe;have dv:=C1 _ _ _ _ _ hbe (by omega);have XS:=OL (k:=226) (cap:=[.ro n.enc]) ⟨λ_=>rfl,λ_=>rfl,λ_=>rfl⟩ ((n.ai.map Rp.enc).length:Int) blanks mO (λi v hv=>by
   have hi:=(List.getElem?_eq_some_iff.1 hv).1;have hq:=dv i (Nat.zero_le _) hi;have hd:Ax blanks i=v:=by unfold Ax;rw[hv]
   rw[hd]at hq;refine⟨by rw[kj];exact hq.1,λu h0 hu=>?_⟩;have hd2:Ax blanks (i-1)=u:=by unfold Ax;rw[hu]
   have:=hq.2.2 h0;rw[hd2]at this;exact this) (λv hv=>by
   obtain⟨i,hi,rfl⟩:=List.getElem_of_mem hv;have hq:=dv i (Nat.zero_le _) hi;rw[Ay hi]at hq;have hp:n.ai[(blanks[i]).toNat]?=some (n.ai[(blanks[i]).toNat]'(by omega)):=List.getElem?_eq_getElem (by omega);have XT:=Tp n blanks[i] hq.1.1 hp;have hw:=hq.2.1;unfold Nt.pI at hw;rw[hp]at hw;have hw:(n.ai[(blanks[i]).toNat]'(by omega)).gE=false:=hw;rw[hw]at XT;exact XT)
  refine iV (sh:=Y7) (ish:=Ak) (np:=4) (t3:=24) (k:=224) Tryz.tok Tryz.mixed Tryz.func142 rfl Tryz.call142 (by rfl) (by exact(show 4<=Tryz.f142.ntmps by decide)) (by rfl) rfl rfl rfl rfl rfl rfl rfl rfl (by decide) ?_;refine⟨_,rfl,_,Tn n hc,?_⟩;refine⟨λh=>absurd h (by decide),λ_=>?_⟩;refine⟨_,rfl,rfl,_,_,Fl _,?_⟩;refine⟨_,rfl,none,XS,λt e=>by cases e;rfl,?_⟩;refine⟨λh=>absurd h (by decide),λ_=>?_⟩;refine⟨[1,2,4,8,9,47,48],4,[],λU=>∃k:Nat,k<=n.ai.length/\
   U=⟨[(1,.list 1 (blanks.map aC)),(2,.list 0 []),(4,.loc 0 0),(8,.loc 1 0),(9,.loc 2 0),(47,.int .i64 (n.ai.map Rp.enc).length),(48,.int .i64 k)],
    [.flat false n.enc,.flat false [.loc 3 0],.flat false [.int .i64 0],.flat false (.list 2 (n.ad.map Tk.enc)::.list 3 (n.ai.map Rp.enc)::.int .u64 0::.int .u64 0::sP n.ai.length blanks k)],.aQ⟩,
   λU=>(1000-aZ 48 U).toNat,rfl,⟨rfl,rfl⟩,⟨0,Nat.zero_le _,rfl⟩,?_⟩
  rintro U⟨k,hk,rfl⟩;refine⟨λh2=>?_,λh2=>?_⟩
  .have h2:=of_decide_eq_true h2
   rw[kj]at h2;have bF:k<n.ai.length:=by omega
   have less:(1000-((k:Int)+1)).toNat<(1000-(k:Int)).toNat:=by omega
   refine Or.inl ⟨by kernel_rfl,?_⟩;refine⟨_,rfl,_,L5 blanks k mO,?_⟩;refine⟨⟨by omega,by omega⟩,k,Nat.mul_one k,?_⟩;refine⟨by simp only[List.length_cons,List.length_nil,C2];omega,_,(show cd (.list 2 (n.ad.map Tk.enc)::.list 3 (n.ai.map Rp.enc)::.int .u64 0::.int .u64 0::sP n.ai.length blanks k) (4+k) [D.bool (!(dB blanks k))]=_ by rw[AA,IF (by omega)]),?_⟩;refine⟨(k:Int)+1,wrap64 (by omega) (by omega),?_⟩;exact⟨⟨rfl,rF rfl (kM _ n.ai.length blanks _)⟩,⟨k+1,bF,rfl⟩,less⟩
  have h2:=of_decide_eq_false h2;rw[kj]at h2;obtain rfl:k=n.ai.length:=by omega
  refine⟨[2,4,8,9,62,63,64],4,[],λU=>∃i:Nat,i<=n.ad.length/\
   U=⟨[(2,.list 0 []),(4,.loc 0 0),(8,.loc 1 0),(9,.loc 2 0),(62,.list 2 (n.ad.map Tk.enc)),(63,.int .i64 (n.ad.map Tk.enc).length),(64,.int .i64 i)],
    [.flat false n.enc,.flat false [.loc 3 0],.flat false [.int .i64 0],.flat false (.list 2 (n.ad.map Tk.enc)::.list 3 (n.ai.map Rp.enc)::.int .u64 ((setOf i n.tN:Nat):Int)::.int .u64 0::sP n.ai.length blanks n.ai.length)],.aQ⟩,
   λU=>(1000-aZ 64 U).toNat,rfl,⟨rfl,rF rfl (kM _ n.ai.length blanks _)⟩,⟨0,Nat.zero_le _,rfl⟩,?_⟩
  rintro U⟨i,hi,rfl⟩;refine⟨λh3=>?_,λh3=>?_⟩
  .have h3:=of_decide_eq_true h3
   rw[nn]at h3;have bC:i<n.ad.length:=by omega
   have less:(1000-((i:Int)+1)).toNat<(1000-(i:Int)).toNat:=by omega
   obtain⟨t,ht⟩:∃t,n.ad[i]'bC=t:=⟨_,rfl⟩;have hgt:n.ad[i]?=some t:=by rw[List.getElem?_eq_getElem bC,ht]
   have aI:(n.ad.map Tk.enc)[((i:Int)).toNat]?=some t.enc:=by simp[bC,ht]
   have hkb:n.tN i=t.kept:=by unfold Nt.tN;rw[hgt]
   refine⟨by omega,_,aI,?_⟩;refine⟨λh4=>?_,λh4=>?_⟩
   .have h4:t.kept=true:=h4
    refine Or.inl ⟨by kernel_rfl,?_⟩;refine⟨_,rfl,_,sL i (by omega),?_⟩;refine⟨_,uM (Fu _ (by omega)) (Mk (by omega)),?_⟩;refine⟨(i:Int)+1,wrap64 (by omega) (by omega),?_⟩;exact⟨⟨rfl,rF rfl (kM _ n.ai.length blanks _)⟩,⟨i+1,bC,by rw[<-Ml (hkb.trans h4)];rfl⟩,less⟩
   have h4:t.kept=false:=h4;refine⟨(i:Int)+1,wrap64 (by omega) (by omega),?_⟩;exact⟨⟨rfl,rF rfl (kM _ n.ai.length blanks _)⟩,⟨i+1,bC,by rw[<-Fv (hkb.trans h4)];rfl⟩,less⟩
  have h3:=of_decide_eq_false h3;rw[nn]at h3;obtain rfl:i=n.ad.length:=by omega
  refine⟨[8,9,81,82,83],4,[],λU=>
   U=⟨[(8,.loc 1 0),(9,.loc 2 0),(81,.list 0 []),(82,.int .i64 0),(83,.int .i64 0)],
    [.flat false n.enc,.flat false [.loc 3 0],.flat false [.int .i64 0],.flat false (.list 2 (n.ad.map Tk.enc)::.list 3 (n.ai.map Rp.enc)::.int .u64 ((setOf n.ad.length n.tN:Nat):Int)::.int .u64 0::sP n.ai.length blanks n.ai.length)],.aQ⟩,
   λ_=>0,rfl,⟨rfl,rF rfl (kM _ n.ai.length blanks _)⟩,rfl,?_⟩
  rintro U rfl;refine⟨λh=>absurd h (by decide),λ_=>⟨trivial,?_⟩⟩;rw[Mv du];exact x7 (ag (x8 rfl (ag rfl (ag rfl (ag rfl (ag rfl (Mr (many:=n.ai.length) (blanks:=blanks))))))) (ag rfl rfl))
def aR.ct(n:aR):List Vs->Nat->Nat->Int×Nat×Nat
 |[],f,b=>(0,f,b)
 |x::r,f,b=>match cP n.ad.length x.eR with
  |true=>(4,f,b)
  |false=>match n.cE f b x.eR.toNat x.off with
   |(_,false)=>(2,f,b)
   |((f',b'),true)=>n.ct r f' b'
def Nt.gb(n:Nt)(blanks:List Int)(steps:List Vs):Int×Nat×Nat:=
 if n.eZ blanks [] false=0 then(if steps.length>60 then(3,0,0)else(n.look blanks []).ct steps 0 0)else(n.eZ blanks [] false,0,0)
def ou(x:Int×Nat×Nat):D:=if x.1=0 then .b9 [.agg [.list 1 ((ad x.2.1).map aC),.list 1 ((ad x.2.2).map aC)],.int .i64 0]else .b9 [.agg [.list 0 [],.list 0 []],.int .i64 x.1]
theorem kN{e:Int}{y:Nat×Nat}(h:¬e=0):ou (e,y)=.b9 [.agg [.list 0 [],.list 0 []],.int .i64 e]:=by unfold ou;rw[if_neg h]
theorem aR.yG{n:aR}{f b:Nat}(hf:f<2^7):n.spread f b<2^7:=by
 unfold aR.spread;have:∀r f,f<2^7->n.eO r f b<2^7:=by
  intro r
  induction r with
  |zero=>intro f hf;exact hf
  |succ r ih=>
   intro f hf;unfold aR.eO;split
   .exact hf
   exact ih _ (n.Fx hf _)
 exact this 128 f hf
theorem aR.C5{n:aR}{f b i:Nat}{off:Bool}(hf:f<2^7)(hb:b<2^7)(hi:i<7):(n.cE f b i off).1.1<2^7/\(n.cE f b i off).1.2<2^7:=by
 unfold aR.cE;split
 .exact⟨hf,hb⟩
 cases off with
 |true=>exact⟨n.yG hf,uN hb⟩
 |false=>exact⟨n.yG (pH hf (wO hi)),pH hb (wO hi)⟩
theorem XU(n:Nt)(blanks:List Int)(steps:List Vs)(mO:blanks.length<9223372036854775808)(hz:(n.gb blanks steps).1=0):DN 51 [.agg n.enc,.list 1 (blanks.map aC),.list 2 (steps.map Vs.enc)] (ou (n.gb blanks steps)):=by
 have qo:((steps.map Vs.enc).length:Int)=steps.length:=by simp
 have he:n.eZ blanks [] false=0:=by
  unfold Nt.gb at hz;split at hz
  .assumption
  exact hz
 have h55:=Tq n blanks mO he;have du:=Nt.Ms he;have T4:=(Nt.rD he).1;obtain⟨m,hm⟩:∃m,n.look blanks []=m:=⟨_,rfl⟩;have hR:n.gb blanks steps=if steps.length>60 then(3,0,0)else m.ct steps 0 0:=by unfold Nt.gb;rw[if_pos he,hm]
 rw[hm]at h55 du;have h7:=du.t7;refine mk Tryz.func51 Tryz.call51 rfl rfl ?_;refine⟨_,rfl,_,h55,?_⟩;refine⟨λh=>absurd h (by decide),λ_=>?_⟩;refine⟨λh1=>?_,λh1=>?_⟩
 .have h1:=of_decide_eq_true h1
  rw[qo]at h1;rw[if_pos (by omega)]at hR;rw[hR,kN (by decide)];rfl
 have h1:=of_decide_eq_false h1;rw[qo]at h1;rw[if_neg (by omega)]at hR;have nn:((m.ad.map Tk.enc).length:Int)=m.ad.length:=by simp
 refine⟨[6,8,10,31,32,33],3,[],λU=>∃i f b:Nat,i<=steps.length/\n.gb blanks steps=m.ct (steps.drop i) f b/\f<2^7/\b<2^7/\
  U=⟨[(6,.loc 1 0),(8,.ro m.enc),(10,.loc 2 0),(31,.list 2 (steps.map Vs.enc)),(32,.int .i64 (steps.map Vs.enc).length),(33,.int .i64 i)],[.flat false n.enc,.flat false [.ao,.ao],.flat false (Fw f b)],.aQ⟩,
  λU=>(1000-aZ 33 U).toNat,rfl,⟨rfl,rfl⟩,⟨0,0,0,Nat.zero_le _,hR,by decide,by decide,rfl⟩,?_⟩
 rintro U⟨i,f,b,hi,ov,hf,hb,rfl⟩;refine⟨λh2=>?_,λh2=>?_⟩
 rotate_left
 .have h2:=of_decide_eq_false h2
  rw[qo]at h2;rw[List.drop_of_length_le (by omega)]at ov;rw[ov];refine Or.inl ⟨by kernel_rfl,?_⟩;refine⟨_,rfl,_,Mm f (by omega),?_⟩;refine⟨_,rfl,_,Mm b (by omega),?_⟩;rfl
 have h2:=of_decide_eq_true h2;rw[qo]at h2;have bC:i<steps.length:=by omega
 have less:(1000-((i:Int)+1)).toNat<(1000-(i:Int)).toNat:=by omega
 obtain⟨x,hx⟩:∃x,steps[i]'bC=x:=⟨_,rfl⟩;have ea:steps.drop i=x::steps.drop (i+1):=by rw[List.drop_eq_getElem_cons bC,hx]
 have aI:(steps.map Vs.enc)[((i:Int)).toNat]?=some x.enc:=by simp[bC,hx]
 have cH:m.ct (steps.drop i) f b=match cP m.ad.length x.eR with
  |true=>(4,f,b)
  |false=>match m.cE f b x.eR.toNat x.off with
   |(_,false)=>(2,f,b)
   |((f',b'),true)=>m.ct (steps.drop (i+1)) f' b':=by rw[ea];rfl
 have h52:=E1 [x.eR] ((m.ad.map Tk.enc).length:Int) (by simp);have E4:[x.eR].any (cP ((m.ad.map Tk.enc).length:Int))=cP m.ad.length x.eR:=by rw[nn];simp
 rw[E4]at h52;refine⟨by omega,_,aI,?_⟩;refine Or.inl ⟨by kernel_rfl,?_⟩;refine⟨_,rfl,_,h52,?_⟩;refine⟨λh3=>?_,λh3=>?_⟩
 .have h3:cP m.ad.length x.eR=true:=h3
  rw[h3]at cH;have cH:m.ct (steps.drop i) f b=(4,f,b):=cH;rw[ov,cH,kN (by decide)];rfl
 have h3:cP m.ad.length x.eR=false:=h3;rw[h3]at cH;have cH:m.ct (steps.drop i) f b=match m.cE f b x.eR.toNat x.off with
     |(_,false)=>(2,f,b)
     |((f',b'),true)=>m.ct (steps.drop (i+1)) f' b':=cH
 have dv:=kJ h3;obtain⟨t,ht⟩:∃t:Nat,x.eR=t:=⟨x.eR.toNat,by omega⟩;have JS:x.eR.toNat=t:=by omega
 rw[JS]at cH;have Qk:=Mo m du f b t hf hb (by omega) x.off;have cG:=m.C5 (i:=t) (off:=x.off) hf hb (by omega);rw[<-ht]at Qk;obtain⟨⟨⟨f',b'⟩,XV⟩,dZ⟩:∃y,m.cE f b t x.off=y:=⟨_,rfl⟩;rw[dZ]at Qk cH cG;refine⟨_,rfl,_,Qk,?_⟩;cases XV with
 |false=>
  refine⟨λ_=>?_,λh=>(by cases h)⟩;have cH:m.ct (steps.drop i) f b=(2,f,b):=cH;rw[ov,cH,kN (by decide)];rfl
 |true=>
  refine⟨λh=>(by cases h),λ_=>?_⟩;have cH:m.ct (steps.drop i) f b=m.ct (steps.drop (i+1)) f' b':=cH;refine⟨(i:Int)+1,wrap64 (by omega) (by omega),?_⟩;exact⟨⟨rfl,rfl⟩,⟨i+1,f',b',bC,ov.trans cH,cG.1,cG.2,rfl⟩,less⟩
theorem IL{l:List Int}{v:Int}{i:Nat}(hi:i<l.length):(l.drop i).any (λx=>v==x)=(v==l[i]||(l.drop (i+1)).any (λx=>v==x)):=by
 rw[List.drop_eq_getElem_cons hi,List.any_cons]
theorem sQ(l:List Int)(v:Int)(hl:l.length<9223372036854775808):DN 259 [.list 1 (l.map aC),.int .i64 v] (.bool (dB l v)):=by
 refine mk Tryz.func259 Tryz.call259 rfl rfl ?_;have hlen:((l.map aC).length:Int)=l.length:=by simp
 refine⟨[0,1,5],0,[],λU=>∃i:Nat,i<=l.length/\dB l v=(l.drop i).any (λx=>v==x)/\U=⟨[(0,.list 1 (l.map aC)),(1,.int .i64 v),(5,.int .i64 i)],[],.aQ⟩,
  λU=>((l.length:Int)-aZ 5 U).toNat,rfl,⟨rfl,rfl⟩,⟨0,Nat.zero_le _,rfl,rfl⟩,?_⟩
 rintro U⟨i,bC,hf,rfl⟩;refine⟨λh1=>?_,λh1=>?_⟩
 .have h1:=of_decide_eq_true h1
  rw[hlen]at h1;have bC:i<l.length:=by omega
  rw[IL bC]at hf;refine⟨by omega,_,rn bC,?_⟩;refine⟨λh2=>?_,λh2=>?_⟩
  .have h2:(l[i]==v)=true:=h2
   have h2:(v==l[i])=true:=by simp at h2⊢;exact h2.symm
   rw[h2]at hf;show some (D.bool true)=some (D.bool _);rw[hf];rfl
  have h2:(l[i]==v)=false:=h2;have h2:(v==l[i])=false:=by simp at h2⊢;exactλh=>h2 h.symm
  rw[h2,Bool.false_or]at hf;refine⟨(i:Int)+1,wrap64 (by omega) (by omega),?_⟩;refine⟨⟨rfl,rfl⟩,⟨i+1,bC,hf,rfl⟩,?_⟩;show((l.length:Int)-((i:Int)+1)).toNat<((l.length:Int)-(i:Int)).toNat;omega
 have h1:=of_decide_eq_false h1;rw[hlen]at h1;show some (D.bool false)=some (D.bool _);rw[hf,List.drop_of_length_le (by omega)];rfl
theorem IM{n:Nt}{v:Int}{p:Rp}(hp:n.ai[v.toNat]?=some p):n.pI v=p.gE:=by unfold Nt.pI;rw[hp]
theorem Tr(n:Nt)(bl:List Int)(hl:bl.length<9223372036854775808):DN 110 [.agg n.enc,.list 1 (bl.map aC)] (.int .i64 (n.eZ bl [] false)):=by
 refine mk Tryz.func110 Tryz.call110 rfl rfl ?_;have hlen:((bl.map aC).length:Int)=bl.length:=by simp
 have kj:((n.ai.map Rp.enc).length:Int)=n.ai.length:=by simp
 refine⟨_,rfl,_,Th n,?_⟩;refine⟨[1,2,7,8],1,[],λU=>∃(i:Nat)(e:Int),i<=bl.length/\(e=0->n.check.2.2=0/\n.gQ bl=mX n.pI n.ai.length bl (bl.length-i) i)/\(e≠0->n.eZ bl [] false=e)/\
  U=⟨[(1,.list 1 (bl.map aC)),(2,.loc 0 0),(7,.int .i64 e),(8,.int .i64 i)],[.flat false n.enc],.aQ⟩,
  λU=>((bl.length:Int)-aZ 8 U).toNat,rfl,⟨rfl,rfl⟩,⟨0,n.check.2.2,Nat.zero_le _,λh=>⟨h,rfl⟩,λh=>by unfold Nt.eZ;rw[if_pos h],rfl⟩,?_⟩
 rintro U⟨i,e,hi,xX,Y0,rfl⟩;refine⟨λh1=>?_,λh1=>?_⟩
 rotate_left
 .have h1:=of_decide_eq_false h1
  rw[hlen]at h1;show some (D.int .i64 e)=some (D.int .i64 _);by_cases h:e=0
  .obtain⟨h2,h3⟩:=xX h
   rw[show bl.length-i=0 by omega]at h3;have:n.eZ bl [] false=0:=by unfold Nt.eZ;rw[if_neg (by simpa using h2),h3];rfl
   rw[this,h]
  rw[Y0 h]
 have h1:=of_decide_eq_true h1;rw[hlen]at h1;have bC:i<bl.length:=by omega
 refine⟨λh2=>?_,λh2=>?_⟩
 rotate_left
 .have h2:(e==0)=false:=h2
  show some (D.int .i64 e)=some (D.int .i64 _);rw[Y0 (by simpa using h2)]
 have h2:(e==0)=true:=h2;obtain rfl:e=0:=by simpa using h2
 obtain⟨hc,ov⟩:=xX rfl;have du:=Nt.rC hc;have M1:=du.p;have less:((bl.length:Int)-((i:Int)+1)).toNat<((bl.length:Int)-(i:Int)).toNat:=by omega
 obtain⟨v,hv⟩:∃v,bl[i]'bC=v:=⟨_,rfl⟩;have aI:=rn bC;rw[hv]at aI;have Zi:Ax bl i=v:=by rw[Ay bC,hv]
 have cH:n.gQ bl=if cP n.ai.length v=true then some 4 else if 0<i/\v<=Ax bl (i-1)then some 2 else if n.pI v=true then some 9 else mX n.pI n.ai.length bl (bl.length-(i+1)) (i+1):=by
  rw[ov,show bl.length-i=(bl.length-(i+1))+1 by omega,<-Zi];rfl
 have bad:∀e':Int,n.gQ bl=some e'->n.eZ bl [] false=e':=λe' h=>by unfold Nt.eZ;rw[if_neg (by simpa using hc),h]
 have go:∀e':Int,e'≠0->n.gQ bl=some e'->∀(e0:e'=0),n.check.2.2=0/\n.gQ bl=mX n.pI n.ai.length bl (bl.length-(i+1)) (i+1):=λe' h _ h0=>absurd h0 h;have h54:DN 111 [.int .i64 v,.int .i64 ((n.ai.map Rp.enc).length:Int)] (.bool (!(cP n.ai.length v))):=by
  have h:=Az v ((n.ai.map Rp.enc).length:Int);rw[show cP ((n.ai.map Rp.enc).length:Int) v=cP n.ai.length v by rw[kj]]at h;exact h
 refine Or.inl ⟨by kernel_rfl,?_⟩;refine⟨by omega,_,aI,?_⟩;refine⟨_,rfl,_,h54,?_⟩;refine⟨λh3=>?_,λh3=>?_⟩
 .have h3:(!(!(cP n.ai.length v)))=true:=h3
  rw[Bool.not_not]at h3;rw[if_pos h3]at cH;refine⟨(i:Int)+1,wrap64 (by omega) (by omega),?_⟩;exact⟨⟨rfl,rfl⟩,⟨i+1,4,bC,go 4 (by decide) cH,λ_=>bad 4 cH,rfl⟩,less⟩
 have h3:(!(!(cP n.ai.length v)))=false:=h3;rw[Bool.not_not]at h3;rw[if_neg (by rw[h3];decide)]at cH;obtain⟨Ub,xn⟩:=kJ h3;have T1:v.toNat<n.ai.length:=by omega
 obtain⟨p,hp⟩:∃p,n.ai[v.toNat]?=some p:=⟨_,List.getElem?_eq_getElem T1⟩;have pK:(n.ai.map Rp.enc)[v.toNat]?=some p.enc:=by rw[List.getElem?_map,hp];rfl
 have hw:=IM (n:=n) hp;rw[hw]at cH;have tail:∀(cH:n.gQ bl=if p.gE=true then some 9 else mX n.pI n.ai.length bl (bl.length-(i+1)) (i+1))(w:Bool),p.gE=w->(w=true->n.gQ bl=some 9)/\(w=false->n.gQ bl=mX n.pI n.ai.length bl (bl.length-(i+1)) (i+1)):=by
  intro h w hw;rw[hw]at h;refine⟨λe=>?_,λe=>?_⟩
  .subst e;exact h
  subst e;exact h
 refine Or.inl ⟨by kernel_rfl,?_⟩;refine⟨λh4=>?_,λh4=>?_⟩
 .have h4:(i:Int)>0:=of_decide_eq_true h4
  refine⟨by omega,_,aI,?_⟩;have Mw:=rn (l:=bl) (i:=i-1) (by omega);rw[<-Ay (by omega)]at Mw;have ek:((i:Int)-1)=((i-1:Nat):Int):=by omega
  rw[<-ek]at Mw;refine⟨(i:Int)-1,wrap64 (by omega) (by omega),?_⟩;refine⟨by omega,_,Mw,?_⟩;refine⟨λh5=>?_,λh5=>?_⟩
  .have h5:v<=Ax bl (i-1):=of_decide_eq_true h5
   rw[if_pos ⟨by omega,h5⟩]at cH;refine⟨(i:Int)+1,wrap64 (by omega) (by omega),?_⟩;exact⟨⟨rfl,rfl⟩,⟨i+1,2,bC,go 2 (by decide) cH,λ_=>bad 2 cH,rfl⟩,less⟩
  have h5:¬v<=Ax bl (i-1):=of_decide_eq_false h5;rw[if_neg (λc=>h5 c.2)]at cH;refine Or.inl ⟨by kernel_rfl,?_⟩;refine⟨by omega,_,aI,?_⟩;refine⟨Ub,_,pK,?_⟩;refine⟨λh6=>?_,λh6=>?_⟩
  .have h6:p.gE=true:=h6
   refine⟨(i:Int)+1,wrap64 (by omega) (by omega),?_⟩;exact⟨⟨rfl,rfl⟩,⟨i+1,9,bC,go 9 (by decide) ((tail cH _ h6).1 rfl),λ_=>bad 9 ((tail cH _ h6).1 rfl),rfl⟩,less⟩
  have h6:p.gE=false:=h6;refine⟨(i:Int)+1,wrap64 (by omega) (by omega),?_⟩;exact⟨⟨rfl,rfl⟩,⟨i+1,0,bC,λ_=>⟨hc,(tail cH _ h6).2 rfl⟩,λh=>absurd rfl h,rfl⟩,less⟩
 have h4:¬(i:Int)>0:=of_decide_eq_false h4;rw[if_neg (λc=>h4 (by omega))]at cH;refine Or.inl ⟨by kernel_rfl,?_⟩;refine⟨by omega,_,aI,?_⟩;refine⟨Ub,_,pK,?_⟩;refine⟨λh6=>?_,λh6=>?_⟩
 .have h6:p.gE=true:=h6
  refine⟨(i:Int)+1,wrap64 (by omega) (by omega),?_⟩;exact⟨⟨rfl,rfl⟩,⟨i+1,9,bC,go 9 (by decide) ((tail cH _ h6).1 rfl),λ_=>bad 9 ((tail cH _ h6).1 rfl),rfl⟩,less⟩
 have h6:p.gE=false:=h6;refine⟨(i:Int)+1,wrap64 (by omega) (by omega),?_⟩;exact⟨⟨rfl,rfl⟩,⟨i+1,0,bC,λ_=>⟨hc,(tail cH _ h6).2 rfl⟩,λh=>absurd rfl h,rfl⟩,less⟩
def o6:Nat->Nat->Nat
 |0,_=>0
 |m+1,s=>o6 m s+(if s.testBit m=true then 0 else 1)
theorem GO{s s':Nat}(h:Sub s s'):∀m,o6 m s'<=o6 m s
 |0=>Nat.le_refl _
 |m+1=>by
  have ih:=GO h m;simp only[o6];cases hs:s.testBit m with
  |true=>rw[h m hs];simpa using ih
  |false=>split<;>simp<;>omega
theorem gw{s s':Nat}(h:Sub s s'){i:Nat}(h1:s.testBit i=false)(h2:s'.testBit i=true):∀m,i<m->o6 m s'<o6 m s
 |0,hi=>by omega
 |m+1,hi=>by
  simp only[o6];by_cases e:i=m
  .subst e
   have:=GO h i;rw[if_pos h2,if_neg (by rw[h1];decide)];omega
  have ih:=gw h h1 h2 m (by omega);cases hs:s.testBit m with
  |true=>rw[h m hs];simpa using ih
  |false=>split<;>simp<;>omega
theorem yH(n:Nt)(bl wt:List Int)(i:Nat):(n.look bl wt).ai[i]?=(n.ai[i]?).map Rp.pp:=by simp[Nt.look]
theorem GP{n:Nt}{bl wt:List Int}(M1:n.ai.length<=12)(i:Nat):(n.look bl wt).DB i=(decide (i<n.ai.length)&&!(dB bl i)):=by
 unfold aR.DB Nt.look;by_cases hi:i<12
 .simp[hi,Uu]
 simp[hi,show¬i<n.ai.length by omega]
theorem wV{n:Nt}(h:n.Ok)(bl wt:List Int){u v:Nat}:(n.look bl wt).XM u v↔∃i p,n.ai[i]?=some p/\dB bl (i:Nat)=false/\(p.fr.toNat=u/\p.to.toNat=v\/p.fr.toNat=v/\p.to.toNat=u):=by
 constructor
 .rintro⟨i,q,hq,ho,he⟩
  rw[yH]at hq;cases hp:n.ai[i]? with
  |none=>rw[hp]at hq;cases hq
  |some p=>
   rw[hp]at hq;cases hq;rw[GP h.p]at ho;simp only[Bool.and_eq_true,Bool.not_eq_true']at ho;exact⟨i,p,hp,ho.2,he⟩
 rintro⟨i,p,hp,ho,he⟩;refine⟨i,p.pp,by rw[yH,hp];rfl,?_,he⟩;rw[GP h.p,ho];have:=(List.getElem?_eq_some_iff.1 hp).1;simp[this]
def gf(f:Nat):List D:=(List.range 7).map λi=>D.bool (f.testBit i)
theorem IN{f i:Nat}(h:i<7):(gf f)[0+i]?=some (.bool (f.testBit i)):=by
 rw[Nat.zero_add];simp[gf,h]
def l4(f k:Nat):List Int:=((List.range k).filter λi=>f.testBit i).map λi=>((i:Nat):Int)
theorem FA{f k:Nat}:l4 f (k+1)=if f.testBit k=true then l4 f k++[(k:Int)]else l4 f k:=by
 unfold l4;rw[List.range_succ,List.filter_append,List.map_append];cases h:f.testBit k<;>simp[h]
theorem IP(f k:Nat):(l4 f k).length<=k:=by
 unfold l4;rw[List.length_map];exact Nat.le_trans (List.length_filter_le _ _) (by simp)
theorem AB(f:Nat):DN 113 [.agg (gf f)] (.list 1 ((ad f).map aC)):=by
 refine mk Tryz.func113 Tryz.call113 rfl rfl ?_;refine⟨[1,3,4],1,[(.slot 3,1)],λU=>∃(i g:Nat),i<=7/\
  U=⟨[(1,.loc 0 0),(3,.sl 1 g 0 ((l4 f i).map aC).length),(4,.int .i64 i)],[.flat false (gf f),.rows false g 1 ((l4 f i).map aC)],.aQ⟩,
  λU=>(1000-aZ 4 U).toNat,rfl,⟨rfl,rfl⟩,⟨0,0,Nat.zero_le _,rfl⟩,?_⟩
 rintro U⟨i,g,hi,rfl⟩;refine⟨λq1=>?_,λq1=>?_⟩
 rotate_left
 .have q1:¬(i:Int)<7:=of_decide_eq_false q1
  obtain rfl:i=7:=by omega
  have hr:reify [af.flat false (gf f),af.rows false g 1 ((l4 f 7).map aC)] 8 (.sl 1 g 0 ((l4 f 7).map aC).length)=some (.list 1 ((l4 f 7).map aC)):=ga rfl rfl;exact hr
 have q1:(i:Int)<7:=of_decide_eq_true q1;have less:(1000-((i:Int)+1)).toNat<(1000-(i:Int)).toNat:=by omega
 have y8:=IP f i;have cH:=FA (f:=f) (k:=i);refine⟨⟨by omega,by omega⟩,i,Nat.mul_one _,?_⟩;refine⟨_,IN (by omega),?_⟩;refine⟨λq2=>?_,λq2=>?_⟩
 .have q2:f.testBit i=true:=q2
  rw[if_pos q2]at cH;have p8:(l4 f i).map aC++[[D.int .i64 i]]=(l4 f (i+1)).map aC:=by rw[cH,List.map_append];rfl
  refine⟨trivial,cA (by rw[aG];rfl) ⟨Nat.le_of_eq (Nat.zero_add _),?_,_,ij rfl,_,p8,?_⟩⟩
  .rw[List.length_map];show(_+1)*8<=ay;unfold ay;omega
  refine⟨(i:Int)+1,wrap64 (by omega) (by omega),?_⟩;exact⟨⟨rfl,rfl⟩,⟨i+1,g+1,by omega,rfl⟩,less⟩
 have q2:f.testBit i=false:=q2;rw[if_neg (by rw[q2];decide)]at cH;refine⟨(i:Int)+1,wrap64 (by omega) (by omega),?_⟩;exact⟨⟨rfl,rfl⟩,⟨i+1,g,by omega,by rw[cH];rfl⟩,less⟩
theorem OM{b v:Nat}:∀j,(diff b (2^v)).testBit j=if j=v then false else b.testBit j:=λj=>by
 rw[iF,bL];by_cases e:j=v
 .simp[e]
 simp[e]
theorem XW{b v:Nat}:∀j,(b|||2^v).testBit j=if j=v then true else b.testBit j:=λj=>by
 rw[bP,bL];by_cases e:j=v
 .simp[e]
 simp[e]
def kO(c f i:Nat):D:=match c.testBit i with|true=>.ff|false=>.bool (f.testBit i)
def yI(c f:Nat):List D:=(List.range 7).map (kO c f)
def pL(c f b:Nat):List D:=yI c f++gf b
def C6(f b:Nat):List D:=gf f++gf b
theorem oW(c f:Nat):(yI c f).length=7:=rfl
theorem sR(f:Nat):(gf f).length=7:=rfl
theorem gx(c f b:Nat):(pL c f b).length=14:=rfl
theorem GQ{c f b i:Nat}(h:i<7):(pL c f b)[0+i]?=some (kO c f i):=by
 rw[Nat.zero_add];unfold pL;rw[List.getElem?_append_left (by rw[oW];exact h)];simp[yI,h]
theorem C7{c f b i:Nat}(h:i<7):(pL c f b)[7+i]?=some (.bool (b.testBit i)):=by
 unfold pL;rw[List.getElem?_append_right (by rw[oW];omega),oW,show 7+i-7=i by omega];simp[gf,h]
theorem fJ{c f b i:Nat}(h:i<7)(hc:c.testBit i=true):(pL c f b)[0+i]?=some .ff:=by rw[GQ h];unfold kO;rw[hc]
theorem b6{c f b i:Nat}{v:Bool}(h:i<7)(hc:c.testBit i=false)(hf:f.testBit i=v):(pL c f b)[0+i]?=some (.bool v):=by rw[GQ h];unfold kO;rw[hc,hf]
theorem b5{c f b i:Nat}{v:Bool}(h:i<7)(hb:b.testBit i=v):(pL c f b)[7+i]?=some (.bool v):=by rw[C7 h,hb]
theorem gR{c f b i:Nat}(h:i<7):cd (pL c f b) (0+i) [.ff]=pL (c|||2^i) f b:=by
 rw[Nat.zero_add,mF (by rw[gx];omega)];unfold pL;rw[List.set_append_left (h:=by rw[oW];exact h)];congr 1;apply List.ext_getElem?;intro j;rw[List.getElem?_set];simp only[yI,List.getElem?_map,List.length_map,List.length_range];by_cases e:i=j
 .subst e
  rw[if_pos rfl,if_pos h];simp[h,kO,Nat.testBit_or]
 rw[if_neg e];by_cases hj:j<7
 .simp only[List.getElem?_range hj,Option.map_some,kO,Nat.testBit_or,bL]
  rw[show decide (j=i)=false from decide_eq_false (λh=>e h.symm),Bool.or_false]
 simp[hj]
theorem C8(f b:Nat):pL 0 f b=C6 f b:=by
 unfold pL C6 yI gf;congr 1
theorem Mx(nb c f b:Nat):da nb (pL c f b)=true:=by
 have h:∀l:List Nat,da nb (l.map (kO c f)++gf b)=true:=by
  intro l
  induction l with
  |nil=>rfl
  |cons i l ih=>
   show(match en nb (kO c f i)with|true=>da nb (l.map (kO c f)++gf b)|false=>false)=true;rw[ih];unfold kO;cases c.testBit i<;>rfl
 exact h _
theorem FC{bs:List af}{m c f F i:Nat}(h:F.testBit i=(f.testBit i&&!(c.testBit i))):reify bs (m+1) (kO c f i)=some (.bool (F.testBit i)):=by
 unfold kO;rw[h];cases c.testBit i with
 |true=>rw[Bool.not_true,Bool.and_false];rfl
 |false=>rw[Bool.not_false,Bool.and_true];rfl
theorem My{bs:List af}{m c f b F:Nat}(h:∀i,F.testBit i=(f.testBit i&&!(c.testBit i))):bY (reify bs (m+1)) (pL c f b)=some (C6 F b):=by
 have h1:∀(l:List Nat),bY (reify bs (m+1)) (l.map (kO c f)++gf b)=some (l.map (λi=>D.bool (F.testBit i))++gf b):=by
  intro l
  induction l with
  |nil=>rfl
  |cons i l ih=>exact ag (FC (h i)) ih
 exact h1 _
def iG:List D->Nat
 |[]=>0
 |.ff::r=>iG r
 |_::r=>iG r+1
theorem wW(d:D)(r:List D):iG (d::r)=iG [d]+iG r:=by
 cases d<;>simp[iG]<;>omega
theorem sS:∀(a b:List D),iG (a++b)=iG a+iG b
 |[],b=>by simp[iG]
 |d::a,b=>by rw[List.cons_append,wW,wW d a,sS a b];omega
theorem wY:∀(m c f:Nat),iG ((List.range m).map (kO c f))=o6 m c
 |0,c,f=>rfl
 |m+1,c,f=>by
  rw[List.range_succ,List.map_append,sS,wY m c f];simp only[o6,List.map_singleton];unfold kO;cases c.testBit m<;>simp[iG]
theorem C9(c f b:Nat):iG (pL c f b)=o6 7 c+7:=by
 unfold pL;rw[sS];have h1:=wY 7 c f;have h2:iG (gf b)=7:=rfl;unfold yI;omega
def muS(U:St):Nat:=(match U.boxes[(1:Nat)]? with|some (af.flat _ cs)=>2*iG cs|_=>0)+(match Go.V.look U.tmps 7 with|some .tt=>1|_=>0)
def GR(n:Nt)(bl:List Int)(b X:Nat):Prop:=∀i p,n.ai[i]?=some p->dB bl (i:Nat)=false->
 (X.testBit p.to.toNat=true->b.testBit p.to.toNat=false->X.testBit p.fr.toNat=true)/\(X.testBit p.fr.toNat=true->b.testBit p.fr.toNat=false->X.testBit p.to.toNat=true)
structure Sp(n:Nt)(bl:List Int)(f b g:Nat):Prop where
 sub:Sub g f
 shut:GR n bl b g
 abj:∀X,Sub X f->GR n bl b X->Sub X g
theorem yJ{n:Nt}(hn:n.Ok)(bl wt:List Int){b X:Nat}:(n.look bl wt).II b X↔GR n bl b X:=by
 constructor
 .intro h i p hp ho
  exact⟨λh1 h2=>h _ _ h1 h2 ((wV hn bl wt).2 ⟨i,p,hp,ho,.inr ⟨rfl,rfl⟩⟩),λh1 h2=>h _ _ h1 h2 ((wV hn bl wt).2 ⟨i,p,hp,ho,.inl ⟨rfl,rfl⟩⟩)⟩
 intro h u v hu hb ha;obtain⟨i,p,hp,ho,he⟩:=(wV hn bl wt).1 ha;obtain⟨h1,h2⟩:=h i p hp ho;rcases he with⟨rfl,rfl⟩|⟨rfl,rfl⟩
 .exact h2 hu hb
 exact h1 hu hb
theorem yK{n:Nt}(hn:n.Ok)(bl wt:List Int){f b:Nat}(hf:f<2^7):Sp n bl f b ((n.look bl wt).spread f b):=
 ⟨aR.Fz _ f b,(yJ hn bl wt).1 (aR.xG hf b),λ_X h1 h2=>aR.C4 ((yJ hn bl wt).2 h2) h1⟩
theorem aH{nb:Nat}{e:List D}{c f b:Nat}{z:List D}(he:da nb e=true)(hz:da nb z=true):aS nb [.flat false e,.flat false (pL c f b),.flat false z]=true:=by
 simp[aS,he,hz,Mx]
theorem Mz(n:Nt)(hn:n.Ok)(bl:List Int)(mO:bl.length<9223372036854775808)(f b g:Nat)(hg:Sp n bl f b g):
    DN 199 [.agg n.enc,.list 1 (bl.map aC),.agg (C6 f b)] (.agg (C6 g b)):=by
  have h7:=hn.t7;have M1:=hn.p;have kj:((n.ai.map Rp.enc).length:Int)=n.ai.length:=by simp
  rw[<-C8 f b];have hF:∀c i,(diff f c).testBit i=(f.testBit i&&!(c.testBit i)):=λc i=>iF f c i;refine mk Tryz.func199 Tryz.call199 rfl rfl ?_;refine⟨[1,3,5,6,7],3,[],λU=>∃c:Nat,Sub g (diff f c)/\
   (U=⟨[(1,.list 1 (bl.map aC)),(3,.loc 0 0),(5,.loc 1 0),(6,.loc 2 0),(7,.tt)],[.flat false n.enc,.flat false (pL c f b),.flat false [.ff,.ff,.ff,.ff,.ff,.ff,.ff,.ff,.ff,.ff,.ff,.ff,.ff,.ff]],.aQ⟩\/
    GR n bl b (diff f c)/\U=⟨[(1,.list 1 (bl.map aC)),(3,.loc 0 0),(5,.loc 1 0),(6,.loc 2 0),(7,.ff)],[.flat false n.enc,.flat false (pL c f b),.flat false [.ff,.ff,.ff,.ff,.ff,.ff,.ff,.ff,.ff,.ff,.ff,.ff,.ff,.ff]],.aQ⟩),
   muS,rfl,⟨rfl,aH rfl rfl⟩,⟨0,λi hi=>by rw[hF,Nat.zero_testBit,hg.sub i hi];rfl,.inl rfl⟩,?_⟩
  rintro U⟨c,hgc,rfl|⟨lL,rfl⟩⟩
  rotate_left
  .have e:g=diff f c:=hgc.antisymm (hg.abj _ (λi hi=>by rw[hF]at hi;simp at hi;exact hi.1) lL)
   have hm:bY (reify ([.flat false n.enc,.flat false (pL c f b),.flat false (pL c f b)]:List af) 7) (pL c f b)=some (C6 g b):=My (λi=>by rw[e];exact hF c i);exact ej hm
  refine⟨[1,3,5,6,7,8],3,[],λU=>∃(i c1:Nat),i<=n.ai.length/\Sub g (diff f c1)/\
   ((o6 7 c1<o6 7 c/\U=⟨[(1,.list 1 (bl.map aC)),(3,.loc 0 0),(5,.loc 1 0),(6,.loc 2 0),(7,.tt),(8,.int .i64 i)],[.flat false n.enc,.flat false (pL c1 f b),.flat false [.ff,.ff,.ff,.ff,.ff,.ff,.ff,.ff,.ff,.ff,.ff,.ff,.ff,.ff]],.aQ⟩)\/
    (c1=c/\(∀i' q,i'<i->n.ai[i']?=some q->dB bl (i':Nat)=false->((diff f c).testBit q.to.toNat=true->b.testBit q.to.toNat=false->(diff f c).testBit q.fr.toNat=true)/\((diff f c).testBit q.fr.toNat=true->b.testBit q.fr.toNat=false->(diff f c).testBit q.to.toNat=true))/\U=⟨[(1,.list 1 (bl.map aC)),(3,.loc 0 0),(5,.loc 1 0),(6,.loc 2 0),(7,.ff),(8,.int .i64 i)],[.flat false n.enc,.flat false (pL c1 f b),.flat false [.ff,.ff,.ff,.ff,.ff,.ff,.ff,.ff,.ff,.ff,.ff,.ff,.ff,.ff]],.aQ⟩)),
   λU=>(1000-aZ 8 U).toNat,rfl,⟨rfl,aH rfl rfl⟩,⟨0,c,Nat.zero_le _,hgc,.inr ⟨rfl,λi' q h=>absurd h (Nat.not_lt_zero _),rfl⟩⟩,?_⟩
  rintro U⟨i,c1,hi,Zj,⟨cG,rfl⟩|⟨rfl,lL,rfl⟩⟩
  .skip
   refine⟨λq1=>?_,λq1=>?_⟩
   rotate_left
   .have q1:=of_decide_eq_false q1
    rw[kj]at q1;refine⟨⟨rfl,aH rfl rfl⟩,⟨c1,Zj,.inl rfl⟩,?_⟩;show 2*iG (pL c1 f b)+1<2*iG (pL c f b)+1;rw[C9,C9];omega
   have q1:=of_decide_eq_true q1;rw[kj]at q1;have bC:i<n.ai.length:=by omega
   have less:(1000-((i:Int)+1)).toNat<(1000-(i:Int)).toNat:=by omega
   obtain⟨p,hp⟩:∃p,n.ai[i]?=some p:=⟨_,List.getElem?_eq_getElem bC⟩;have pK:(n.ai.map Rp.enc)[((i:Int)).toNat]?=some p.enc:=by rw[Int.toNat_natCast,List.getElem?_map,hp];rfl
   have NC:=hn.pe p (List.mem_of_getElem? hp);have jd:p.fr.toNat<7:=by omega
   have fZ:p.to.toNat<7:=by omega
   refine⟨[1,3,5,6,7,8,9],3,[],λU=>∃(d c2:Nat),d<=2/\Sub g (diff f c2)/\
    ((o6 7 c2<o6 7 c/\U=⟨[(1,.list 1 (bl.map aC)),(3,.loc 0 0),(5,.loc 1 0),(6,.loc 2 0),(7,.tt),(8,.int .i64 i),(9,.int .i64 d)],[.flat false n.enc,.flat false (pL c2 f b),.flat false [.ff,.ff,.ff,.ff,.ff,.ff,.ff,.ff,.ff,.ff,.ff,.ff,.ff,.ff]],.aQ⟩)\/
     (False)),
    λU=>(1000-aZ 9 U).toNat,rfl,⟨rfl,aH rfl rfl⟩,⟨0,c1,Nat.zero_le _,Zj,.inl ⟨cG,rfl⟩⟩,?_⟩
   rintro U⟨d,c2,hd,eu,⟨fG,rfl⟩|Uv⟩
   rotate_left
   .exact Uv.elim
   refine⟨λr1=>?_,λr1=>?_⟩
   rotate_left
   .have r1:¬(d:Int)<2:=of_decide_eq_false r1
    refine⟨(i:Int)+1,wrap64 (by omega) (by omega),?_⟩;exact⟨⟨rfl,aH rfl rfl⟩,⟨i+1,c2,bC,eu,.inl ⟨fG,rfl⟩⟩,less⟩
   have r1:(d:Int)<2:=of_decide_eq_true r1;refine Or.inl ⟨by kernel_rfl,?_⟩;refine⟨by omega,_,pK,?_⟩;refine⟨by omega,_,pK,?_⟩;refine⟨λs1=>?_,λs1=>?_⟩
   .have s1:((d:Int)==1)=true:=s1
    have pc:d=1:=by simp at s1;omega
    refine⟨_,rfl,_,sQ bl i mO,?_⟩;refine⟨λr2=>?_,λr2=>?_⟩
    rotate_left
    .have r2:(!(dB bl i))=false:=r2
     have r2:dB bl i=true:=by simpa using r2
     refine⟨(d:Int)+1,wrap64 (by omega) (by omega),?_⟩;exact⟨⟨rfl,aH rfl rfl⟩,⟨d+1,c2,by omega,eu,.inl ⟨fG,rfl⟩⟩,by show(1000-((d:Int)+1)).toNat<(1000-(d:Int)).toNat;omega⟩
    have r2:(!(dB bl i))=true:=r2;have r2:dB bl i=false:=by simpa using r2
    have dV:=Bool.eq_false_or_eq_true (c2.testBit p.to.toNat);rcases dV with ak|ak
    .skip
     have qi:(diff f c2).testBit p.to.toNat=false:=by rw[hF,ak,Bool.not_true,Bool.and_false]
     refine⟨⟨by omega,by omega⟩,_,Nat.mul_one _,?_⟩;refine⟨_,fJ fZ ak,?_⟩;have dV:=Bool.eq_false_or_eq_true (c2.testBit p.fr.toNat);rcases dV with eS|eS
     .skip
      have qj:(diff f c2).testBit p.fr.toNat=false:=by rw[hF,eS,Bool.not_true,Bool.and_false]
      refine⟨⟨by omega,by omega⟩,_,Nat.mul_one _,?_⟩;refine⟨_,fJ jd eS,?_⟩;refine⟨(d:Int)+1,wrap64 (by omega) (by omega),?_⟩;exact⟨⟨rfl,aH rfl rfl⟩,⟨d+1,c2,by omega,eu,.inl ⟨fG,rfl⟩⟩,by show(1000-((d:Int)+1)).toNat<(1000-(d:Int)).toNat;omega⟩
     skip;have dV:=(Bool.eq_false_or_eq_true (f.testBit p.fr.toNat)).symm;rcases dV with iH|iH
     .skip
      have qj:(diff f c2).testBit p.fr.toNat=false:=by rw[hF,iH,Bool.false_and]
      refine⟨⟨by omega,by omega⟩,_,Nat.mul_one _,?_⟩;refine⟨_,b6 jd eS iH,?_⟩;refine⟨λh=>absurd h (by decide),λ_=>?_⟩;refine⟨(d:Int)+1,wrap64 (by omega) (by omega),?_⟩;exact⟨⟨rfl,aH rfl rfl⟩,⟨d+1,c2,by omega,eu,.inl ⟨fG,rfl⟩⟩,by show(1000-((d:Int)+1)).toNat<(1000-(d:Int)).toNat;omega⟩
     skip;refine⟨⟨by omega,by omega⟩,_,Nat.mul_one _,?_⟩;refine⟨_,b6 jd eS iH,?_⟩;refine⟨λ_=>?_,λh=>absurd h (by decide)⟩;have dV:=Bool.eq_false_or_eq_true (b.testBit p.fr.toNat);rcases dV with gy|gy
     .skip
      refine⟨⟨by omega,by omega⟩,_,Nat.mul_one _,?_⟩;refine⟨_,b5 jd gy,?_⟩;refine⟨λh=>absurd h (by decide),λ_=>?_⟩;refine⟨(d:Int)+1,wrap64 (by omega) (by omega),?_⟩;exact⟨⟨rfl,aH rfl rfl⟩,⟨d+1,c2,by omega,eu,.inl ⟨fG,rfl⟩⟩,by show(1000-((d:Int)+1)).toNat<(1000-(d:Int)).toNat;omega⟩
     skip;refine⟨⟨by omega,by omega⟩,_,Nat.mul_one _,?_⟩;refine⟨_,b5 jd gy,?_⟩;refine⟨λ_=>?_,λh=>absurd h (by decide)⟩;refine⟨⟨by omega,by omega⟩,_,Nat.mul_one _,?_⟩;refine⟨by rw[gx];show 0+_+1<=14;omega,_,gR jd,?_⟩;have kP:g.testBit p.fr.toNat=false:=by
      cases kP:g.testBit p.fr.toNat with
      |false=>rfl
      |true=>
       have h1:=(hg.shut i p hp r2).2 kP gy;have h2:=eu _ h1;rw[qi]at h2;cases h2
     have fQ:Sub c2 (c2|||2^p.fr.toNat):=λx hx=>by rw[bP,hx];rfl
     have zd:=gw fQ eS (by rw[bP,bL];simp) 7 jd;refine⟨(d:Int)+1,wrap64 (by omega) (by omega),?_⟩;refine⟨⟨rfl,aH rfl rfl⟩,⟨d+1,c2|||2^p.fr.toNat,by omega,λx hx=>?_,.inl ⟨by omega,rfl⟩⟩,by show(1000-((d:Int)+1)).toNat<(1000-(d:Int)).toNat;omega⟩;have h3:=eu x hx;rw[hF]at h3⊢;rw[bP,bL,show decide (x=p.fr.toNat)=false from decide_eq_false (λe=>by rw[e,kP]at hx;cases hx),Bool.or_false];exact h3
    skip;have dV:=Bool.eq_false_or_eq_true (f.testBit p.to.toNat);rcases dV with jb|jb
    .skip
     have qi:(diff f c2).testBit p.to.toNat=true:=by rw[hF,ak,jb];rfl
     refine⟨⟨by omega,by omega⟩,_,Nat.mul_one _,?_⟩;refine⟨_,b6 fZ ak jb,?_⟩;refine⟨λh=>absurd h (by decide),λ_=>?_⟩;refine⟨(d:Int)+1,wrap64 (by omega) (by omega),?_⟩;exact⟨⟨rfl,aH rfl rfl⟩,⟨d+1,c2,by omega,eu,.inl ⟨fG,rfl⟩⟩,by show(1000-((d:Int)+1)).toNat<(1000-(d:Int)).toNat;omega⟩
    skip;have qi:(diff f c2).testBit p.to.toNat=false:=by rw[hF,jb,Bool.false_and]
    refine⟨⟨by omega,by omega⟩,_,Nat.mul_one _,?_⟩;refine⟨_,b6 fZ ak jb,?_⟩;refine⟨λ_=>?_,λh=>absurd h (by decide)⟩;have dV:=Bool.eq_false_or_eq_true (c2.testBit p.fr.toNat);rcases dV with eS|eS
    .skip
     have qj:(diff f c2).testBit p.fr.toNat=false:=by rw[hF,eS,Bool.not_true,Bool.and_false]
     refine⟨⟨by omega,by omega⟩,_,Nat.mul_one _,?_⟩;refine⟨_,fJ jd eS,?_⟩;refine⟨(d:Int)+1,wrap64 (by omega) (by omega),?_⟩;exact⟨⟨rfl,aH rfl rfl⟩,⟨d+1,c2,by omega,eu,.inl ⟨fG,rfl⟩⟩,by show(1000-((d:Int)+1)).toNat<(1000-(d:Int)).toNat;omega⟩
    skip;have dV:=(Bool.eq_false_or_eq_true (f.testBit p.fr.toNat)).symm;rcases dV with iH|iH
    .skip
     have qj:(diff f c2).testBit p.fr.toNat=false:=by rw[hF,iH,Bool.false_and]
     refine⟨⟨by omega,by omega⟩,_,Nat.mul_one _,?_⟩;refine⟨_,b6 jd eS iH,?_⟩;refine⟨λh=>absurd h (by decide),λ_=>?_⟩;refine⟨(d:Int)+1,wrap64 (by omega) (by omega),?_⟩;exact⟨⟨rfl,aH rfl rfl⟩,⟨d+1,c2,by omega,eu,.inl ⟨fG,rfl⟩⟩,by show(1000-((d:Int)+1)).toNat<(1000-(d:Int)).toNat;omega⟩
    skip;refine⟨⟨by omega,by omega⟩,_,Nat.mul_one _,?_⟩;refine⟨_,b6 jd eS iH,?_⟩;refine⟨λ_=>?_,λh=>absurd h (by decide)⟩;have dV:=Bool.eq_false_or_eq_true (b.testBit p.fr.toNat);rcases dV with gy|gy
    .skip
     refine⟨⟨by omega,by omega⟩,_,Nat.mul_one _,?_⟩;refine⟨_,b5 jd gy,?_⟩;refine⟨λh=>absurd h (by decide),λ_=>?_⟩;refine⟨(d:Int)+1,wrap64 (by omega) (by omega),?_⟩;exact⟨⟨rfl,aH rfl rfl⟩,⟨d+1,c2,by omega,eu,.inl ⟨fG,rfl⟩⟩,by show(1000-((d:Int)+1)).toNat<(1000-(d:Int)).toNat;omega⟩
    skip;refine⟨⟨by omega,by omega⟩,_,Nat.mul_one _,?_⟩;refine⟨_,b5 jd gy,?_⟩;refine⟨λ_=>?_,λh=>absurd h (by decide)⟩;refine⟨⟨by omega,by omega⟩,_,Nat.mul_one _,?_⟩;refine⟨by rw[gx];show 0+_+1<=14;omega,_,gR jd,?_⟩;have kP:g.testBit p.fr.toNat=false:=by
     cases kP:g.testBit p.fr.toNat with
     |false=>rfl
     |true=>
      have h1:=(hg.shut i p hp r2).2 kP gy;have h2:=eu _ h1;rw[qi]at h2;cases h2
    have fQ:Sub c2 (c2|||2^p.fr.toNat):=λx hx=>by rw[bP,hx];rfl
    have zd:=gw fQ eS (by rw[bP,bL];simp) 7 jd;refine⟨(d:Int)+1,wrap64 (by omega) (by omega),?_⟩;refine⟨⟨rfl,aH rfl rfl⟩,⟨d+1,c2|||2^p.fr.toNat,by omega,λx hx=>?_,.inl ⟨by omega,rfl⟩⟩,by show(1000-((d:Int)+1)).toNat<(1000-(d:Int)).toNat;omega⟩;have h3:=eu x hx;rw[hF]at h3⊢;rw[bP,bL,show decide (x=p.fr.toNat)=false from decide_eq_false (λe=>by rw[e,kP]at hx;cases hx),Bool.or_false];exact h3
   have s1:((d:Int)==1)=false:=s1;have pc:d=0:=by simp at s1;omega
   refine⟨_,rfl,_,sQ bl i mO,?_⟩;refine⟨λr2=>?_,λr2=>?_⟩
   rotate_left
   .have r2:(!(dB bl i))=false:=r2
    have r2:dB bl i=true:=by simpa using r2
    refine⟨(d:Int)+1,wrap64 (by omega) (by omega),?_⟩;exact⟨⟨rfl,aH rfl rfl⟩,⟨d+1,c2,by omega,eu,.inl ⟨fG,rfl⟩⟩,by show(1000-((d:Int)+1)).toNat<(1000-(d:Int)).toNat;omega⟩
   have r2:(!(dB bl i))=true:=r2;have r2:dB bl i=false:=by simpa using r2
   have dV:=Bool.eq_false_or_eq_true (c2.testBit p.fr.toNat);rcases dV with ak|ak
   .skip
    have qi:(diff f c2).testBit p.fr.toNat=false:=by rw[hF,ak,Bool.not_true,Bool.and_false]
    refine⟨⟨by omega,by omega⟩,_,Nat.mul_one _,?_⟩;refine⟨_,fJ jd ak,?_⟩;have dV:=Bool.eq_false_or_eq_true (c2.testBit p.to.toNat);rcases dV with eS|eS
    .skip
     have qj:(diff f c2).testBit p.to.toNat=false:=by rw[hF,eS,Bool.not_true,Bool.and_false]
     refine⟨⟨by omega,by omega⟩,_,Nat.mul_one _,?_⟩;refine⟨_,fJ fZ eS,?_⟩;refine⟨(d:Int)+1,wrap64 (by omega) (by omega),?_⟩;exact⟨⟨rfl,aH rfl rfl⟩,⟨d+1,c2,by omega,eu,.inl ⟨fG,rfl⟩⟩,by show(1000-((d:Int)+1)).toNat<(1000-(d:Int)).toNat;omega⟩
    skip;have dV:=(Bool.eq_false_or_eq_true (f.testBit p.to.toNat)).symm;rcases dV with iH|iH
    .skip
     have qj:(diff f c2).testBit p.to.toNat=false:=by rw[hF,iH,Bool.false_and]
     refine⟨⟨by omega,by omega⟩,_,Nat.mul_one _,?_⟩;refine⟨_,b6 fZ eS iH,?_⟩;refine⟨λh=>absurd h (by decide),λ_=>?_⟩;refine⟨(d:Int)+1,wrap64 (by omega) (by omega),?_⟩;exact⟨⟨rfl,aH rfl rfl⟩,⟨d+1,c2,by omega,eu,.inl ⟨fG,rfl⟩⟩,by show(1000-((d:Int)+1)).toNat<(1000-(d:Int)).toNat;omega⟩
    skip;refine⟨⟨by omega,by omega⟩,_,Nat.mul_one _,?_⟩;refine⟨_,b6 fZ eS iH,?_⟩;refine⟨λ_=>?_,λh=>absurd h (by decide)⟩;have dV:=Bool.eq_false_or_eq_true (b.testBit p.to.toNat);rcases dV with gy|gy
    .skip
     refine⟨⟨by omega,by omega⟩,_,Nat.mul_one _,?_⟩;refine⟨_,b5 fZ gy,?_⟩;refine⟨λh=>absurd h (by decide),λ_=>?_⟩;refine⟨(d:Int)+1,wrap64 (by omega) (by omega),?_⟩;exact⟨⟨rfl,aH rfl rfl⟩,⟨d+1,c2,by omega,eu,.inl ⟨fG,rfl⟩⟩,by show(1000-((d:Int)+1)).toNat<(1000-(d:Int)).toNat;omega⟩
    skip;refine⟨⟨by omega,by omega⟩,_,Nat.mul_one _,?_⟩;refine⟨_,b5 fZ gy,?_⟩;refine⟨λ_=>?_,λh=>absurd h (by decide)⟩;refine⟨⟨by omega,by omega⟩,_,Nat.mul_one _,?_⟩;refine⟨by rw[gx];show 0+_+1<=14;omega,_,gR fZ,?_⟩;have kP:g.testBit p.to.toNat=false:=by
     cases kP:g.testBit p.to.toNat with
     |false=>rfl
     |true=>
      have h1:=(hg.shut i p hp r2).1 kP gy;have h2:=eu _ h1;rw[qi]at h2;cases h2
    have fQ:Sub c2 (c2|||2^p.to.toNat):=λx hx=>by rw[bP,hx];rfl
    have zd:=gw fQ eS (by rw[bP,bL];simp) 7 fZ;refine⟨(d:Int)+1,wrap64 (by omega) (by omega),?_⟩;refine⟨⟨rfl,aH rfl rfl⟩,⟨d+1,c2|||2^p.to.toNat,by omega,λx hx=>?_,.inl ⟨by omega,rfl⟩⟩,by show(1000-((d:Int)+1)).toNat<(1000-(d:Int)).toNat;omega⟩;have h3:=eu x hx;rw[hF]at h3⊢;rw[bP,bL,show decide (x=p.to.toNat)=false from decide_eq_false (λe=>by rw[e,kP]at hx;cases hx),Bool.or_false];exact h3
   skip;have dV:=Bool.eq_false_or_eq_true (f.testBit p.fr.toNat);rcases dV with jb|jb
   .skip
    have qi:(diff f c2).testBit p.fr.toNat=true:=by rw[hF,ak,jb];rfl
    refine⟨⟨by omega,by omega⟩,_,Nat.mul_one _,?_⟩;refine⟨_,b6 jd ak jb,?_⟩;refine⟨λh=>absurd h (by decide),λ_=>?_⟩;refine⟨(d:Int)+1,wrap64 (by omega) (by omega),?_⟩;exact⟨⟨rfl,aH rfl rfl⟩,⟨d+1,c2,by omega,eu,.inl ⟨fG,rfl⟩⟩,by show(1000-((d:Int)+1)).toNat<(1000-(d:Int)).toNat;omega⟩
   skip;have qi:(diff f c2).testBit p.fr.toNat=false:=by rw[hF,jb,Bool.false_and]
   refine⟨⟨by omega,by omega⟩,_,Nat.mul_one _,?_⟩;refine⟨_,b6 jd ak jb,?_⟩;refine⟨λ_=>?_,λh=>absurd h (by decide)⟩;have dV:=Bool.eq_false_or_eq_true (c2.testBit p.to.toNat);rcases dV with eS|eS
   .skip
    have qj:(diff f c2).testBit p.to.toNat=false:=by rw[hF,eS,Bool.not_true,Bool.and_false]
    refine⟨⟨by omega,by omega⟩,_,Nat.mul_one _,?_⟩;refine⟨_,fJ fZ eS,?_⟩;refine⟨(d:Int)+1,wrap64 (by omega) (by omega),?_⟩;exact⟨⟨rfl,aH rfl rfl⟩,⟨d+1,c2,by omega,eu,.inl ⟨fG,rfl⟩⟩,by show(1000-((d:Int)+1)).toNat<(1000-(d:Int)).toNat;omega⟩
   skip;have dV:=(Bool.eq_false_or_eq_true (f.testBit p.to.toNat)).symm;rcases dV with iH|iH
   .skip
    have qj:(diff f c2).testBit p.to.toNat=false:=by rw[hF,iH,Bool.false_and]
    refine⟨⟨by omega,by omega⟩,_,Nat.mul_one _,?_⟩;refine⟨_,b6 fZ eS iH,?_⟩;refine⟨λh=>absurd h (by decide),λ_=>?_⟩;refine⟨(d:Int)+1,wrap64 (by omega) (by omega),?_⟩;exact⟨⟨rfl,aH rfl rfl⟩,⟨d+1,c2,by omega,eu,.inl ⟨fG,rfl⟩⟩,by show(1000-((d:Int)+1)).toNat<(1000-(d:Int)).toNat;omega⟩
   skip;refine⟨⟨by omega,by omega⟩,_,Nat.mul_one _,?_⟩;refine⟨_,b6 fZ eS iH,?_⟩;refine⟨λ_=>?_,λh=>absurd h (by decide)⟩;have dV:=Bool.eq_false_or_eq_true (b.testBit p.to.toNat);rcases dV with gy|gy
   .skip
    refine⟨⟨by omega,by omega⟩,_,Nat.mul_one _,?_⟩;refine⟨_,b5 fZ gy,?_⟩;refine⟨λh=>absurd h (by decide),λ_=>?_⟩;refine⟨(d:Int)+1,wrap64 (by omega) (by omega),?_⟩;exact⟨⟨rfl,aH rfl rfl⟩,⟨d+1,c2,by omega,eu,.inl ⟨fG,rfl⟩⟩,by show(1000-((d:Int)+1)).toNat<(1000-(d:Int)).toNat;omega⟩
   skip;refine⟨⟨by omega,by omega⟩,_,Nat.mul_one _,?_⟩;refine⟨_,b5 fZ gy,?_⟩;refine⟨λ_=>?_,λh=>absurd h (by decide)⟩;refine⟨⟨by omega,by omega⟩,_,Nat.mul_one _,?_⟩;refine⟨by rw[gx];show 0+_+1<=14;omega,_,gR fZ,?_⟩;have kP:g.testBit p.to.toNat=false:=by
    cases kP:g.testBit p.to.toNat with
    |false=>rfl
    |true=>
     have h1:=(hg.shut i p hp r2).1 kP gy;have h2:=eu _ h1;rw[qi]at h2;cases h2
   have fQ:Sub c2 (c2|||2^p.to.toNat):=λx hx=>by rw[bP,hx];rfl
   have zd:=gw fQ eS (by rw[bP,bL];simp) 7 fZ;refine⟨(d:Int)+1,wrap64 (by omega) (by omega),?_⟩;refine⟨⟨rfl,aH rfl rfl⟩,⟨d+1,c2|||2^p.to.toNat,by omega,λx hx=>?_,.inl ⟨by omega,rfl⟩⟩,by show(1000-((d:Int)+1)).toNat<(1000-(d:Int)).toNat;omega⟩;have h3:=eu x hx;rw[hF]at h3⊢;rw[bP,bL,show decide (x=p.to.toNat)=false from decide_eq_false (λe=>by rw[e,kP]at hx;cases hx),Bool.or_false];exact h3
  skip;refine⟨λq1=>?_,λq1=>?_⟩
  rotate_left
  .have q1:=of_decide_eq_false q1
   rw[kj]at q1;refine⟨⟨rfl,aH rfl rfl⟩,⟨c1,Zj,.inr ⟨λi' q hq ho=>lL i' q (by have:=(List.getElem?_eq_some_iff.1 hq).1;omega) hq ho,rfl⟩⟩,?_⟩;show 2*iG (pL c1 f b)+0<2*iG (pL c1 f b)+1;omega
  have q1:=of_decide_eq_true q1;rw[kj]at q1;have bC:i<n.ai.length:=by omega
  have less:(1000-((i:Int)+1)).toNat<(1000-(i:Int)).toNat:=by omega
  obtain⟨p,hp⟩:∃p,n.ai[i]?=some p:=⟨_,List.getElem?_eq_getElem bC⟩;have pK:(n.ai.map Rp.enc)[((i:Int)).toNat]?=some p.enc:=by rw[Int.toNat_natCast,List.getElem?_map,hp];rfl
  have NC:=hn.pe p (List.mem_of_getElem? hp);have jd:p.fr.toNat<7:=by omega
  have fZ:p.to.toNat<7:=by omega
  refine⟨[1,3,5,6,7,8,9],3,[],λU=>∃(d c2:Nat),d<=2/\Sub g (diff f c2)/\
   ((o6 7 c2<o6 7 c1/\U=⟨[(1,.list 1 (bl.map aC)),(3,.loc 0 0),(5,.loc 1 0),(6,.loc 2 0),(7,.tt),(8,.int .i64 i),(9,.int .i64 d)],[.flat false n.enc,.flat false (pL c2 f b),.flat false [.ff,.ff,.ff,.ff,.ff,.ff,.ff,.ff,.ff,.ff,.ff,.ff,.ff,.ff]],.aQ⟩)\/
    (c2=c1/\(∀i' q,i'<i->n.ai[i']?=some q->dB bl (i':Nat)=false->((diff f c1).testBit q.to.toNat=true->b.testBit q.to.toNat=false->(diff f c1).testBit q.fr.toNat=true)/\((diff f c1).testBit q.fr.toNat=true->b.testBit q.fr.toNat=false->(diff f c1).testBit q.to.toNat=true))/\(1<=d->dB bl (i:Nat)=false->((diff f c1).testBit p.to.toNat=true->b.testBit p.to.toNat=false->(diff f c1).testBit p.fr.toNat=true))/\(2<=d->dB bl (i:Nat)=false->((diff f c1).testBit p.fr.toNat=true->b.testBit p.fr.toNat=false->(diff f c1).testBit p.to.toNat=true))/\U=⟨[(1,.list 1 (bl.map aC)),(3,.loc 0 0),(5,.loc 1 0),(6,.loc 2 0),(7,.ff),(8,.int .i64 i),(9,.int .i64 d)],[.flat false n.enc,.flat false (pL c2 f b),.flat false [.ff,.ff,.ff,.ff,.ff,.ff,.ff,.ff,.ff,.ff,.ff,.ff,.ff,.ff]],.aQ⟩)),
   λU=>(1000-aZ 9 U).toNat,rfl,⟨rfl,aH rfl rfl⟩,⟨0,c1,Nat.zero_le _,Zj,.inr ⟨rfl,lL,λh=>absurd h (by decide),λh=>absurd h (by decide),rfl⟩⟩,?_⟩
  rintro U⟨d,c2,hd,eu,⟨fG,rfl⟩|⟨rfl,lL,la,hd2,rfl⟩⟩
  .skip
   refine⟨λr1=>?_,λr1=>?_⟩
   rotate_left
   .have r1:¬(d:Int)<2:=of_decide_eq_false r1
    refine⟨(i:Int)+1,wrap64 (by omega) (by omega),?_⟩;exact⟨⟨rfl,aH rfl rfl⟩,⟨i+1,c2,bC,eu,.inl ⟨fG,rfl⟩⟩,less⟩
   have r1:(d:Int)<2:=of_decide_eq_true r1;refine Or.inl ⟨by kernel_rfl,?_⟩;refine⟨by omega,_,pK,?_⟩;refine⟨by omega,_,pK,?_⟩;refine⟨λs1=>?_,λs1=>?_⟩
   .have s1:((d:Int)==1)=true:=s1
    have pc:d=1:=by simp at s1;omega
    refine⟨_,rfl,_,sQ bl i mO,?_⟩;refine⟨λr2=>?_,λr2=>?_⟩
    rotate_left
    .have r2:(!(dB bl i))=false:=r2
     have r2:dB bl i=true:=by simpa using r2
     refine⟨(d:Int)+1,wrap64 (by omega) (by omega),?_⟩;exact⟨⟨rfl,aH rfl rfl⟩,⟨d+1,c2,by omega,eu,.inl ⟨fG,rfl⟩⟩,by show(1000-((d:Int)+1)).toNat<(1000-(d:Int)).toNat;omega⟩
    have r2:(!(dB bl i))=true:=r2;have r2:dB bl i=false:=by simpa using r2
    have dV:=Bool.eq_false_or_eq_true (c2.testBit p.to.toNat);rcases dV with ak|ak
    .skip
     have qi:(diff f c2).testBit p.to.toNat=false:=by rw[hF,ak,Bool.not_true,Bool.and_false]
     refine⟨⟨by omega,by omega⟩,_,Nat.mul_one _,?_⟩;refine⟨_,fJ fZ ak,?_⟩;have dV:=Bool.eq_false_or_eq_true (c2.testBit p.fr.toNat);rcases dV with eS|eS
     .skip
      have qj:(diff f c2).testBit p.fr.toNat=false:=by rw[hF,eS,Bool.not_true,Bool.and_false]
      refine⟨⟨by omega,by omega⟩,_,Nat.mul_one _,?_⟩;refine⟨_,fJ jd eS,?_⟩;refine⟨(d:Int)+1,wrap64 (by omega) (by omega),?_⟩;exact⟨⟨rfl,aH rfl rfl⟩,⟨d+1,c2,by omega,eu,.inl ⟨fG,rfl⟩⟩,by show(1000-((d:Int)+1)).toNat<(1000-(d:Int)).toNat;omega⟩
     skip;have dV:=(Bool.eq_false_or_eq_true (f.testBit p.fr.toNat)).symm;rcases dV with iH|iH
     .skip
      have qj:(diff f c2).testBit p.fr.toNat=false:=by rw[hF,iH,Bool.false_and]
      refine⟨⟨by omega,by omega⟩,_,Nat.mul_one _,?_⟩;refine⟨_,b6 jd eS iH,?_⟩;refine⟨λh=>absurd h (by decide),λ_=>?_⟩;refine⟨(d:Int)+1,wrap64 (by omega) (by omega),?_⟩;exact⟨⟨rfl,aH rfl rfl⟩,⟨d+1,c2,by omega,eu,.inl ⟨fG,rfl⟩⟩,by show(1000-((d:Int)+1)).toNat<(1000-(d:Int)).toNat;omega⟩
     skip;refine⟨⟨by omega,by omega⟩,_,Nat.mul_one _,?_⟩;refine⟨_,b6 jd eS iH,?_⟩;refine⟨λ_=>?_,λh=>absurd h (by decide)⟩;have dV:=Bool.eq_false_or_eq_true (b.testBit p.fr.toNat);rcases dV with gy|gy
     .skip
      refine⟨⟨by omega,by omega⟩,_,Nat.mul_one _,?_⟩;refine⟨_,b5 jd gy,?_⟩;refine⟨λh=>absurd h (by decide),λ_=>?_⟩;refine⟨(d:Int)+1,wrap64 (by omega) (by omega),?_⟩;exact⟨⟨rfl,aH rfl rfl⟩,⟨d+1,c2,by omega,eu,.inl ⟨fG,rfl⟩⟩,by show(1000-((d:Int)+1)).toNat<(1000-(d:Int)).toNat;omega⟩
     skip;refine⟨⟨by omega,by omega⟩,_,Nat.mul_one _,?_⟩;refine⟨_,b5 jd gy,?_⟩;refine⟨λ_=>?_,λh=>absurd h (by decide)⟩;refine⟨⟨by omega,by omega⟩,_,Nat.mul_one _,?_⟩;refine⟨by rw[gx];show 0+_+1<=14;omega,_,gR jd,?_⟩;have kP:g.testBit p.fr.toNat=false:=by
      cases kP:g.testBit p.fr.toNat with
      |false=>rfl
      |true=>
       have h1:=(hg.shut i p hp r2).2 kP gy;have h2:=eu _ h1;rw[qi]at h2;cases h2
     have fQ:Sub c2 (c2|||2^p.fr.toNat):=λx hx=>by rw[bP,hx];rfl
     have zd:=gw fQ eS (by rw[bP,bL];simp) 7 jd;refine⟨(d:Int)+1,wrap64 (by omega) (by omega),?_⟩;refine⟨⟨rfl,aH rfl rfl⟩,⟨d+1,c2|||2^p.fr.toNat,by omega,λx hx=>?_,.inl ⟨by omega,rfl⟩⟩,by show(1000-((d:Int)+1)).toNat<(1000-(d:Int)).toNat;omega⟩;have h3:=eu x hx;rw[hF]at h3⊢;rw[bP,bL,show decide (x=p.fr.toNat)=false from decide_eq_false (λe=>by rw[e,kP]at hx;cases hx),Bool.or_false];exact h3
    skip;have dV:=Bool.eq_false_or_eq_true (f.testBit p.to.toNat);rcases dV with jb|jb
    .skip
     have qi:(diff f c2).testBit p.to.toNat=true:=by rw[hF,ak,jb];rfl
     refine⟨⟨by omega,by omega⟩,_,Nat.mul_one _,?_⟩;refine⟨_,b6 fZ ak jb,?_⟩;refine⟨λh=>absurd h (by decide),λ_=>?_⟩;refine⟨(d:Int)+1,wrap64 (by omega) (by omega),?_⟩;exact⟨⟨rfl,aH rfl rfl⟩,⟨d+1,c2,by omega,eu,.inl ⟨fG,rfl⟩⟩,by show(1000-((d:Int)+1)).toNat<(1000-(d:Int)).toNat;omega⟩
    skip;have qi:(diff f c2).testBit p.to.toNat=false:=by rw[hF,jb,Bool.false_and]
    refine⟨⟨by omega,by omega⟩,_,Nat.mul_one _,?_⟩;refine⟨_,b6 fZ ak jb,?_⟩;refine⟨λ_=>?_,λh=>absurd h (by decide)⟩;have dV:=Bool.eq_false_or_eq_true (c2.testBit p.fr.toNat);rcases dV with eS|eS
    .skip
     have qj:(diff f c2).testBit p.fr.toNat=false:=by rw[hF,eS,Bool.not_true,Bool.and_false]
     refine⟨⟨by omega,by omega⟩,_,Nat.mul_one _,?_⟩;refine⟨_,fJ jd eS,?_⟩;refine⟨(d:Int)+1,wrap64 (by omega) (by omega),?_⟩;exact⟨⟨rfl,aH rfl rfl⟩,⟨d+1,c2,by omega,eu,.inl ⟨fG,rfl⟩⟩,by show(1000-((d:Int)+1)).toNat<(1000-(d:Int)).toNat;omega⟩
    skip;have dV:=(Bool.eq_false_or_eq_true (f.testBit p.fr.toNat)).symm;rcases dV with iH|iH
    .skip
     have qj:(diff f c2).testBit p.fr.toNat=false:=by rw[hF,iH,Bool.false_and]
     refine⟨⟨by omega,by omega⟩,_,Nat.mul_one _,?_⟩;refine⟨_,b6 jd eS iH,?_⟩;refine⟨λh=>absurd h (by decide),λ_=>?_⟩;refine⟨(d:Int)+1,wrap64 (by omega) (by omega),?_⟩;exact⟨⟨rfl,aH rfl rfl⟩,⟨d+1,c2,by omega,eu,.inl ⟨fG,rfl⟩⟩,by show(1000-((d:Int)+1)).toNat<(1000-(d:Int)).toNat;omega⟩
    skip;refine⟨⟨by omega,by omega⟩,_,Nat.mul_one _,?_⟩;refine⟨_,b6 jd eS iH,?_⟩;refine⟨λ_=>?_,λh=>absurd h (by decide)⟩;have dV:=Bool.eq_false_or_eq_true (b.testBit p.fr.toNat);rcases dV with gy|gy
    .skip
     refine⟨⟨by omega,by omega⟩,_,Nat.mul_one _,?_⟩;refine⟨_,b5 jd gy,?_⟩;refine⟨λh=>absurd h (by decide),λ_=>?_⟩;refine⟨(d:Int)+1,wrap64 (by omega) (by omega),?_⟩;exact⟨⟨rfl,aH rfl rfl⟩,⟨d+1,c2,by omega,eu,.inl ⟨fG,rfl⟩⟩,by show(1000-((d:Int)+1)).toNat<(1000-(d:Int)).toNat;omega⟩
    skip;refine⟨⟨by omega,by omega⟩,_,Nat.mul_one _,?_⟩;refine⟨_,b5 jd gy,?_⟩;refine⟨λ_=>?_,λh=>absurd h (by decide)⟩;refine⟨⟨by omega,by omega⟩,_,Nat.mul_one _,?_⟩;refine⟨by rw[gx];show 0+_+1<=14;omega,_,gR jd,?_⟩;have kP:g.testBit p.fr.toNat=false:=by
     cases kP:g.testBit p.fr.toNat with
     |false=>rfl
     |true=>
      have h1:=(hg.shut i p hp r2).2 kP gy;have h2:=eu _ h1;rw[qi]at h2;cases h2
    have fQ:Sub c2 (c2|||2^p.fr.toNat):=λx hx=>by rw[bP,hx];rfl
    have zd:=gw fQ eS (by rw[bP,bL];simp) 7 jd;refine⟨(d:Int)+1,wrap64 (by omega) (by omega),?_⟩;refine⟨⟨rfl,aH rfl rfl⟩,⟨d+1,c2|||2^p.fr.toNat,by omega,λx hx=>?_,.inl ⟨by omega,rfl⟩⟩,by show(1000-((d:Int)+1)).toNat<(1000-(d:Int)).toNat;omega⟩;have h3:=eu x hx;rw[hF]at h3⊢;rw[bP,bL,show decide (x=p.fr.toNat)=false from decide_eq_false (λe=>by rw[e,kP]at hx;cases hx),Bool.or_false];exact h3
   have s1:((d:Int)==1)=false:=s1;have pc:d=0:=by simp at s1;omega
   refine⟨_,rfl,_,sQ bl i mO,?_⟩;refine⟨λr2=>?_,λr2=>?_⟩
   rotate_left
   .have r2:(!(dB bl i))=false:=r2
    have r2:dB bl i=true:=by simpa using r2
    refine⟨(d:Int)+1,wrap64 (by omega) (by omega),?_⟩;exact⟨⟨rfl,aH rfl rfl⟩,⟨d+1,c2,by omega,eu,.inl ⟨fG,rfl⟩⟩,by show(1000-((d:Int)+1)).toNat<(1000-(d:Int)).toNat;omega⟩
   have r2:(!(dB bl i))=true:=r2;have r2:dB bl i=false:=by simpa using r2
   have dV:=Bool.eq_false_or_eq_true (c2.testBit p.fr.toNat);rcases dV with ak|ak
   .skip
    have qi:(diff f c2).testBit p.fr.toNat=false:=by rw[hF,ak,Bool.not_true,Bool.and_false]
    refine⟨⟨by omega,by omega⟩,_,Nat.mul_one _,?_⟩;refine⟨_,fJ jd ak,?_⟩;have dV:=Bool.eq_false_or_eq_true (c2.testBit p.to.toNat);rcases dV with eS|eS
    .skip
     have qj:(diff f c2).testBit p.to.toNat=false:=by rw[hF,eS,Bool.not_true,Bool.and_false]
     refine⟨⟨by omega,by omega⟩,_,Nat.mul_one _,?_⟩;refine⟨_,fJ fZ eS,?_⟩;refine⟨(d:Int)+1,wrap64 (by omega) (by omega),?_⟩;exact⟨⟨rfl,aH rfl rfl⟩,⟨d+1,c2,by omega,eu,.inl ⟨fG,rfl⟩⟩,by show(1000-((d:Int)+1)).toNat<(1000-(d:Int)).toNat;omega⟩
    skip;have dV:=(Bool.eq_false_or_eq_true (f.testBit p.to.toNat)).symm;rcases dV with iH|iH
    .skip
     have qj:(diff f c2).testBit p.to.toNat=false:=by rw[hF,iH,Bool.false_and]
     refine⟨⟨by omega,by omega⟩,_,Nat.mul_one _,?_⟩;refine⟨_,b6 fZ eS iH,?_⟩;refine⟨λh=>absurd h (by decide),λ_=>?_⟩;refine⟨(d:Int)+1,wrap64 (by omega) (by omega),?_⟩;exact⟨⟨rfl,aH rfl rfl⟩,⟨d+1,c2,by omega,eu,.inl ⟨fG,rfl⟩⟩,by show(1000-((d:Int)+1)).toNat<(1000-(d:Int)).toNat;omega⟩
    skip;refine⟨⟨by omega,by omega⟩,_,Nat.mul_one _,?_⟩;refine⟨_,b6 fZ eS iH,?_⟩;refine⟨λ_=>?_,λh=>absurd h (by decide)⟩;have dV:=Bool.eq_false_or_eq_true (b.testBit p.to.toNat);rcases dV with gy|gy
    .skip
     refine⟨⟨by omega,by omega⟩,_,Nat.mul_one _,?_⟩;refine⟨_,b5 fZ gy,?_⟩;refine⟨λh=>absurd h (by decide),λ_=>?_⟩;refine⟨(d:Int)+1,wrap64 (by omega) (by omega),?_⟩;exact⟨⟨rfl,aH rfl rfl⟩,⟨d+1,c2,by omega,eu,.inl ⟨fG,rfl⟩⟩,by show(1000-((d:Int)+1)).toNat<(1000-(d:Int)).toNat;omega⟩
    skip;refine⟨⟨by omega,by omega⟩,_,Nat.mul_one _,?_⟩;refine⟨_,b5 fZ gy,?_⟩;refine⟨λ_=>?_,λh=>absurd h (by decide)⟩;refine⟨⟨by omega,by omega⟩,_,Nat.mul_one _,?_⟩;refine⟨by rw[gx];show 0+_+1<=14;omega,_,gR fZ,?_⟩;have kP:g.testBit p.to.toNat=false:=by
     cases kP:g.testBit p.to.toNat with
     |false=>rfl
     |true=>
      have h1:=(hg.shut i p hp r2).1 kP gy;have h2:=eu _ h1;rw[qi]at h2;cases h2
    have fQ:Sub c2 (c2|||2^p.to.toNat):=λx hx=>by rw[bP,hx];rfl
    have zd:=gw fQ eS (by rw[bP,bL];simp) 7 fZ;refine⟨(d:Int)+1,wrap64 (by omega) (by omega),?_⟩;refine⟨⟨rfl,aH rfl rfl⟩,⟨d+1,c2|||2^p.to.toNat,by omega,λx hx=>?_,.inl ⟨by omega,rfl⟩⟩,by show(1000-((d:Int)+1)).toNat<(1000-(d:Int)).toNat;omega⟩;have h3:=eu x hx;rw[hF]at h3⊢;rw[bP,bL,show decide (x=p.to.toNat)=false from decide_eq_false (λe=>by rw[e,kP]at hx;cases hx),Bool.or_false];exact h3
   skip;have dV:=Bool.eq_false_or_eq_true (f.testBit p.fr.toNat);rcases dV with jb|jb
   .skip
    have qi:(diff f c2).testBit p.fr.toNat=true:=by rw[hF,ak,jb];rfl
    refine⟨⟨by omega,by omega⟩,_,Nat.mul_one _,?_⟩;refine⟨_,b6 jd ak jb,?_⟩;refine⟨λh=>absurd h (by decide),λ_=>?_⟩;refine⟨(d:Int)+1,wrap64 (by omega) (by omega),?_⟩;exact⟨⟨rfl,aH rfl rfl⟩,⟨d+1,c2,by omega,eu,.inl ⟨fG,rfl⟩⟩,by show(1000-((d:Int)+1)).toNat<(1000-(d:Int)).toNat;omega⟩
   skip;have qi:(diff f c2).testBit p.fr.toNat=false:=by rw[hF,jb,Bool.false_and]
   refine⟨⟨by omega,by omega⟩,_,Nat.mul_one _,?_⟩;refine⟨_,b6 jd ak jb,?_⟩;refine⟨λ_=>?_,λh=>absurd h (by decide)⟩;have dV:=Bool.eq_false_or_eq_true (c2.testBit p.to.toNat);rcases dV with eS|eS
   .skip
    have qj:(diff f c2).testBit p.to.toNat=false:=by rw[hF,eS,Bool.not_true,Bool.and_false]
    refine⟨⟨by omega,by omega⟩,_,Nat.mul_one _,?_⟩;refine⟨_,fJ fZ eS,?_⟩;refine⟨(d:Int)+1,wrap64 (by omega) (by omega),?_⟩;exact⟨⟨rfl,aH rfl rfl⟩,⟨d+1,c2,by omega,eu,.inl ⟨fG,rfl⟩⟩,by show(1000-((d:Int)+1)).toNat<(1000-(d:Int)).toNat;omega⟩
   skip;have dV:=(Bool.eq_false_or_eq_true (f.testBit p.to.toNat)).symm;rcases dV with iH|iH
   .skip
    have qj:(diff f c2).testBit p.to.toNat=false:=by rw[hF,iH,Bool.false_and]
    refine⟨⟨by omega,by omega⟩,_,Nat.mul_one _,?_⟩;refine⟨_,b6 fZ eS iH,?_⟩;refine⟨λh=>absurd h (by decide),λ_=>?_⟩;refine⟨(d:Int)+1,wrap64 (by omega) (by omega),?_⟩;exact⟨⟨rfl,aH rfl rfl⟩,⟨d+1,c2,by omega,eu,.inl ⟨fG,rfl⟩⟩,by show(1000-((d:Int)+1)).toNat<(1000-(d:Int)).toNat;omega⟩
   skip;refine⟨⟨by omega,by omega⟩,_,Nat.mul_one _,?_⟩;refine⟨_,b6 fZ eS iH,?_⟩;refine⟨λ_=>?_,λh=>absurd h (by decide)⟩;have dV:=Bool.eq_false_or_eq_true (b.testBit p.to.toNat);rcases dV with gy|gy
   .skip
    refine⟨⟨by omega,by omega⟩,_,Nat.mul_one _,?_⟩;refine⟨_,b5 fZ gy,?_⟩;refine⟨λh=>absurd h (by decide),λ_=>?_⟩;refine⟨(d:Int)+1,wrap64 (by omega) (by omega),?_⟩;exact⟨⟨rfl,aH rfl rfl⟩,⟨d+1,c2,by omega,eu,.inl ⟨fG,rfl⟩⟩,by show(1000-((d:Int)+1)).toNat<(1000-(d:Int)).toNat;omega⟩
   skip;refine⟨⟨by omega,by omega⟩,_,Nat.mul_one _,?_⟩;refine⟨_,b5 fZ gy,?_⟩;refine⟨λ_=>?_,λh=>absurd h (by decide)⟩;refine⟨⟨by omega,by omega⟩,_,Nat.mul_one _,?_⟩;refine⟨by rw[gx];show 0+_+1<=14;omega,_,gR fZ,?_⟩;have kP:g.testBit p.to.toNat=false:=by
    cases kP:g.testBit p.to.toNat with
    |false=>rfl
    |true=>
     have h1:=(hg.shut i p hp r2).1 kP gy;have h2:=eu _ h1;rw[qi]at h2;cases h2
   have fQ:Sub c2 (c2|||2^p.to.toNat):=λx hx=>by rw[bP,hx];rfl
   have zd:=gw fQ eS (by rw[bP,bL];simp) 7 fZ;refine⟨(d:Int)+1,wrap64 (by omega) (by omega),?_⟩;refine⟨⟨rfl,aH rfl rfl⟩,⟨d+1,c2|||2^p.to.toNat,by omega,λx hx=>?_,.inl ⟨by omega,rfl⟩⟩,by show(1000-((d:Int)+1)).toNat<(1000-(d:Int)).toNat;omega⟩;have h3:=eu x hx;rw[hF]at h3⊢;rw[bP,bL,show decide (x=p.to.toNat)=false from decide_eq_false (λe=>by rw[e,kP]at hx;cases hx),Bool.or_false];exact h3
  skip;refine⟨λr1=>?_,λr1=>?_⟩
  rotate_left
  .have r1:¬(d:Int)<2:=of_decide_eq_false r1
   refine⟨(i:Int)+1,wrap64 (by omega) (by omega),?_⟩;refine⟨⟨rfl,aH rfl rfl⟩,⟨i+1,_,bC,eu,.inr ⟨rfl,λi' q cG hq ho=>?_,rfl⟩⟩,less⟩;by_cases e:i'=i
   .subst e;rw[hp]at hq;cases hq;exact⟨la (by omega) ho,hd2 (by omega) ho⟩
   exact lL i' q (by omega) hq ho
  have r1:(d:Int)<2:=of_decide_eq_true r1;refine Or.inl ⟨by kernel_rfl,?_⟩;refine⟨by omega,_,pK,?_⟩;refine⟨by omega,_,pK,?_⟩;refine⟨λs1=>?_,λs1=>?_⟩
  .have s1:((d:Int)==1)=true:=s1
   have pc:d=1:=by simp at s1;omega
   refine⟨_,rfl,_,sQ bl i mO,?_⟩;refine⟨λr2=>?_,λr2=>?_⟩
   rotate_left
   .have r2:(!(dB bl i))=false:=r2
    have r2:dB bl i=true:=by simpa using r2
    refine⟨(d:Int)+1,wrap64 (by omega) (by omega),?_⟩;exact⟨⟨rfl,aH rfl rfl⟩,⟨d+1,_,by omega,eu,.inr ⟨rfl,lL,λ_ ho=>la (by omega) ho,λ_ ho=>(by rw[r2]at ho;cases ho),rfl⟩⟩,by show(1000-((d:Int)+1)).toNat<(1000-(d:Int)).toNat;omega⟩
   have r2:(!(dB bl i))=true:=r2;have r2:dB bl i=false:=by simpa using r2
   have dV:=Bool.eq_false_or_eq_true (c2.testBit p.to.toNat);rcases dV with ak|ak
   .skip
    have qi:(diff f c2).testBit p.to.toNat=false:=by rw[hF,ak,Bool.not_true,Bool.and_false]
    refine⟨⟨by omega,by omega⟩,_,Nat.mul_one _,?_⟩;refine⟨_,fJ fZ ak,?_⟩;have dV:=Bool.eq_false_or_eq_true (c2.testBit p.fr.toNat);rcases dV with eS|eS
    .skip
     have qj:(diff f c2).testBit p.fr.toNat=false:=by rw[hF,eS,Bool.not_true,Bool.and_false]
     refine⟨⟨by omega,by omega⟩,_,Nat.mul_one _,?_⟩;refine⟨_,fJ jd eS,?_⟩;refine⟨(d:Int)+1,wrap64 (by omega) (by omega),?_⟩;exact⟨⟨rfl,aH rfl rfl⟩,⟨d+1,_,by omega,eu,.inr ⟨rfl,lL,λ_ ho=>la (by omega) ho,λ_ ho=>(λh=>by rw[qj]at h;cases h),rfl⟩⟩,by show(1000-((d:Int)+1)).toNat<(1000-(d:Int)).toNat;omega⟩
    skip;have dV:=(Bool.eq_false_or_eq_true (f.testBit p.fr.toNat)).symm;rcases dV with iH|iH
    .skip
     have qj:(diff f c2).testBit p.fr.toNat=false:=by rw[hF,iH,Bool.false_and]
     refine⟨⟨by omega,by omega⟩,_,Nat.mul_one _,?_⟩;refine⟨_,b6 jd eS iH,?_⟩;refine⟨λh=>absurd h (by decide),λ_=>?_⟩;refine⟨(d:Int)+1,wrap64 (by omega) (by omega),?_⟩;exact⟨⟨rfl,aH rfl rfl⟩,⟨d+1,_,by omega,eu,.inr ⟨rfl,lL,λ_ ho=>la (by omega) ho,λ_ ho=>(λh=>by rw[qj]at h;cases h),rfl⟩⟩,by show(1000-((d:Int)+1)).toNat<(1000-(d:Int)).toNat;omega⟩
    skip;refine⟨⟨by omega,by omega⟩,_,Nat.mul_one _,?_⟩;refine⟨_,b6 jd eS iH,?_⟩;refine⟨λ_=>?_,λh=>absurd h (by decide)⟩;have dV:=Bool.eq_false_or_eq_true (b.testBit p.fr.toNat);rcases dV with gy|gy
    .skip
     refine⟨⟨by omega,by omega⟩,_,Nat.mul_one _,?_⟩;refine⟨_,b5 jd gy,?_⟩;refine⟨λh=>absurd h (by decide),λ_=>?_⟩;refine⟨(d:Int)+1,wrap64 (by omega) (by omega),?_⟩;exact⟨⟨rfl,aH rfl rfl⟩,⟨d+1,_,by omega,eu,.inr ⟨rfl,lL,λ_ ho=>la (by omega) ho,λ_ ho=>(λ_ h=>by rw[gy]at h;cases h),rfl⟩⟩,by show(1000-((d:Int)+1)).toNat<(1000-(d:Int)).toNat;omega⟩
    skip;refine⟨⟨by omega,by omega⟩,_,Nat.mul_one _,?_⟩;refine⟨_,b5 jd gy,?_⟩;refine⟨λ_=>?_,λh=>absurd h (by decide)⟩;refine⟨⟨by omega,by omega⟩,_,Nat.mul_one _,?_⟩;refine⟨by rw[gx];show 0+_+1<=14;omega,_,gR jd,?_⟩;have kP:g.testBit p.fr.toNat=false:=by
     cases kP:g.testBit p.fr.toNat with
     |false=>rfl
     |true=>
      have h1:=(hg.shut i p hp r2).2 kP gy;have h2:=eu _ h1;rw[qi]at h2;cases h2
    have fQ:Sub c2 (c2|||2^p.fr.toNat):=λx hx=>by rw[bP,hx];rfl
    have zd:=gw fQ eS (by rw[bP,bL];simp) 7 jd;refine⟨(d:Int)+1,wrap64 (by omega) (by omega),?_⟩;refine⟨⟨rfl,aH rfl rfl⟩,⟨d+1,c2|||2^p.fr.toNat,by omega,λx hx=>?_,.inl ⟨by omega,rfl⟩⟩,by show(1000-((d:Int)+1)).toNat<(1000-(d:Int)).toNat;omega⟩;have h3:=eu x hx;rw[hF]at h3⊢;rw[bP,bL,show decide (x=p.fr.toNat)=false from decide_eq_false (λe=>by rw[e,kP]at hx;cases hx),Bool.or_false];exact h3
   skip;have dV:=Bool.eq_false_or_eq_true (f.testBit p.to.toNat);rcases dV with jb|jb
   .skip
    have qi:(diff f c2).testBit p.to.toNat=true:=by rw[hF,ak,jb];rfl
    refine⟨⟨by omega,by omega⟩,_,Nat.mul_one _,?_⟩;refine⟨_,b6 fZ ak jb,?_⟩;refine⟨λh=>absurd h (by decide),λ_=>?_⟩;refine⟨(d:Int)+1,wrap64 (by omega) (by omega),?_⟩;exact⟨⟨rfl,aH rfl rfl⟩,⟨d+1,_,by omega,eu,.inr ⟨rfl,lL,λ_ ho=>la (by omega) ho,λ_ ho=>(λ_ _=>qi),rfl⟩⟩,by show(1000-((d:Int)+1)).toNat<(1000-(d:Int)).toNat;omega⟩
   skip;have qi:(diff f c2).testBit p.to.toNat=false:=by rw[hF,jb,Bool.false_and]
   refine⟨⟨by omega,by omega⟩,_,Nat.mul_one _,?_⟩;refine⟨_,b6 fZ ak jb,?_⟩;refine⟨λ_=>?_,λh=>absurd h (by decide)⟩;have dV:=Bool.eq_false_or_eq_true (c2.testBit p.fr.toNat);rcases dV with eS|eS
   .skip
    have qj:(diff f c2).testBit p.fr.toNat=false:=by rw[hF,eS,Bool.not_true,Bool.and_false]
    refine⟨⟨by omega,by omega⟩,_,Nat.mul_one _,?_⟩;refine⟨_,fJ jd eS,?_⟩;refine⟨(d:Int)+1,wrap64 (by omega) (by omega),?_⟩;exact⟨⟨rfl,aH rfl rfl⟩,⟨d+1,_,by omega,eu,.inr ⟨rfl,lL,λ_ ho=>la (by omega) ho,λ_ ho=>(λh=>by rw[qj]at h;cases h),rfl⟩⟩,by show(1000-((d:Int)+1)).toNat<(1000-(d:Int)).toNat;omega⟩
   skip;have dV:=(Bool.eq_false_or_eq_true (f.testBit p.fr.toNat)).symm;rcases dV with iH|iH
   .skip
    have qj:(diff f c2).testBit p.fr.toNat=false:=by rw[hF,iH,Bool.false_and]
    refine⟨⟨by omega,by omega⟩,_,Nat.mul_one _,?_⟩;refine⟨_,b6 jd eS iH,?_⟩;refine⟨λh=>absurd h (by decide),λ_=>?_⟩;refine⟨(d:Int)+1,wrap64 (by omega) (by omega),?_⟩;exact⟨⟨rfl,aH rfl rfl⟩,⟨d+1,_,by omega,eu,.inr ⟨rfl,lL,λ_ ho=>la (by omega) ho,λ_ ho=>(λh=>by rw[qj]at h;cases h),rfl⟩⟩,by show(1000-((d:Int)+1)).toNat<(1000-(d:Int)).toNat;omega⟩
   skip;refine⟨⟨by omega,by omega⟩,_,Nat.mul_one _,?_⟩;refine⟨_,b6 jd eS iH,?_⟩;refine⟨λ_=>?_,λh=>absurd h (by decide)⟩;have dV:=Bool.eq_false_or_eq_true (b.testBit p.fr.toNat);rcases dV with gy|gy
   .skip
    refine⟨⟨by omega,by omega⟩,_,Nat.mul_one _,?_⟩;refine⟨_,b5 jd gy,?_⟩;refine⟨λh=>absurd h (by decide),λ_=>?_⟩;refine⟨(d:Int)+1,wrap64 (by omega) (by omega),?_⟩;exact⟨⟨rfl,aH rfl rfl⟩,⟨d+1,_,by omega,eu,.inr ⟨rfl,lL,λ_ ho=>la (by omega) ho,λ_ ho=>(λ_ h=>by rw[gy]at h;cases h),rfl⟩⟩,by show(1000-((d:Int)+1)).toNat<(1000-(d:Int)).toNat;omega⟩
   skip;refine⟨⟨by omega,by omega⟩,_,Nat.mul_one _,?_⟩;refine⟨_,b5 jd gy,?_⟩;refine⟨λ_=>?_,λh=>absurd h (by decide)⟩;refine⟨⟨by omega,by omega⟩,_,Nat.mul_one _,?_⟩;refine⟨by rw[gx];show 0+_+1<=14;omega,_,gR jd,?_⟩;have kP:g.testBit p.fr.toNat=false:=by
    cases kP:g.testBit p.fr.toNat with
    |false=>rfl
    |true=>
     have h1:=(hg.shut i p hp r2).2 kP gy;have h2:=eu _ h1;rw[qi]at h2;cases h2
   have fQ:Sub c2 (c2|||2^p.fr.toNat):=λx hx=>by rw[bP,hx];rfl
   have zd:=gw fQ eS (by rw[bP,bL];simp) 7 jd;refine⟨(d:Int)+1,wrap64 (by omega) (by omega),?_⟩;refine⟨⟨rfl,aH rfl rfl⟩,⟨d+1,c2|||2^p.fr.toNat,by omega,λx hx=>?_,.inl ⟨by omega,rfl⟩⟩,by show(1000-((d:Int)+1)).toNat<(1000-(d:Int)).toNat;omega⟩;have h3:=eu x hx;rw[hF]at h3⊢;rw[bP,bL,show decide (x=p.fr.toNat)=false from decide_eq_false (λe=>by rw[e,kP]at hx;cases hx),Bool.or_false];exact h3
  have s1:((d:Int)==1)=false:=s1;have pc:d=0:=by simp at s1;omega
  refine⟨_,rfl,_,sQ bl i mO,?_⟩;refine⟨λr2=>?_,λr2=>?_⟩
  rotate_left
  .have r2:(!(dB bl i))=false:=r2
   have r2:dB bl i=true:=by simpa using r2
   refine⟨(d:Int)+1,wrap64 (by omega) (by omega),?_⟩;exact⟨⟨rfl,aH rfl rfl⟩,⟨d+1,_,by omega,eu,.inr ⟨rfl,lL,λ_ ho=>(by rw[r2]at ho;cases ho),λh=>absurd h (by omega),rfl⟩⟩,by show(1000-((d:Int)+1)).toNat<(1000-(d:Int)).toNat;omega⟩
  have r2:(!(dB bl i))=true:=r2;have r2:dB bl i=false:=by simpa using r2
  have dV:=Bool.eq_false_or_eq_true (c2.testBit p.fr.toNat);rcases dV with ak|ak
  .skip
   have qi:(diff f c2).testBit p.fr.toNat=false:=by rw[hF,ak,Bool.not_true,Bool.and_false]
   refine⟨⟨by omega,by omega⟩,_,Nat.mul_one _,?_⟩;refine⟨_,fJ jd ak,?_⟩;have dV:=Bool.eq_false_or_eq_true (c2.testBit p.to.toNat);rcases dV with eS|eS
   .skip
    have qj:(diff f c2).testBit p.to.toNat=false:=by rw[hF,eS,Bool.not_true,Bool.and_false]
    refine⟨⟨by omega,by omega⟩,_,Nat.mul_one _,?_⟩;refine⟨_,fJ fZ eS,?_⟩;refine⟨(d:Int)+1,wrap64 (by omega) (by omega),?_⟩;exact⟨⟨rfl,aH rfl rfl⟩,⟨d+1,_,by omega,eu,.inr ⟨rfl,lL,λ_ ho=>(λh=>by rw[qj]at h;cases h),λh=>absurd h (by omega),rfl⟩⟩,by show(1000-((d:Int)+1)).toNat<(1000-(d:Int)).toNat;omega⟩
   skip;have dV:=(Bool.eq_false_or_eq_true (f.testBit p.to.toNat)).symm;rcases dV with iH|iH
   .skip
    have qj:(diff f c2).testBit p.to.toNat=false:=by rw[hF,iH,Bool.false_and]
    refine⟨⟨by omega,by omega⟩,_,Nat.mul_one _,?_⟩;refine⟨_,b6 fZ eS iH,?_⟩;refine⟨λh=>absurd h (by decide),λ_=>?_⟩;refine⟨(d:Int)+1,wrap64 (by omega) (by omega),?_⟩;exact⟨⟨rfl,aH rfl rfl⟩,⟨d+1,_,by omega,eu,.inr ⟨rfl,lL,λ_ ho=>(λh=>by rw[qj]at h;cases h),λh=>absurd h (by omega),rfl⟩⟩,by show(1000-((d:Int)+1)).toNat<(1000-(d:Int)).toNat;omega⟩
   skip;refine⟨⟨by omega,by omega⟩,_,Nat.mul_one _,?_⟩;refine⟨_,b6 fZ eS iH,?_⟩;refine⟨λ_=>?_,λh=>absurd h (by decide)⟩;have dV:=Bool.eq_false_or_eq_true (b.testBit p.to.toNat);rcases dV with gy|gy
   .skip
    refine⟨⟨by omega,by omega⟩,_,Nat.mul_one _,?_⟩;refine⟨_,b5 fZ gy,?_⟩;refine⟨λh=>absurd h (by decide),λ_=>?_⟩;refine⟨(d:Int)+1,wrap64 (by omega) (by omega),?_⟩;exact⟨⟨rfl,aH rfl rfl⟩,⟨d+1,_,by omega,eu,.inr ⟨rfl,lL,λ_ ho=>(λ_ h=>by rw[gy]at h;cases h),λh=>absurd h (by omega),rfl⟩⟩,by show(1000-((d:Int)+1)).toNat<(1000-(d:Int)).toNat;omega⟩
   skip;refine⟨⟨by omega,by omega⟩,_,Nat.mul_one _,?_⟩;refine⟨_,b5 fZ gy,?_⟩;refine⟨λ_=>?_,λh=>absurd h (by decide)⟩;refine⟨⟨by omega,by omega⟩,_,Nat.mul_one _,?_⟩;refine⟨by rw[gx];show 0+_+1<=14;omega,_,gR fZ,?_⟩;have kP:g.testBit p.to.toNat=false:=by
    cases kP:g.testBit p.to.toNat with
    |false=>rfl
    |true=>
     have h1:=(hg.shut i p hp r2).1 kP gy;have h2:=eu _ h1;rw[qi]at h2;cases h2
   have fQ:Sub c2 (c2|||2^p.to.toNat):=λx hx=>by rw[bP,hx];rfl
   have zd:=gw fQ eS (by rw[bP,bL];simp) 7 fZ;refine⟨(d:Int)+1,wrap64 (by omega) (by omega),?_⟩;refine⟨⟨rfl,aH rfl rfl⟩,⟨d+1,c2|||2^p.to.toNat,by omega,λx hx=>?_,.inl ⟨by omega,rfl⟩⟩,by show(1000-((d:Int)+1)).toNat<(1000-(d:Int)).toNat;omega⟩;have h3:=eu x hx;rw[hF]at h3⊢;rw[bP,bL,show decide (x=p.to.toNat)=false from decide_eq_false (λe=>by rw[e,kP]at hx;cases hx),Bool.or_false];exact h3
  skip;have dV:=Bool.eq_false_or_eq_true (f.testBit p.fr.toNat);rcases dV with jb|jb
  .skip
   have qi:(diff f c2).testBit p.fr.toNat=true:=by rw[hF,ak,jb];rfl
   refine⟨⟨by omega,by omega⟩,_,Nat.mul_one _,?_⟩;refine⟨_,b6 jd ak jb,?_⟩;refine⟨λh=>absurd h (by decide),λ_=>?_⟩;refine⟨(d:Int)+1,wrap64 (by omega) (by omega),?_⟩;exact⟨⟨rfl,aH rfl rfl⟩,⟨d+1,_,by omega,eu,.inr ⟨rfl,lL,λ_ ho=>(λ_ _=>qi),λh=>absurd h (by omega),rfl⟩⟩,by show(1000-((d:Int)+1)).toNat<(1000-(d:Int)).toNat;omega⟩
  skip;have qi:(diff f c2).testBit p.fr.toNat=false:=by rw[hF,jb,Bool.false_and]
  refine⟨⟨by omega,by omega⟩,_,Nat.mul_one _,?_⟩;refine⟨_,b6 jd ak jb,?_⟩;refine⟨λ_=>?_,λh=>absurd h (by decide)⟩;have dV:=Bool.eq_false_or_eq_true (c2.testBit p.to.toNat);rcases dV with eS|eS
  .skip
   have qj:(diff f c2).testBit p.to.toNat=false:=by rw[hF,eS,Bool.not_true,Bool.and_false]
   refine⟨⟨by omega,by omega⟩,_,Nat.mul_one _,?_⟩;refine⟨_,fJ fZ eS,?_⟩;refine⟨(d:Int)+1,wrap64 (by omega) (by omega),?_⟩;exact⟨⟨rfl,aH rfl rfl⟩,⟨d+1,_,by omega,eu,.inr ⟨rfl,lL,λ_ ho=>(λh=>by rw[qj]at h;cases h),λh=>absurd h (by omega),rfl⟩⟩,by show(1000-((d:Int)+1)).toNat<(1000-(d:Int)).toNat;omega⟩
  skip;have dV:=(Bool.eq_false_or_eq_true (f.testBit p.to.toNat)).symm;rcases dV with iH|iH
  .skip
   have qj:(diff f c2).testBit p.to.toNat=false:=by rw[hF,iH,Bool.false_and]
   refine⟨⟨by omega,by omega⟩,_,Nat.mul_one _,?_⟩;refine⟨_,b6 fZ eS iH,?_⟩;refine⟨λh=>absurd h (by decide),λ_=>?_⟩;refine⟨(d:Int)+1,wrap64 (by omega) (by omega),?_⟩;exact⟨⟨rfl,aH rfl rfl⟩,⟨d+1,_,by omega,eu,.inr ⟨rfl,lL,λ_ ho=>(λh=>by rw[qj]at h;cases h),λh=>absurd h (by omega),rfl⟩⟩,by show(1000-((d:Int)+1)).toNat<(1000-(d:Int)).toNat;omega⟩
  skip;refine⟨⟨by omega,by omega⟩,_,Nat.mul_one _,?_⟩;refine⟨_,b6 fZ eS iH,?_⟩;refine⟨λ_=>?_,λh=>absurd h (by decide)⟩;have dV:=Bool.eq_false_or_eq_true (b.testBit p.to.toNat);rcases dV with gy|gy
  .skip
   refine⟨⟨by omega,by omega⟩,_,Nat.mul_one _,?_⟩;refine⟨_,b5 fZ gy,?_⟩;refine⟨λh=>absurd h (by decide),λ_=>?_⟩;refine⟨(d:Int)+1,wrap64 (by omega) (by omega),?_⟩;exact⟨⟨rfl,aH rfl rfl⟩,⟨d+1,_,by omega,eu,.inr ⟨rfl,lL,λ_ ho=>(λ_ h=>by rw[gy]at h;cases h),λh=>absurd h (by omega),rfl⟩⟩,by show(1000-((d:Int)+1)).toNat<(1000-(d:Int)).toNat;omega⟩
  skip;refine⟨⟨by omega,by omega⟩,_,Nat.mul_one _,?_⟩;refine⟨_,b5 fZ gy,?_⟩;refine⟨λ_=>?_,λh=>absurd h (by decide)⟩;refine⟨⟨by omega,by omega⟩,_,Nat.mul_one _,?_⟩;refine⟨by rw[gx];show 0+_+1<=14;omega,_,gR fZ,?_⟩;have kP:g.testBit p.to.toNat=false:=by
   cases kP:g.testBit p.to.toNat with
   |false=>rfl
   |true=>
    have h1:=(hg.shut i p hp r2).1 kP gy;have h2:=eu _ h1;rw[qi]at h2;cases h2
  have fQ:Sub c2 (c2|||2^p.to.toNat):=λx hx=>by rw[bP,hx];rfl
  have zd:=gw fQ eS (by rw[bP,bL];simp) 7 fZ;refine⟨(d:Int)+1,wrap64 (by omega) (by omega),?_⟩;refine⟨⟨rfl,aH rfl rfl⟩,⟨d+1,c2|||2^p.to.toNat,by omega,λx hx=>?_,.inl ⟨by omega,rfl⟩⟩,by show(1000-((d:Int)+1)).toNat<(1000-(d:Int)).toNat;omega⟩;have h3:=eu x hx;rw[hF]at h3⊢;rw[bP,bL,show decide (x=p.to.toNat)=false from decide_eq_false (λe=>by rw[e,kP]at hx;cases hx),Bool.or_false];exact h3
def iL(z:Bool)(f i:Nat):D:=match z with|true=>.ff|false=>.bool (f.testBit i)
def Uw(z:Bool)(f b:Nat):List D:=(List.range 7).map (iL z f)++(List.range 7).map (iL z b)
theorem AD{bs:List af}{m:Nat}{z:Bool}{f i:Nat}(h:z=true->f=0):reify bs (m+1) (iL z f i)=some (.bool (f.testBit i)):=by
 unfold iL;cases z with
 |true=>rw[h rfl,Nat.zero_testBit];rfl
 |false=>rfl
theorem MA{bs:List af}{m:Nat}{z:Bool}{f b:Nat}(hf:z=true->f=0)(hb:z=true->b=0):bY (reify bs (m+1)) (Uw z f b)=some (C6 f b):=by
 have h2:∀(l:List Nat),bY (reify bs (m+1)) (l.map (iL z b))=some (l.map (λi=>D.bool (b.testBit i))):=by
  intro l
  induction l with
  |nil=>rfl
  |cons i l ih=>exact ag (AD hb) ih
 have h1:∀(l:List Nat),bY (reify bs (m+1)) (l.map (iL z f)++(List.range 7).map (iL z b))=some (l.map (λi=>D.bool (f.testBit i))++gf b):=by
  intro l
  induction l with
  |nil=>exact h2 _
  |cons i l ih=>exact ag (AD hf) ih
 exact h1 _
theorem AE{bs:List af}{m:Nat}(z:Bool)(f:Nat)(h:z=true->f=0):bY (reify bs (m+1)) ((List.range 7).map (iL z f))=some (gf f):=by
 have h2:∀(l:List Nat),bY (reify bs (m+1)) (l.map (iL z f))=some (l.map (λi=>D.bool (f.testBit i))):=by
  intro l
  induction l with
  |nil=>rfl
  |cons i l ih=>exact ag (AD h) ih
 exact h2 _
theorem IQ(nb:Nat)(z:Bool)(f b:Nat):da nb (Uw z f b)=true:=by cases z<;>rfl
def yL(v f i:Nat):D:=match decide (i=v)with|true=>.tt|false=>.bool (f.testBit i)
def stT(v f b:Nat):List D:=(List.range 7).map (yL v f)++gf b
theorem ON{bs:List af}{m v f i:Nat}:reify bs (m+1) (yL v f i)=some (.bool ((f|||2^v).testBit i)):=by
 unfold yL;rw[bP,bL];cases decide (i=v)with
 |true=>rw[Bool.or_true];rfl
 |false=>rw[Bool.or_false];rfl
theorem MB{bs:List af}{m v f b:Nat}:bY (reify bs (m+1)) (stT v f b)=some (C6 (f|||2^v) b):=by
 have h1:∀(l:List Nat),bY (reify bs (m+1)) (l.map (yL v f)++gf b)=some (l.map (λi=>D.bool ((f|||2^v).testBit i))++gf b):=by
  intro l
  induction l with
  |nil=>rfl
  |cons i l ih=>exact ag ON ih
 exact h1 _
theorem rG(f b:Nat):(C6 f b).length=14:=rfl
theorem MC{f b i:Nat}(h:i<7):(C6 f b)[7+i]?=some (.bool (b.testBit i)):=by
 rw[<-C8];exact C7 h
theorem MD{f b v:Nat}(h:v<7):cd (C6 f b) (0+v) [.tt]=stT v f b:=by
 rw[Nat.zero_add,mF (by rw[rG];omega)];unfold C6 stT;rw[List.set_append_left (h:=by rw[sR];exact h)];congr 1;apply List.ext_getElem?;intro j;rw[List.getElem?_set];simp only[gf,List.getElem?_map,List.length_map,List.length_range];by_cases e:v=j
 .subst e
  rw[if_pos rfl,if_pos h];simp[h,yL]
 rw[if_neg e];by_cases hj:j<7
 .simp only[List.getElem?_range hj,Option.map_some,yL]
  rw[show decide (j=v)=false from decide_eq_false (λh=>e h.symm)]
 simp[hj]
theorem Da{f b b' v:Nat}{x:Bool}(h:v<7)(hb:∀j,b'.testBit j=if j=v then x else b.testBit j):cd (C6 f b) (7+v) [.bool x]=C6 f b':=by
 rw[mF (by rw[rG];omega)];unfold C6;rw[List.set_append_right (h:=by rw[sR];omega),sR,show 7+v-7=v by omega];congr 1;apply List.ext_getElem?;intro j;rw[List.getElem?_set];simp only[gf,List.getElem?_map,List.length_map,List.length_range];by_cases e:v=j
 .subst e
  rw[if_pos rfl,if_pos h];simp[h,hb]
 rw[if_neg e];by_cases hj:j<7
 .simp only[List.getElem?_range hj,Option.map_some]
  rw[hb j,if_neg (λh=>e h.symm)]
 simp[hj]
theorem IS{n:Nt}{bl wt:List Int}{v:Nat}{t:Tk}(ht:n.ad[v]?=some t):(n.look bl wt).kept.testBit v=t.kept:=by
 show(setOf n.ad.length n.tN).testBit v=_;have hv:=(List.getElem?_eq_some_iff.1 ht).1;rw[oU,decide_eq_true hv,Bool.true_and];unfold Nt.tN;rw[ht]
theorem Ts(n:Nt)(hn:n.Ok)(bl wt:List Int)(mO:bl.length<9223372036854775808)(f b v:Nat)(hf:f<2^7)(hv:v<n.ad.length)(off:Bool):
    DN 112 [.agg n.enc,.list 1 (bl.map aC),.agg (C6 f b),.agg [.int .i64 v,.bool off]] (.b9 [.agg (C6 ((n.look bl wt).cE f b v off).1.1 ((n.look bl wt).cE f b v off).1.2),.bool ((n.look bl wt).cE f b v off).2]):=by
  have h7:=hn.t7;have XX:v<7:=by omega
  obtain⟨t,ht⟩:∃t,n.ad[v]?=some t:=⟨_,List.getElem?_eq_getElem hv⟩;have hk:=IS (n:=n) (bl:=bl) (wt:=wt) ht;have XY:(n.ad.map Tk.enc)[((v:Nat):Int).toNat]?=some t.enc:=by rw[Int.toNat_natCast,List.getElem?_map,ht];rfl
  refine mk Tryz.func112 Tryz.call112 rfl rfl ?_;refine Or.inl ⟨by kernel_rfl,?_⟩;refine⟨by omega,_,XY,?_⟩;refine⟨λh1=>?_,λh1=>?_⟩
  .have h1:t.kept=true:=h1
   have e:(n.look bl wt).cE f b v off=((f,b),false):=by unfold aR.cE;rw[if_pos (by rw[hk,h1];rfl)]
   rw[e];rfl
  have h1:t.kept=false:=h1;refine⟨⟨by omega,by omega⟩,_,Nat.mul_one _,?_⟩;refine⟨_,MC XX,?_⟩;refine⟨λh2=>?_,λh2=>?_⟩
  .have h2:(!(b.testBit v==off))=true:=h2
   have e:(n.look bl wt).cE f b v off=((f,b),false):=by unfold aR.cE;rw[if_pos (by rw[hk,h1,h2];rfl)]
   rw[e];rfl
  have h2:(!(b.testBit v==off))=false:=h2;cases off with
  |true=>
   have e:(n.look bl wt).cE f b v true=(((n.look bl wt).spread f (diff b (2^v)),diff b (2^v)),true):=by unfold aR.cE;rw[if_neg (by rw[hk,h1,h2];decide)]
   rw[e];have SA:=Mz n hn bl mO f (diff b (2^v)) _ (yK hn bl wt hf);refine⟨⟨by omega,by omega⟩,_,Nat.mul_one _,?_⟩;refine⟨by rw[rG];show 7+_+1<=14;omega,_,Da XX OM,?_⟩;refine⟨λh=>absurd h (by decide),λ_=>?_⟩;exact⟨_,rfl,_,SA,rfl⟩
  |false=>
   have e:(n.look bl wt).cE f b v false=(((n.look bl wt).spread (f|||2^v) (b|||2^v),b|||2^v),true):=by unfold aR.cE;rw[if_neg (by rw[hk,h1,h2];decide)]
   rw[e];have SA:=Mz n hn bl mO (f|||2^v) (b|||2^v) _ (yK hn bl wt (pH hf (wO XX)));refine⟨⟨by omega,by omega⟩,_,Nat.mul_one _,?_⟩;refine⟨by rw[rG];show 7+_+1<=14;omega,_,Da XX XW,?_⟩;refine⟨λ_=>?_,λh=>absurd h (by decide)⟩;refine⟨⟨by omega,by omega⟩,_,Nat.mul_one _,?_⟩;refine⟨by rw[rG];show 0+_+1<=14;omega,_,MD XX,?_⟩;exact⟨_,ag rfl (ag rfl (ag (ej (MB (v:=v) (f:=f) (b:=b|||2^v))) rfl)),_,SA,rfl⟩
theorem XZ(n:Nt)(bl:List Int)(steps:List Vs)(mO:bl.length<9223372036854775808)(abT:steps.length<9223372036854775808):DN 28 [.agg n.enc,.list 1 (bl.map aC),.list 2 (steps.map Vs.enc)] (ou (n.gb bl steps)):=by
 have qo:((steps.map Vs.enc).length:Int)=steps.length:=by simp
 have nn:((n.ad.map Tk.enc).length:Int)=n.ad.length:=by simp
 refine mk Tryz.func28 Tryz.call28 rfl rfl ?_;refine⟨_,rfl,_,Tr n bl mO,?_⟩;obtain⟨e0,xX⟩:∃e,n.eZ bl [] false=e:=⟨_,rfl⟩;rw[xX];obtain⟨m,hm⟩:∃m,n.look bl []=m:=⟨_,rfl⟩;have bad:∀(e:Int),e≠0->∀r:Int×Nat×Nat,r.1=e->ou r=.b9 [.agg [.list 0 [],.list 0 []],.int .i64 e]:=λe h r hr=>by
  obtain⟨a,y⟩:=r;have hr:a=e:=hr;subst hr;exact kN h
 refine⟨λh1=>?_,λh1=>?_⟩
 rotate_left
 ·
  have h1:(e0==0)=false:=h1;have h1:e0≠0:=by simpa using h1
  have hR:(n.gb bl steps).1=e0:=by unfold Nt.gb;rw[if_neg (by rw[xX];exact h1),xX]
  rw[bad e0 h1 _ hR];refine⟨[1,2,3,6,8,9,10],3,[],λU=>U=⟨[(1,.list 1 (bl.map aC)),(2,.list 2 (steps.map Vs.enc)),(3,.loc 0 0),(6,.loc 1 0),(8,.int .i64 e0),(9,.loc 2 0),(10,.int .i64 0)],[.flat false n.enc,.flat false [.ao,.ao],.flat false (Uw true 0 0)],.aQ⟩,
   λU=>0,rfl,⟨rfl,rfl⟩,rfl,?_⟩
  rintro U rfl;have hex:(e0 !=0)=true:=by simpa using h1
  refine⟨λq1=>?_,λq1=>?_⟩
  .refine⟨λq2=>?_,λq2=>?_⟩
   .have q2:(e0==0)=true:=q2
    exact absurd (by simpa using q2) h1
   refine⟨λ_=>rfl,λq3=>?_⟩;rw[hex]at q3;cases q3
  refine⟨λ_=>rfl,λq3=>?_⟩;rw[hex]at q3;cases q3
 have h1:(e0==0)=true:=h1;obtain rfl:e0=0:=by simpa using h1
 have hn:=(Nt.rD xX).1;have h7:=hn.t7;have hR:n.gb bl steps=if steps.length>60 then(3,0,0)else m.ct steps 0 0:=by unfold Nt.gb;rw[if_pos xX,hm]
 have hmt:m.ad=n.ad:=by rw[<-hm];rfl
 refine⟨λh2=>?_,λh2=>?_⟩
 .have h2:=of_decide_eq_true h2
  rw[qo]at h2;rw[if_pos (by omega)]at hR;rw[hR,kN (by decide)];refine⟨[1,2,3,6,8,9,10],3,[],λU=>U=⟨[(1,.list 1 (bl.map aC)),(2,.list 2 (steps.map Vs.enc)),(3,.loc 0 0),(6,.loc 1 0),(8,.int .i64 3),(9,.loc 2 0),(10,.int .i64 0)],[.flat false n.enc,.flat false [.ao,.ao],.flat false (Uw true 0 0)],.aQ⟩,
   λU=>0,rfl,⟨rfl,rfl⟩,rfl,?_⟩
  rintro U rfl;refine⟨λq1=>?_,λq1=>?_⟩
  .refine⟨λh=>absurd h (by decide),λ_=>?_⟩
   exact⟨λ_=>rfl,λh=>absurd h (by decide)⟩
  exact⟨λ_=>rfl,λh=>absurd h (by decide)⟩
 have h2:=of_decide_eq_false h2;rw[qo]at h2;rw[if_neg (by omega)]at hR;refine⟨[1,2,3,6,8,9,10],3,[],λU=>∃(i f b:Nat)(e:Int)(z:Bool),i<=steps.length/\f<2^7/\b<2^7/\(z=true->f=0)/\(z=true->b=0)/\(e=0->n.gb bl steps=m.ct (steps.drop i) f b)/\(e≠0->(n.gb bl steps).1=e)/\
  U=⟨[(1,.list 1 (bl.map aC)),(2,.list 2 (steps.map Vs.enc)),(3,.loc 0 0),(6,.loc 1 0),(8,.int .i64 e),(9,.loc 2 0),(10,.int .i64 i)],[.flat false n.enc,.flat false [.ao,.ao],.flat false (Uw z f b)],.aQ⟩,
  λU=>(1000-aZ 10 U).toNat,rfl,⟨rfl,rfl⟩,⟨0,0,0,0,true,Nat.zero_le _,by decide,by decide,λ_=>rfl,λ_=>rfl,λ_=>hR,λh=>absurd rfl h,rfl⟩,?_⟩
 rintro U⟨i,f,b,e,z,hi,hf,hb,Zk,Zl,ov,abk,rfl⟩;have okB:∀(z:Bool)(f b:Nat),aS 3 [.flat false n.enc,.flat false [.ao,.ao],.flat false (Uw z f b)]=true:=λz f b=>by simp[aS,IQ];rfl
 have fail:e≠0->ou (n.gb bl steps)=.b9 [.agg [.list 0 [],.list 0 []],.int .i64 e]:=λh=>bad e h _ (abk h);refine⟨λq1=>?_,λq1=>?_⟩
 rotate_left
 .have q1:=of_decide_eq_false q1
  rw[qo]at q1;refine⟨λq2=>?_,λq2=>?_⟩
  .have q2:(e !=0)=true:=q2
   rw[fail (by simpa using q2)];rfl
  have q2:(e !=0)=false:=q2;obtain rfl:e=0:=by simpa using q2
  have ov:=ov rfl;rw[List.drop_of_length_le (by omega)]at ov;rw[ov];cases z with
  |true=>
   refine Or.inl ⟨by kernel_rfl,?_⟩;refine⟨_,ag (ej (AE true f Zk)) rfl,_,AB f,?_⟩;refine⟨_,ag (ej (AE true b Zl)) rfl,_,AB b,?_⟩;rfl
  |false=>
   refine Or.inl ⟨by kernel_rfl,?_⟩;refine⟨_,ag (ej (AE false f Zk)) rfl,_,AB f,?_⟩;refine⟨_,ag (ej (AE false b Zl)) rfl,_,AB b,?_⟩;rfl
 have q1:=of_decide_eq_true q1;rw[qo]at q1;have bC:i<steps.length:=by omega
 have less:(1000-((i:Int)+1)).toNat<(1000-(i:Int)).toNat:=by omega
 refine⟨λq2=>?_,λq2=>?_⟩
 rotate_left
 .have q2:(e==0)=false:=q2
  have q2:e≠0:=by simpa using q2
  refine⟨λ_=>?_,λq3=>?_⟩
  .rw[fail q2];rfl
  have q3:(e !=0)=false:=q3;exact absurd (by simpa using q3) q2
 have q2:(e==0)=true:=q2;obtain rfl:e=0:=by simpa using q2
 have ov:=ov rfl;obtain⟨x,hx⟩:∃x,steps[i]'bC=x:=⟨_,rfl⟩;have ea:steps.drop i=x::steps.drop (i+1):=by rw[List.drop_eq_getElem_cons bC,hx]
 have aI:(steps.map Vs.enc)[((i:Int)).toNat]?=some x.enc:=by simp[bC,hx]
 have cH:m.ct (steps.drop i) f b=match cP n.ad.length x.eR with
  |true=>(4,f,b)
  |false=>match m.cE f b x.eR.toNat x.off with
   |(_,false)=>(2,f,b)
   |((f',b'),true)=>m.ct (steps.drop (i+1)) f' b':=by rw[ea,<-hmt];rfl
 have h54:DN 111 [.int .i64 x.eR,.int .i64 ((n.ad.map Tk.enc).length:Int)] (.bool (!(cP n.ad.length x.eR))):=by
  have h:=Az x.eR ((n.ad.map Tk.enc).length:Int);rw[show cP ((n.ad.map Tk.enc).length:Int) x.eR=cP n.ad.length x.eR by rw[nn]]at h;exact h
 refine Or.inl ⟨by kernel_rfl,?_⟩;refine⟨by omega,_,aI,?_⟩;refine⟨_,rfl,_,h54,?_⟩;refine⟨λq3=>?_,λq3=>?_⟩
 .have q3:(!(!(cP n.ad.length x.eR)))=true:=q3
  rw[Bool.not_not]at q3;rw[q3]at cH;refine⟨(i:Int)+1,wrap64 (by omega) (by omega),?_⟩;exact⟨⟨rfl,okB z f b⟩,⟨i+1,f,b,4,z,bC,hf,hb,Zk,Zl,λh=>absurd h (by decide),λ_=>by rw[ov,cH],rfl⟩,less⟩
 have q3:(!(!(cP n.ad.length x.eR)))=false:=q3;rw[Bool.not_not]at q3;rw[q3]at cH;have cH:m.ct (steps.drop i) f b=match m.cE f b x.eR.toNat x.off with
     |(_,false)=>(2,f,b)
     |((f',b'),true)=>m.ct (steps.drop (i+1)) f' b':=cH
 have dv:=kJ q3;obtain⟨t,ht⟩:∃t:Nat,x.eR=t:=⟨x.eR.toNat,by omega⟩;have JS:x.eR.toNat=t:=by omega
 rw[JS]at cH;have Zm:=Ts n hn bl [] mO f b t hf (by omega) x.off;rw[hm]at Zm;have cG:=m.C5 (i:=t) (off:=x.off) hf hb (by omega);rw[<-ht]at Zm;obtain⟨⟨⟨f',b'⟩,XV⟩,dZ⟩:∃y,m.cE f b t x.off=y:=⟨_,rfl⟩;rw[dZ]at Zm cH cG;refine Or.inr (Or.inl ⟨12,[10,11],by kernel_rfl,?_⟩);refine⟨by omega,_,aI,?_⟩;refine⟨_,ag rfl (ag rfl (ag (ej (MA Zk Zl)) rfl)),_,Zm,?_⟩;refine⟨⟨rfl,trivial⟩,?_⟩;refine⟨trivial,?_⟩;cases XV with
 |false=>
  have cH:m.ct (steps.drop i) f b=(2,f,b):=cH;refine⟨λ_=>?_,λh=>Bool.noConfusion (show true=false from h)⟩;refine⟨(i:Int)+1,wrap64 (by omega) (by omega),?_⟩;exact⟨⟨rfl,okB false f' b'⟩,⟨i+1,f',b',2,false,bC,cG.1,cG.2,(λh=>by cases h),(λh=>by cases h),λh=>absurd h (by decide),λ_=>by rw[ov,cH],rfl⟩,less⟩
 |true=>
  have cH:m.ct (steps.drop i) f b=m.ct (steps.drop (i+1)) f' b':=cH;refine⟨λh=>Bool.noConfusion (show false=true from h),λ_=>?_⟩;refine⟨(i:Int)+1,wrap64 (by omega) (by omega),?_⟩;exact⟨⟨rfl,okB false f' b'⟩,⟨i+1,f',b',0,false,bC,cG.1,cG.2,(λh=>by cases h),(λh=>by cases h),λ_=>ov.trans cH,λh=>absurd rfl h,rfl⟩,less⟩
theorem Tt{k:FuncId}{args:List D}{d d':D}(h:DN k args d)(hw:Wk d d'):DN k args d':=by
 refine⟨h.1,λw I vs ha hg hr=>(h.2 w I vs ha hg hr).mono ?_⟩;rintro e w'⟨v,I',h1,h2,h3,h4,h5⟩;exact⟨v,I',h1,h2,h3,h4,hw.rel h5⟩
theorem IU(s:Nat):(ad s).length<9223372036854775808:=Nat.lt_of_le_of_lt (yC s 7) (by decide)
theorem X0(n:Nt)(bl:List Int)(st:List Vs)(mO:bl.length<9223372036854775808)(cH:st.length<9223372036854775808):Me n bl st (n.gb bl st).1 (ad (n.gb bl st).2.1) (ad (n.gb bl st).2.2):=by
 refine⟨Tt (XZ n bl st mO cH) ?_,λh=>?_,IU _⟩
 .unfold ou
  split
  .rename_i h
   rw[h];exact .u6 (.eL _) (.refl _)
  exact .u6 (.eL _) (.refl _)
 have h2:=XU n bl st mO h;unfold ou at h2;rw[if_pos h]at h2;exact h2
end Go.Proofs.Ball
namespace Go.Proofs.Ball
open Go.V Go.Proofs Go.RowKit
theorem c3:Tryz.prog.cellsOf 3=1:=by kernel_rfl
theorem c9:Tryz.prog.cellsOf 9=1:=by kernel_rfl
theorem c34:Tryz.prog.cellsOf 34=1:=by kernel_rfl
theorem c84:Tryz.prog.cellsOf 84=7:=by kernel_rfl
theorem c54:Tryz.prog.cellsOf 54=7:=by kernel_rfl
theorem abl:Tryz.prog.cellsOf 252=2:=by kernel_rfl
theorem abm:Tryz.prog.cellsOf 254=3:=by kernel_rfl
theorem abn:Tryz.prog.cellsOf 124=2:=by kernel_rfl
theorem c5:Tryz.prog.cellsOf 5=1:=by kernel_rfl
theorem Ql{m:Int}(h:(Lit.int .u8 m).wf=true):0<=m/\m<256:=by
 have h1:decide (IntKind.u8.min<=m)=true/\decide (m<=IntKind.u8.max)=true:=by simpa only[Lit.wf,Bool.and_eq_true]using h
 rw[decide_eq_true_eq,decide_eq_true_eq]at h1;have e1:IntKind.u8.min=0:=by decide
 have e2:IntKind.u8.max=255:=by decide
 rw[e1,e2]at h1;omega
set_option maxRecDepth 100000
theorem uP{n:Nat}{ds:List D}(h:WT Tryz.prog (n+2) 29 ds):∃a b:Int,ds=[.int .i64 a,.int .i64 b]:=by
 obtain⟨a,r,rfl,_,ha,c,r2,rfl,_,hc,rfl⟩:=fE Tryz.underlying29 h;obtain⟨l,rfl,_⟩:=gV Tryz.underlying3 ha;obtain⟨u,rfl,_⟩:=gV Tryz.underlying3 hc;exact⟨l,u,rfl⟩
theorem GS{n:Nat}{ds:List D}(h:WT Tryz.prog (n+2) 34 ds):∃l:List Int,ds=[.list 1 (l.map aC)]/\l.length<=maxLen:=by
 obtain⟨rows,rfl,hl,hr⟩:=jq Tryz.underlying34 h;rw[c3];obtain⟨l,rfl,_⟩:=iB (enc:=aC) (p:=λ_=>True) λrow aI=>by
  obtain⟨x,rfl,_⟩:=gV Tryz.underlying3 (hr row aI).2;exact⟨x,rfl,trivial⟩
 exact⟨l,rfl,by simpa using hl⟩
theorem OO{n:Nat}{ds:List D}(h:WT Tryz.prog (n+2) 82 ds):∃l:List ByteArray,ds=[.list 1 (l.map eM)]/\l.length<=maxLen:=by
 obtain⟨rows,rfl,hl,hr⟩:=jq Tryz.underlying82 h;rw[c9];obtain⟨l,rfl,_⟩:=iB (enc:=eM) (p:=λ_=>True) λrow aI=>by
  obtain⟨x,rfl,_⟩:=oP Tryz.underlying9 (hr row aI).2;exact⟨x,rfl,trivial⟩
 exact⟨l,rfl,by simpa using hl⟩
theorem X1{n:Nat}{ds:List D}(h:WT Tryz.prog (n+3) 84 ds):∃x:Hp,ds=x.enc/\x.on.length<=maxLen:=by
 obtain⟨a,r,rfl,_,ha,b,r2,rfl,_,hb,c,r3,rfl,_,hc,d,r4,rfl,_,hd,e,r5,rfl,_,he,f,r6,rfl,_,hf,rfl⟩:=fE Tryz.underlying84 h;obtain⟨s,rfl,_⟩:=oP Tryz.underlying9 ha;obtain⟨k,rfl,_⟩:=gV Tryz.underlying3 hb;obtain⟨i,rfl,_⟩:=gV Tryz.underlying3 hc;obtain⟨j,rfl,_⟩:=gV Tryz.underlying3 hd;obtain⟨on,rfl,NT⟩:=OO he;obtain⟨lo,hi,rfl⟩:=uP hf;exact⟨⟨s,k,i,j,on,lo,hi⟩,rfl,NT⟩
theorem X2{n:Nat}{ds:List D}(h:WT Tryz.prog (n+3) 54 ds):∃x:Pt,ds=x.enc:=by
 obtain⟨a,r,rfl,_,ha,b,r2,rfl,_,hb,c,r3,rfl,_,hc,d,r4,rfl,_,hd,e,r5,rfl,_,he,rfl⟩:=fE Tryz.underlying54 h;obtain⟨s,rfl,_⟩:=oP Tryz.underlying9 ha;obtain⟨k,rfl,_⟩:=gV Tryz.underlying3 hb;obtain⟨lo,hi,rfl⟩:=uP hc;obtain⟨i,rfl,_⟩:=gV Tryz.underlying3 hd;obtain⟨l2,h2,rfl⟩:=uP he;exact⟨⟨s,k,lo,hi,i,l2,h2⟩,rfl⟩
theorem OP{n:Nat}{ds:List D}(h:WT Tryz.prog (n+5) 24 ds):∃l:List Hp,ds=[.list 7 (l.map Hp.enc)]/\(∀x∈l,x.on.length<=maxLen)/\l.length<=maxLen:=by
 obtain⟨a,r,rfl,_,ha,rfl⟩:=fE Tryz.underlying24 h;obtain⟨rows,rfl,hl,hr⟩:=jq Tryz.underlying22 ha;rw[c84];obtain⟨l,rfl,hp⟩:=iB (enc:=Hp.enc) (p:=λx=>x.on.length<=maxLen) λrow aI=>X1 (hr row aI).2;exact⟨l,rfl,hp,by simpa using hl⟩
theorem OQ{n:Nat}{ds:List D}(h:WT Tryz.prog (n+5) 27 ds):∃x:Hull,ds=x.enc/\x.parts.length<=maxLen:=by
 obtain⟨a,r,rfl,_,ha,b,r2,rfl,_,hb,c,r3,rfl,_,hc,rfl⟩:=fE Tryz.underlying27 h;obtain⟨rows,rfl,hl,hr⟩:=jq Tryz.underlying25 ha;rw[c54];obtain⟨l,rfl,hp⟩:=iB (enc:=Pt.enc) (p:=λ_=>True) λrow aI=>by
  obtain⟨x,hx⟩:=X2 (hr row aI).2;exact⟨x,hx,trivial⟩
 obtain⟨i,rfl,_⟩:=gV Tryz.underlying3 hb;obtain⟨j,rfl,_⟩:=gV Tryz.underlying3 hc;exact⟨⟨l,i,j⟩,rfl,by simpa using hl⟩
theorem Tu{n:Nat}{ds:List D}(h:WT Tryz.prog (n+4) 33 ds):∃x:Nt,ds=x.enc:=by
 obtain⟨a,r,rfl,_,ha,b,r2,rfl,_,hb,rfl⟩:=fE Tryz.underlying33 h;obtain⟨rows,rfl,_,hr⟩:=jq Tryz.underlying30 ha;obtain⟨sX,rfl,_,e8⟩:=jq Tryz.underlying31 hb;rw[abl,abm];obtain⟨l,rfl,_⟩:=iB (enc:=Tk.enc) (p:=λ_=>True) λrow aI=>by
  obtain⟨a,r,rfl,_,ha,b,r2,rfl,_,hb,rfl⟩:=fE Tryz.underlying252 (hr row aI).2;obtain⟨s,rfl,_⟩:=oP Tryz.underlying9 ha;obtain⟨k,rfl⟩:=z6 Tryz.underlying4 hb;exact⟨⟨s,k⟩,rfl,trivial⟩
 obtain⟨l',rfl,_⟩:=iB (enc:=Rp.enc) (p:=λ_=>True) λrow aI=>by
  obtain⟨a,r,rfl,_,ha,b,r2,rfl,_,hb,c,r3,rfl,_,hc,rfl⟩:=fE Tryz.underlying254 (e8 row aI).2;obtain⟨i,rfl,_⟩:=gV Tryz.underlying3 ha;obtain⟨j,rfl,_⟩:=gV Tryz.underlying3 hb;obtain⟨k,rfl⟩:=z6 Tryz.underlying4 hc;exact⟨⟨i,j,k⟩,rfl,trivial⟩
 exact⟨⟨l,l'⟩,rfl⟩
theorem OR{n:Nat}{d:D}(h:WA Tryz.prog (n+7) 38 d):∃t:Task,d=.agg t.enc/\t.Sz/\t.blanks.length<=maxLen/\t.steps.length<=maxLen:=by
 obtain⟨ds,rfl,g⟩:=H6 Tryz.underlying38 h;obtain⟨a,r,rfl,_,ha,b,r2,rfl,_,hb,c,r3,rfl,_,hc,d,r4,rfl,_,hd,e,r5,rfl,_,he,f,r6,rfl,_,hf,i,r7,rfl,_,hi,rfl⟩:=fE Tryz.underlying38 g;obtain⟨ar,rfl,NT,qo⟩:=OP ha;obtain⟨hull,rfl,hhl⟩:=OQ hb;obtain⟨lo,hh,rfl⟩:=uP hc;obtain⟨net,rfl⟩:=Tu hd;obtain⟨bl,rfl,mO⟩:=GS he;obtain⟨rows,rfl,abo,hr⟩:=jq Tryz.underlying35 hf;obtain⟨sX,rfl,nn,e8⟩:=jq Tryz.underlying36 hi;rw[abn,c34];obtain⟨st,rfl,_⟩:=iB (enc:=Vs.enc) (p:=λ_=>True) λrow aI=>by
  obtain⟨a,r,rfl,_,ha,b,r2,rfl,_,hb,rfl⟩:=fE Tryz.underlying124 (hr row aI).2;obtain⟨i,rfl,_⟩:=gV Tryz.underlying3 ha;obtain⟨k,rfl⟩:=z6 Tryz.underlying4 hb;exact⟨⟨i,k⟩,rfl,trivial⟩
 obtain⟨tk,rfl,mf⟩:=iB (enc:=qh) (p:=λl=>l.length<=maxLen) λrow aI=>by
  obtain⟨l,rfl,hl⟩:=GS (e8 row aI).2;exact⟨l,rfl,hl⟩
 have hm:∀{k:Nat},k<=maxLen->k<9223372036854775808:=λh=>by unfold maxLen at h;omega
 refine⟨⟨ar,hull,lo,hh,net,bl,st,tk⟩,rfl,⟨hm qo,hm hhl,hm (by simpa using nn),λx hx=>hm (NT x hx),λl hl=>hm (mf l hl)⟩,mO,by simpa using abo⟩
theorem Tv{n:Nat}{d:D}(h:WA Tryz.prog (n+2) 39 d):∃x y:Nat,d=.agg [.int .u8 x,.int .u8 y]/\x<256/\y<256:=by
 obtain⟨ds,rfl,g⟩:=K5 Tryz.underlying39 h;have g:=K4 Tryz.underlying39 g;rw[c5]at g;obtain⟨a,r,rfl,_,ha,b,r2,rfl,_,hb,rfl⟩:=g;obtain⟨x,rfl,hx⟩:=gV Tryz.underlying5 ha;obtain⟨y,rfl,hy⟩:=gV Tryz.underlying5 hb;have hx:=Ql hx;have hy:=Ql hy;obtain⟨i,rfl⟩:∃k:Nat,x=k:=⟨x.toNat,by omega⟩;obtain⟨j,rfl⟩:∃k:Nat,y=k:=⟨y.toNat,by omega⟩;exact⟨i,j,rfl,by omega,by omega⟩
end Go.Proofs.Ball
namespace Go.Proofs.Ball
open Go.V Go.Proofs
structure FE where
 k:Nat
 fn:Func
 a:Tryz.prog.funcs[k]?=some fn
 b:Enters Tryz.prog k
 c:gB fn=true
noncomputable def xH:List FE->Nat->Option Func
 |[],_=>none
 |x::r,k=>match Nat.beq x.k k with
  |true=>some x.fn
  |false=>xH r k
theorem jV:∀l:List FE,FOK Tryz.prog (xH l)
 |[],k,fn,h=>by cases h
 |x::r,k,fn,h=>by
  unfold xH at h;split at h
  .rename_i e
   cases h;cases Nat.eq_of_beq_eq_true e;exact⟨x.a,x.b,x.c⟩
  exact jV r k fn h
def fD{α:Type}:List (Nat×α)->Nat->Option α
 |[],_=>none
 |(k,d)::r,t=>match Nat.beq k t with
  |true=>some d
  |false=>fD r t
def ptD:List D->Option Pt
 |[.str s,.int .i64 a,.int .i64 b,.int .i64 c,.int .i64 d,.int .i64 e,.int .i64 f]=>some ⟨s,a,b,c,d,e,f⟩
 |_=>none
theorem OS{r:List D}{x:Pt}(h:ptD r=some x):r=x.enc:=by
 unfold ptD at h;split at h<;>cases h;rfl
def OT:List (List D)->Option (List Pt)
 |[]=>some []
 |r::l=>match ptD r,OT l with
  |some x,some m=>some (x::m)
  |_,_=>none
theorem Db:∀{l:List (List D)}{m:List Pt},OT l=some m->l=m.map Pt.enc
 |[],m,h=>by cases h;rfl
 |r::l,m,h=>by
  unfold OT at h;split at h<;>cases h;rename_i x m h1 h2;rw[OS h1,Db h2];rfl
def ptB(x:Pt):Bool:=decide (0<=x.pos)&&(decide (x.pos<=5000)&&(decide (0<=x.jE)&&(decide (x.jE<=1000)&&(decide (0<=x.tI)&&(decide (x.tI<=x.uH)&&(decide (x.uH<=1000000)&&(decide (0<=x.Cu)&&(decide (x.Cu<=x.Al)&&decide (x.Al<=5000)))))))))
theorem Tw{x:Pt}(h:ptB x=true):x.Ok:=by
 simp only[ptB,Bool.and_eq_true,decide_eq_true_eq]at h;obtain⟨h1,h2,h3,h4,h5,h6,h7,h8,h9,tp⟩:=h;exact⟨h1,h2,h3,h4,h5,h6,h7,h8,h9,tp⟩
def GU:List Pt->Bool
 |[]=>true
 |x::r=>(r.all λy=>!(bW x.name y.name))&&GU r
theorem Dc:∀{l:List Pt},GU l=true->l.Pairwise λa b=>bW a.name b.name=false
 |[],_=>.nil
 |x::r,h=>by
  simp only[GU,Bool.and_eq_true]at h;exact .cons (λy hy=>by simpa using List.all_eq_true.1 h.1 y hy) (Dc h.2)
def ME(h:Hull):Bool:=(decide (1<=h.parts.length)&&(decide (h.parts.length<=10)&&(decide (0<=h.mA)&&(decide (h.mA<h.fv)&&decide (h.fv<=5000)))))&&(h.parts.all ptB&&(h.parts.all (λx=>dH x.name)&&GU h.parts))
theorem MF{h:Hull}(e:ME h=true):h.Ok:=by
 simp only[ME,Bool.and_eq_true,decide_eq_true_eq]at e;obtain⟨⟨h1,h2,h3,h4,h5⟩,h6,h7,h8⟩:=e;exact⟨h1,h2,h3,h4,h5,λx hx=>Tw (List.all_eq_true.1 h6 x hx),λx hx=>List.all_eq_true.1 h7 x hx,Dc h8⟩
def Dd:List D->Option (List (List D))
 |[.ro [.int .i64 lo,.int .i64 hi],.ro [.list 7 ps,.int .i64 a,.int .i64 f]]=>match OT ps with
  |some ps=>match ME ⟨ps,a,f⟩with
   |true=>some ((pieces ps lo hi).map Il)
   |false=>none
  |none=>none
 |_=>none
theorem wZ{az:List D}{xs:List (List D)}(h:Dd az=some xs):IT 89 az xs:=by
 unfold Dd at h;split at h
 .split at h
  .rename_i h1
   split at h
   .rename_i h2
    cases h;rw[Db h1];exact Sy ⟨_,_,_⟩ (MF h2) _ _
   cases h
  cases h
 cases h
def itA(k:Nat)(az:List D):Option (List (List D)):=match Nat.beq k 89 with
 |true=>Dd az
 |false=>none
theorem Tx{k:Nat}{az:List D}{xs:List (List D)}(h:itA k az=some xs):IT k az xs:=by
 unfold itA at h;split at h
 .rename_i e
  rw[Nat.eq_of_beq_eq_true e];exact wZ h
 cases h
def Ux:Nat->List D->Option D
 |44,[.str s]=>some (.bool (dH s))
 |188,[.str s]=>some (.bool (dH s))
 |_,_=>none
theorem AF{k:Nat}{az:List D}{d:D}(h:Ux k az=some d):DN k az d:=by
 unfold Ux at h;split at h<;>cases h
 .exact GB _
 exact E3 _
def aR.ow(n:aR)(f b:Nat):Nat->Nat->List (List D)
 |0,_=>[]
 |r+1,i=>match(n.cE f b i (b.testBit i)).2 with
  |true=>[.agg [.int .i64 i,.bool (b.testBit i)],.agg (Fw (n.cE f b i (b.testBit i)).1.1 (n.cE f b i (b.testBit i)).1.2)]::n.ow f b r (i+1)
  |false=>n.ow f b r (i+1)
theorem X3(n:aR)(h:n.Ok)(f b:Nat)(hf:f<2^7)(hb:b<2^7):IT 276 [.ro [.ro n.enc],.ro (Fw f b)] (n.ow f b n.ad.length 0):=by
 refine WM Tryz.func276 Tryz.call276 rfl rfl ?_;intro l;have nn:((n.ad.map Tk.enc).length:Int)=n.ad.length:=by simp
 have h7:=h.t7;refine⟨[0,1,2,13,14],0,[],λU=>∃i:Nat,i<=n.ad.length/\
  U=⟨[(0,.j8 l),(1,.ro [.ro n.enc]),(2,.ro (Fw f b)),(13,.int .i64 (n.ad.map Tk.enc).length),(14,.int .i64 i)],[],.rem l (n.ow f b (n.ad.length-i) i)⟩,
  λU=>(1000-aZ 14 U).toNat,rfl,⟨rfl,rfl⟩,⟨0,Nat.zero_le _,rfl⟩,?_⟩
 rintro U⟨i,hi,rfl⟩;refine⟨λh1=>?_,λh1=>?_⟩
 .have h1:=of_decide_eq_true h1
  rw[nn]at h1;have less:(1000-((i:Int)+1)).toNat<(1000-(i:Int)).toNat:=by omega
  have cH:n.ow f b (n.ad.length-i) i=match(n.cE f b i (b.testBit i)).2 with
   |true=>[.agg [.int .i64 i,.bool (b.testBit i)],.agg (Fw (n.cE f b i (b.testBit i)).1.1 (n.cE f b i (b.testBit i)).1.2)]::n.ow f b (n.ad.length-(i+1)) (i+1)
   |false=>n.ow f b (n.ad.length-(i+1)) (i+1):=by
   rw[show n.ad.length-i=(n.ad.length-(i+1))+1 by omega];rfl
  have Qk:=Mo n h f b i hf hb (by omega) (b.testBit i);obtain⟨⟨⟨a1,a2⟩,a3⟩,ha⟩:∃a,n.cE f b i (b.testBit i)=a:=⟨_,rfl⟩;rw[ha]at Qk cH;rw[cH];have Qk:DN 147 [.ro n.enc,.agg (Fw f b),.agg [.int .i64 i,.bool (b.testBit i)]] (.b9 [.agg (Fw a1 a2),.bool a3]):=Qk;refine⟨_,rfl,_,sK b i (by omega) (by omega),?_⟩;refine⟨_,rfl,_,Qk,?_⟩;cases a3 with
  |true=>
   refine⟨λ_=>?_,λh=>absurd h (by decide)⟩;refine⟨rfl,⟨_,rfl,rfl⟩,?_,?_⟩
   .refine⟨(i:Int)+1,wrap64 (by omega) (by omega),?_⟩
    exact⟨⟨rfl,rfl⟩,⟨i+1,by omega,rfl⟩,less⟩
   rfl
  |false=>
   refine⟨λh=>absurd h (by decide),λ_=>?_⟩;refine⟨(i:Int)+1,wrap64 (by omega) (by omega),?_⟩;exact⟨⟨rfl,rfl⟩,⟨i+1,by omega,rfl⟩,less⟩
 have h1:=of_decide_eq_false h1;rw[nn]at h1;have e:n.ad.length-i=0:=by omega
 rw[e];rfl
end Go.Proofs.Ball
