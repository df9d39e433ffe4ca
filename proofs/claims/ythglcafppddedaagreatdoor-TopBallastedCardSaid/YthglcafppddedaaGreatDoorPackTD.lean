/- What ballasted_holds leans on, part TD. No condition. -/
import Derived.Test.YthglcafppddedaaGreatDoorPackTC
import Derived.Test.YthglcafppddedaaGreatDoorPackTA

set_option linter.all false
namespace Go.Proofs.Ball
open Go.V Go.Proofs
def Zn:List (List D)->Option (List Tk)
 |[]=>some []
 |[.str s,.bool b]::r=>match Zn r with|some l=>some (⟨s,b⟩::l)|none=>none
 |_=>none
theorem GV:∀{l:List (List D)}{m:List Tk},Zn l=some m->l=m.map Tk.enc
 |[],m,h=>by cases h;rfl
 |r::l,m,h=>by
  unfold Zn at h;split at h
  .rename_i e
   cases e
  .rename_i e
   cases e;split at h<;>cases h;rename_i e2;rw[GV e2];rfl
  cases h
def Zo:List (List D)->Option (List Pp)
 |[]=>some []
 |[.int .i64 (.ofNat a),.int .i64 (.ofNat b),.bool c]::r=>match Zo r with|some l=>some (⟨a,b,c⟩::l)|none=>none
 |_=>none
theorem GW:∀{l:List (List D)}{m:List Pp},Zo l=some m->l=m.map Pp.enc
 |[],m,h=>by cases h;rfl
 |r::l,m,h=>by
  unfold Zo at h;split at h
  .rename_i e
   cases e
  .rename_i e
   cases e;split at h<;>cases h;rename_i e2;rw[GW e2];rfl
  cases h
def Zp:List D->Option (List Bool)
 |[]=>some []
 |.bool b::r=>match Zp r with|some l=>some (b::l)|none=>none
 |_=>none
theorem GX:∀{l:List D}{m:List Bool},Zp l=some m->l=m.map D.bool
 |[],m,h=>by cases h;rfl
 |r::l,m,h=>by
  unfold Zp at h;split at h
  .rename_i e
   cases e
  .rename_i e
   cases e;split at h<;>cases h;rename_i e2;rw[GX e2];rfl
  cases h
def aR.okB(n:aR):Bool:=(Nat.ble 1 n.ad.length&&(Nat.ble n.ad.length 7&&Nat.ble n.ai.length 12))&&(n.ai.all (λp=>Nat.blt p.fr n.ad.length&&(Nat.blt p.to n.ad.length&&!(Nat.beq p.fr p.to)))&&(Nat.blt n.kept 128&&(Nat.blt n.wanted 128&&Nat.beq n.op.length 12)))
theorem cX{a b:Nat}(h:Nat.blt a b=true):a<b:=Nat.le_of_ble_eq_true h
theorem aR.Ty{n:aR}(h:n.okB=true):n.Ok:=by
 simp only[aR.okB,Bool.and_eq_true]at h;obtain⟨⟨h1,h2,h3⟩,h4,h5,h6,h7⟩:=h;refine⟨Nat.le_of_ble_eq_true h1,Nat.le_of_ble_eq_true h2,Nat.le_of_ble_eq_true h3,λp hp=>?_,cX h5,cX h6,Nat.eq_of_beq_eq_true h7⟩;have:=List.all_eq_true.1 h4 p hp;simp only[Bool.and_eq_true]at this;exact⟨cX this.1,cX this.2.1,λe=>by rw[e]at this;simp at this⟩
theorem AP.refl(l:List D):AP l l:=⟨rfl,λi a b ha hb=>by rw[ha]at hb;cases hb;exact Dy.refl _⟩
theorem Dy.ro{r s:List D}(h:AP r s):Dy (.ro r) (.ro s):=λI β v hr=>by
 cases hr with
 |ro B off ds u hI h1 h2=>
  refine .ro B off s u (λj hj=>hI j (by rw[h.1];exact hj)) (λj hj=>h1 j (by rw[h.1];exact hj)) λj e he=>?_;have hj:j<r.length:=by rw[h.1];exact(List.getElem?_eq_some_iff.1 he).1
  exact h.2 j r[j] e (List.getElem?_eq_getElem hj) he I dM _ (h2 j r[j] (List.getElem?_eq_getElem hj))
theorem jR.wk[aM]{P:Program}{k:FuncId}{az bz:List D}{xs:List (List D)}(h:jR P k bz xs)(hw:AP az bz):jR P k az xs:=
 ⟨h.1,λw I vs l J S ha hg hr=>h.2 w I vs l J S ha hg (hw.aaD hr)⟩
def nrm(l:List (List D)):List (List D):=l.map (·.map Jr)
def FD:List D->Option (List (List D))
 |[.ro [.ro (.list 2 ts::.list 3 ps::.int .u64 (.ofNat k)::.int .u64 (.ofNat w)::os)],.ro [.int .u64 (.ofNat f),.int .u64 (.ofNat b)]]=>match Zn (nrm ts),Zo (nrm ps),Zp os with
  |some ts,some ps,some os=>match aR.okB ⟨ts,ps,k,w,os⟩,Nat.blt f 128,Nat.blt b 128 with
   |true,true,true=>some (aR.ow ⟨ts,ps,k,w,os⟩ f b ts.length 0)
   |_,_,_=>none
  |_,_,_=>none
 |_=>none
theorem IV{az:List D}{xs:List (List D)}(h:FD az=some xs):IT 276 az xs:=by
 unfold FD at h;split at h
 .split at h
  .rename_i h1 h2 h3
   split at h
   .rename_i h4 h5 h6
    cases h;refine jR.wk (X3 ⟨_,_,_,_,_⟩ (aR.Ty h4) _ _ (cX h5) (cX h6)) (AP.cons (Dy.ro (AP.cons (Dy.ro ?_) AP.nil)) (AP.refl _));rw[aR.enc,<-GV h1,<-GW h2,GX h3];exact AP.cons (Dy.of (Wk.rows _ _)) (AP.cons (Dy.of (Wk.rows _ _)) (AP.refl _))
   cases h
  cases h
 cases h
def itV(k:Nat)(az:List D):Option (List (List D)):=match Nat.beq k 276 with
 |true=>FD az
 |false=>none
theorem Tz{k:Nat}{az:List D}{xs:List (List D)}(h:itV k az=some xs):IT k az xs:=by
 unfold itV at h;split at h
 .rename_i e
  rw[Nat.eq_of_beq_eq_true e];exact IV h
 cases h
def dzV(k:Nat):Option DZ:=match Nat.beq k 142 with
 |true=>some ⟨4,24,224,[.tmp 8,.tmp 9]⟩
 |false=>none
abbrev sk3:er:=⟨λ_=>false,λk=>Nat.beq k 174,none⟩
theorem abp{f:FuncId}{fn:Func}(hf:Tryz.prog.funcs[f]?=some fn)(he:Enters Tryz.prog f)(hb:gB fn=true){args:List D}{xs:List (List D)}(hn:Nat.ble (args.length+1) fn.ntmps=true)(h:nz Tryz.tt (CD Tryz.prog sk3) (nc Tryz.prog Ak) fn args xs):IT f args xs:=
 Gj Tryz.tok Tryz.mixed hf he hb hn h
def X4(o:List Nat):D:=match o with
 |[]=>.ao
 |i::r=>.list 1 ((i::r).map l9)
def X5(o:List Nat):D:=match o with
 |[]=>.list 0 []
 |i::r=>.list 1 ((i::r).map l9)
def GY(p:Nat×List Nat):List D:=[.agg [.int .i64 p.1,X5 p.2]]
def sT(p:Nat×List Nat):List D:=[.int .i64 p.1,X4 p.2]
theorem MG(o:List Nat)(ho:o.length<=1000):Qu Tryz.prog 174 [X5 o] (.rows false 0 1 (o.map l9)):=by
 refine si (.inr ?_) ?_
 .show(o.map l9).all cu=true
  rw[List.all_eq_true];intro x hx;obtain⟨i,_,rfl⟩:=List.mem_map.1 hx;rfl
 refine Un Tryz.func174 Tryz.call174 rfl rfl ?_;cases o with
 |nil=>
  intro b _;cases b with
  |true=>
   refine⟨λ_=>?_,λh=>absurd h (by decide)⟩;exact⟨_,rfl,.inr ⟨rfl,_,rfl⟩⟩
  |false=>
   refine⟨λh=>absurd h (by decide),λ_=>?_⟩;refine⟨rfl,?_,?_⟩
   .decide
   exact⟨_,rfl,.inl ⟨1,rfl,rfl⟩⟩
 |cons i r=>
  intro b hb;cases b with
  |true=>cases hb rfl
  |false=>
   refine⟨λh=>absurd h (by decide),λ_=>?_⟩;refine⟨trivial,?_,?_⟩
   .simp at ho⊢
    unfold ay;omega
   exact⟨_,rfl,.inl ⟨1,rfl,rfl⟩⟩
def uo(p:Nat×List Nat):D:=.int .i64 p.1
def OU(_:Nat×List Nat):D:=.int .i64 1
def FF(F:List (Nat×List Nat))(g:Nat)(pre:List (List D))(c h:Nat):List af:=
 [.map false ((F.take c).map uo) ((F.take c).map OU),.flat false [.cn 0],.rows false g 2 (pre++((F.take c).drop h).map sT),.flat false [.sl 2 g pre.length (((F.take c).drop h).map sT).length]]
def MH(cf:Nat->List Nat)(p:Nat×List Nat):List (Nat×List Nat):=(cf p.1).map λi=>(hY p.1 (2^i),p.2++[i])
def X6(U:St):Nat:=match U.boxes[(0:Nat)]?,U.boxes[(3:Nat)]? with
 |some (.map _ ks _),some (.flat _ [.sl _ _ _ len])=>ks.length-len
 |_,_=>0
theorem MI(bs:List af)(n:Nat)(o:List Nat):fi bs [.agg [.int .i64 n,X4 o]]=some (GY (n,o)):=by cases o<;>rfl
theorem TA(S:List D)(n:Int):DN 167 [.ro S,.int .i64 n] (.bR (.func 238) [] [.ro [.int .i64 n],.ro [.ro S]]):=by
 refine mk Tryz.func167 Tryz.call167 rfl rfl ?_;rfl
theorem X7{b:af}{X Y:Prop}(h:jg b=true)(x:X):(match jg b with|true=>X|false=>Y):=by rw[h];exact x
theorem IW(o:List Nat):jg (.rows false 0 1 (o.map l9))=true:=by
 show(o.map l9).all bT=true;rw[List.all_eq_true];intro x hx;obtain⟨i,_,rfl⟩:=List.mem_map.1 hx;rfl
theorem w5(q:Nat):∀(l:List (Nat×List Nat)),(∀p∈l,p.1≠q)->fx (.int .i64 q) (l.map uo)=some none
 |[],_=>rfl
 |p::r,h=>by
  have h1:yT (.int .i64 q) (uo p)=some false:=by
   show some ((q:Int)==(p.1:Int))=_;have:=h p (by simp);congr 1;exact beq_eq_false_iff_ne.2 (by omega)
  rw[List.map_cons];unfold fx;rw[h1,w5 q r λp hp=>h p (List.mem_cons_of_mem _ hp)]
theorem w6(q:Nat):∀(l:List (Nat×List Nat)),(∀p∈l,p.1≠q)->fx (.int .i64 q) (l.map uo++[.int .i64 q])=some (some l.length)
 |[],_=>by
  show fx _ [D.int .i64 q]=_;unfold fx;rw[show yT (.int .i64 q) (.int .i64 q)=some true from congrArg some (beq_self_eq_true _)];rfl
 |p::r,h=>by
  have h1:yT (.int .i64 q) (uo p)=some false:=by
   show some ((q:Int)==(p.1:Int))=_;have:=h p (by simp);congr 1;exact beq_eq_false_iff_ne.2 (by omega)
  rw[List.map_cons,List.cons_append];unfold fx;rw[h1,w6 q r λp hp=>h p (List.mem_cons_of_mem _ hp)];rfl
theorem IX{bs:List af}{x:Int}{i g len:Nat}{rs:List (List D)}{fz:Bool}(hb:bs[i]?=some (.rows fz g 1 rs))(hl:len=rs.length):
    nq bs [(0,.agg [.int .i64 x,.sl i g 0 len])]=some [(0,.agg [.int .i64 x,.list 1 rs])]:=by
  unfold nq;have h:reify bs fuel (.agg [.int .i64 x,.sl i g 0 len])=some (.agg [.int .i64 x,.list 1 rs]):=ej (ag rfl (ag (ga hb hl) rfl));rw[h];rfl
theorem yM{F:List (Nat×List Nat)}{c h g:Nat}{q:Nat×List Nat}(hq:F[c]?=some q)(hh:h<=c):FF F g [] (c+1) h=
    [.map false ((F.take c).map uo++[uo q]) ((F.take c).map OU++[.int .i64 1]),.flat false [.cn 0],.rows false g 2 (((F.take c).drop h).map sT++[sT q]),.flat false [.sl 2 g 0 (((F.take c).drop h).map sT++[sT q]).length]]:=by
  have hc:=(List.getElem?_eq_some_iff.1 hq).1;have e:F.take (c+1)=F.take c++[q]:=by rw[List.take_succ,hq];rfl
  unfold FF;rw[e,List.drop_append_of_le_length (by rw[List.length_take];omega),List.map_append,List.map_append,List.map_append];rfl
theorem IY{F:List (Nat×List Nat)}{c h g:Nat}{pre:List (List D)}{p:Nat×List Nat}(hp:(F.take c)[h]?=some p):FF F g (pre++[sT p]) c (h+1)=
    [.map false ((F.take c).map uo) ((F.take c).map OU),.flat false [.cn 0],.rows false g 2 (pre++((F.take c).drop h).map sT),.flat false [.sl 2 g (pre.length+1) ((((F.take c).drop h).map sT).length-1)]]:=by
  obtain⟨hl,e⟩:=List.getElem?_eq_some_iff.1 hp;have e2:(F.take c).drop h=p::(F.take c).drop (h+1):=by rw[List.drop_eq_getElem_cons hl,e]
  unfold FF;rw[e2,List.append_assoc,List.length_append];rfl
theorem X8(S:List D)(cf:Nat->List Nat)(F:List (Nat×List Nat))(a:Nat->Nat)(cW:DN 99 [.ro S] (.int .i64 7))(abq:∀n:Nat,n<8->IT 238 [.ro [.int .i64 n],.ro [.ro S]] ((cf n).map (Ib n)))
    (h0:a 0=1)(Uv:F[0]?=some (7,[]))(hs:∀h p,F[h]?=some p->h<a h/\F.take (a (h+1))=F.take (a h)++MH cf p/\a (h+1)<=F.length/\a (h+1)=a h+(cf p.1).length)(nh:a F.length=F.length)
    (PF:(F.map Prod.fst).Nodup)(cG:∀p∈F,p.1<8/\p.2.length<=10)(hm:F.length<=8):IT 241 [.ro [.ro S]] (F.map GY):=by
  refine abp Tryz.func241 Tryz.call241 rfl rfl ?_;intro l;refine⟨_,rfl,_,cW,?_⟩;refine cA rfl ⟨none,rfl,_,_,⟨rfl,rfl⟩,?_⟩;refine⟨_,rfl,_,cW,?_⟩;have hF1:F.take 1=[(7,[])]:=by
   cases F with
   |nil=>cases Uv
   |cons x r=>cases Uv;rfl
  refine⟨[0,1,3,4],4,[(.swap 3 5,0)],λU=>∃(h g:Nat)(pre:List (List D)),h<=F.length/\h<=a h/\a h<=F.length/\
   U=⟨[(0,.j8 l),(1,.ro [.ro S]),(3,.loc 1 0),(4,.loc 3 0)],FF F g pre (a h) h,.rem l ((F.map GY).drop h)⟩,λU=>100-X6 U,rfl,⟨rfl,rfl⟩,⟨0,0,[],Nat.zero_le _,Nat.zero_le _,?_,?_⟩,?_⟩
  .rw[h0];have:=congrArg List.length hF1;simp at this;omega
  .unfold FF
   rw[h0,hF1];rfl
  rintro U⟨h,g,pre,hh,ha,haF,rfl⟩;have hln:(((F.take (a h)).drop h).map sT).length=a h-h:=by simp;omega
  refine⟨λh1=>?_,λh1=>?_⟩
  rotate_left
  .have h1:¬((((F.take (a h)).drop h).map sT).length:Int)>0:=of_decide_eq_false h1
   have e:h=F.length:=by
    rcases Nat.lt_or_ge h F.length with h2|h2
    .have:=(hs h _ (List.getElem?_eq_getElem h2)).1;omega
    omega
   have e2:(F.map GY).drop h=[]:=List.drop_of_length_le (by simp;omega);rw[e2];rfl
  have h1:((((F.take (a h)).drop h).map sT).length:Int)>0:=of_decide_eq_true h1;have TB:h<F.length:=by omega
  obtain⟨⟨n,o⟩,hp⟩:∃p,F[h]?=some p:=⟨_,List.getElem?_eq_getElem TB⟩;obtain⟨hha,T3,abr,haS⟩:=hs h _ hp;obtain⟨hn8,X9⟩:=cG _ (List.mem_of_getElem? hp);have hpT:(F.take (a h))[h]?=some (n,o):=by rw[List.getElem?_take,if_pos hha];exact hp
  have sZ:(F.take (a h)).drop h=(n,o)::(F.take (a h)).drop (h+1):=by
   have hl:h<(F.take (a h)).length:=by simp;omega
   rw[List.drop_eq_getElem_cons hl];rw[List.getElem?_eq_getElem hl]at hpT;rw[Option.some.inj hpT]
  have hdF:(F.map GY).drop h=GY (n,o)::(F.map GY).drop (h+1):=by
   have hl:h<(F.map GY).length:=by simpa using TB
   rw[List.drop_eq_getElem_cons hl];congr 1;rw[List.getElem_map];rw[List.getElem?_eq_getElem TB]at hp;rw[Option.some.inj hp]
  have aI:(pre++((F.take (a h)).drop h).map sT)[pre.length]?=some (sT (n,o)):=by
   rw[List.getElem?_append_right (Nat.le_refl _),Nat.sub_self,sZ];rfl
  rw[hdF];refine cA (by rw[aG];rfl) ⟨by decide,by omega,pre.length,Nat.add_zero _,?_⟩;refine cA (aG g) ⟨_,aI,?_⟩;refine⟨rfl,⟨_,MI _ n o,rfl⟩,?_,?_⟩
  rotate_left
  .rfl
  refine⟨_,rfl,_,TA S n,?_⟩;refine⟨rfl,_,rfl,_,abq n hn8,5,[],λj bs y=>∃(g2:Nat)(I3:List (List D)),y=.rem l ((F.map GY).drop (h+1))/\a h+j<=F.length/\
   bs=FF F g2 I3 (a h+j) h++[.flat false (sT (n,o))],rfl,by cases o<;>rfl,by cases o<;>rfl,?_,?_,?_,?_⟩
  .exact⟨g,pre,rfl,by omega,rfl⟩
  .rintro j x bs y hx⟨g2,I3,rfl,hc,rfl⟩
   rw[List.getElem?_map]at hx;obtain⟨i,hi,rfl⟩:=Option.map_eq_some_iff.1 hx;have ng:=(List.getElem?_eq_some_iff.1 hi).1;have haS:a (h+1)=a h+(cf n).length:=haS;have hq:F[a h+j]?=some (hY n (2^i),o++[i]):=by
    have h3:(F.take (a (h+1)))[a h+j]?=some (hY n (2^i),o++[i]):=by
     rw[T3,List.getElem?_append_right (by rw[List.length_take];omega)];have:a h+j-(F.take (a h)).length=j:=by simp;omega
     rw[this];unfold MH;rw[List.getElem?_map];show((cf n)[j]?).map _=_;rw[hi];rfl
    rw[List.getElem?_take]at h3;split at h3
    .exact h3
    cases h3
   have iS:∀k p,k<a h+j->F[k]?=some p->p.1≠hY n (2^i):=λk p hk hp e=>by
    have h3:(F.map Prod.fst)[k]?=some (hY n (2^i)):=by rw[List.getElem?_map,hp,<-e];rfl
    have h4:(F.map Prod.fst)[a h+j]?=some (hY n (2^i)):=by rw[List.getElem?_map,hq];rfl
    have h5:=(List.getElem?_eq_some_iff.1 h3).1;have:=(List.getElem?_inj h5 PF).1 (h3.trans h4.symm);omega
   have Up:fx (.int .i64 (hY n (2^i):Nat)) ((F.take (a h+j)).map uo)=some none:=w5 _ _ λp hp e=>by
    obtain⟨k,hk⟩:=List.mem_iff_getElem?.1 hp;rw[List.getElem?_take]at hk;split at hk
    .exact iS k p (by assumption) hk e
    cases hk
   have hlen:((F.take (a h+j)).map uo).length=a h+j:=by simp;omega
   refine⟨none,Up,_,rfl,?_⟩;refine⟨1,rfl,?_⟩;refine cA rfl ⟨none,Up,_,_,⟨rfl,rfl⟩,?_⟩;have vj:((F.take (a h+j)).map OU++[D.int .i64 1])[(F.take (a h+j)).length]?=some (.int .i64 1):=by
    rw[List.getElem?_append_right (by simp),List.length_map,Nat.sub_self];rfl
   refine⟨_,w6 _ _ λp hp e=>?_,_,vj,?_⟩
   .obtain⟨k,hk⟩:=List.mem_iff_getElem?.1 hp
    rw[List.getElem?_take]at hk;split at hk
    .exact iS k p (by assumption) hk e
    cases hk
   have hold:((I3++((F.take (a h+j)).drop h).map sT).drop I3.length).take (((F.take (a h+j)).drop h).map sT).length=((F.take (a h+j)).drop h).map sT:=by
    rw[List.drop_append_of_le_length (Nat.le_refl _),List.drop_length,List.nil_append,List.take_length]
   have Ya:(((F.take (a h+j)).drop h).map sT).length=a h+j-h:=by simp;omega
   refine⟨λ_=>?_,λh=>absurd h (by decide)⟩;refine Or.inr (Or.inl ⟨7,[0,1],by kernel_rfl,?_⟩);cases o with
   |nil=>
    refine⟨_,rfl,_,MG [] (by decide),?_⟩;refine⟨trivial,cA rfl ⟨Nat.le_of_eq (Nat.zero_add _),?_,_,ij rfl,_,rfl,?_⟩⟩
    .show(0+1)*8<=ay
     decide
    refine⟨⟨rfl,rfl,trivial⟩,?_⟩;refine⟨⟨rfl,trivial⟩,?_⟩;refine⟨_,rfl,_,rfl,cA rfl ?_⟩;refine⟨⟨rfl,trivial⟩,?_⟩;refine⟨trivial,cA (by rw[aG];rfl) ⟨?_,?_,_,hold,_,rfl,?_⟩⟩
    .rw[List.length_append];exact Nat.le_refl _
    .show((((F.take (a h+j)).drop h).map sT).length+1)*32<=ay
     rw[Ya];unfold ay;omega
    refine⟨trivial,?_⟩;refine⟨trivial,?_⟩;refine⟨by kernel_rfl,g2+1,[],rfl,by omega,?_⟩;rw[<-Nat.add_assoc,yM hq (by omega)];rfl
   |cons o1 os=>
    have ho2:((o1::os).map l9).length<=10:=by rw[List.length_map];exact X9
    refine⟨_,rfl,_,MG (o1::os) (Nat.le_trans X9 (by decide)),?_⟩;refine X7 (IW (o1::os)) ?_;refine⟨trivial,cA rfl ⟨Nat.le_of_eq (Nat.zero_add _),?_,_,ij rfl,_,rfl,?_⟩⟩
    rotate_left
    .refine⟨⟨rfl,rfl,trivial⟩,?_⟩
     refine⟨⟨rfl,trivial⟩,?_⟩;refine⟨_,IX rfl rfl,_,rfl,cA rfl ?_⟩;refine⟨⟨rfl,trivial⟩,?_⟩;refine⟨trivial,cA (by rw[aG];rfl) ⟨?_,?_,_,hold,_,rfl,?_⟩⟩
     .rw[List.length_append];exact Nat.le_refl _
     .show((((F.take (a h+j)).drop h).map sT).length+1)*32<=ay
      rw[Ya];unfold ay;omega
     refine⟨trivial,?_⟩;refine⟨trivial,?_⟩;refine⟨by kernel_rfl,g2+1,[],rfl,by omega,?_⟩;have kj:sT (hY n (2^i),o1::os++[i])=[.int .i64 (hY n (2^i):Nat),.list 1 ((o1::os).map l9++[l9 i])]:=by
      show[_,D.list 1 ((o1::(os++[i])).map l9)]=_;rw[<-List.cons_append,List.map_append];rfl
     rw[<-Nat.add_assoc,yM hq (by omega),kj];rfl
    show(((o1::os).map l9).length+1)*8<=ay;unfold ay;omega
  .intro x hx
   obtain⟨i,_,rfl⟩:=List.mem_map.1 hx;exact⟨rfl,rfl⟩
  rintro bs y⟨g2,I3,rfl,hc,rfl⟩;rw[List.length_map]at hc;have hc:a h+(cf n).length<=F.length:=hc;rw[show a h+((cf n).map (Ib n)).length=a (h+1)by rw[List.length_map];exact haS.symm];have abt:(F.take (a (h+1)))[h]?=some (n,o):=by rw[List.getElem?_take,if_pos (by omega)];exact hp
  have Hn:(((F.take (a (h+1))).drop h).map sT).length=a (h+1)-h:=by simp;omega
  have hl3:(((F.take (a h)).drop h).map sT).length=a h-h:=hln;refine cA (by rw[aG];rfl) ⟨⟨by decide,by rw[Hn];omega⟩,?_⟩;refine⟨⟨rfl,rfl⟩,⟨h+1,g2,I3++[sT (n,o)],by omega,by omega,abr,?_⟩,?_⟩
  .rw[IY abt]
   rfl
  show 100-(((F.take (a (h+1))).map uo).length-((((F.take (a (h+1))).drop h).map sT).length-1))<100-(((F.take (a h)).map uo).length-(((F.take (a h)).drop h).map sT).length);rw[Hn,hl3,List.length_map,List.length_map,List.length_take,List.length_take];omega
structure CE where
 k:Nat
 az:List D
 d:D
 ok:DN k az d
def Yb:List CE->Nat->List D->Option D
 |[],k,az=>Ux k az
 |x::r,k,az=>match Nat.beq x.k k with
  |true=>(match lJ x.az az with
   |true=>some x.d
   |false=>Yb r k az)
  |false=>Yb r k az
theorem FG:∀{l:List CE}{k:Nat}{az:List D}{d:D},Yb l k az=some d->DN k az d
 |[],k,az,d,h=>AF h
 |x::r,k,az,d,h=>by
  unfold Yb at h;split at h
  .rename_i h1
   split at h
   .rename_i h2
    cases h;rw[<-Nat.eq_of_beq_eq_true h1,<-ew h2];exact x.ok
   exact FG h
  exact FG h
def MJ(t n i:Nat):Nat:=(t>>>(3*(3*n+i)))%8
structure WE where
 S:List D
 t:Nat
 ok:∀n i:Nat,n<8->i<3->DN 100 [.ro S,.int .i64 n,.int .i64 i] (.int .i64 (MJ t n i))
def MK(s:List D):List WE->Option WE
 |[]=>none
 |x::r=>match lJ x.S s with
  |true=>some x
  |false=>MK s r
theorem AG{s:List D}:∀{l:List WE}{x:WE},MK s l=some x->x.S=s
 |[],_,h=>by cases h
 |y::r,x,h=>by
  unfold MK at h;split at h
  .rename_i h1;cases h;exact ew h1
  exact AG h
def orW(ws:List WE)(cs:List CE)(k:Nat)(az:List D):Option D:=match Nat.beq k 100 with
 |true=>(match az with
  |[.ro s,.int .i64 (.ofNat n),.int .i64 (.ofNat i)]=>(match MK s ws with
   |some x=>(match Nat.blt n 8,Nat.blt i 3 with
    |true,true=>some (.int .i64 (Int.ofNat (MJ x.t n i)))
    |_,_=>none)
   |none=>none)
  |_=>none)
 |false=>Yb cs k az
theorem TC{ws:List WE}{cs:List CE}{k:Nat}{az:List D}{d:D}(h:orW ws cs k az=some d):DN k az d:=by
 unfold orW at h;split at h
 .rename_i h1
  cases Nat.eq_of_beq_eq_true h1;split at h
  .split at h
   .rename_i h2
    split at h
    .rename_i h3 h4
     cases h;rw[<-AG h2];exact WE.ok _ _ _ (cX h3) (cX h4)
    cases h
   cases h
  cases h
 exact FG h
structure IE where
 k:Nat
 az:List D
 xs:List (List D)
 ok:IT k az xs
def Yc:List IE->Nat->List D->Option (List (List D))
 |[],_,_=>none
 |x::r,k,az=>match Nat.beq x.k k with
  |true=>(match lJ x.az az with
   |true=>some x.xs
   |false=>Yc r k az)
  |false=>Yc r k az
theorem FH:∀{l:List IE}{k:Nat}{az:List D}{d:List (List D)},Yc l k az=some d->IT k az d
 |[],k,az,d,h=>by cases h
 |x::r,k,az,d,h=>by
  unfold Yc at h;split at h
  .rename_i h1
   split at h
   .rename_i h2
    cases h;rw[<-Nat.eq_of_beq_eq_true h1,<-ew h2];exact x.ok
   exact FH h
  exact FH h
def OV(t n:Nat):List Nat:=rq (MJ t n) ((List.range 3).filter λi=>n.testBit i)
theorem ML:∀n:Nat,n<8->elems n=(List.range 3).filter λi=>n.testBit i:=by decide+kernel
theorem yN{n i:Nat}(h:i∈(List.range 3).filter λi=>n.testBit i):i<3:=List.mem_range.1 (List.mem_filter.1 h).1
theorem WE.can(x:WE)(n:Nat)(hn:n<8):IT 238 [.ro [.int .i64 n],.ro [.ro x.S]] ((OV x.t n).map (Ib n)):=by
 have h:=Fi n (by omega);rw[ML n hn]at h;exact WO x.S n _ h (λi hi=>by have:=yN hi;omega) (by omega) _ λi hi=>x.ok n i hn (yN hi)
def itX(ws:List WE)(is:List IE)(k:Nat)(az:List D):Option (List (List D)):=match Nat.beq k 279 with
 |true=>(match az with
  |[.ro [.int .i64 (.ofNat n)]]=>(match Nat.blt n 8 with
   |true=>some (((List.range 3).filter λi=>n.testBit i).map l9)
   |false=>none)
  |_=>none)
 |false=>match Nat.beq k 238 with
  |true=>(match az with
   |[.ro [.int .i64 (.ofNat n)],.ro [.ro s]]=>(match MK s ws with
    |some x=>(match Nat.blt n 8 with
     |true=>some ((OV x.t n).map (Ib n))
     |false=>none)
    |none=>none)
   |_=>none)
  |false=>match Nat.beq k 89 with
   |true=>Dd az
   |false=>Yc is k az
theorem TD{ws:List WE}{is:List IE}{k:Nat}{az:List D}{xs:List (List D)}(h:itX ws is k az=some xs):IT k az xs:=by
 unfold itX at h;split at h
 .rename_i h1
  cases Nat.eq_of_beq_eq_true h1;split at h
  .split at h
   .rename_i h2
    cases h;have hn:=cX h2;have h3:=Fi _ (Nat.lt_trans hn (by decide));rw[ML _ hn]at h3;exact h3
   cases h
  cases h
 split at h
 .rename_i h1
  cases Nat.eq_of_beq_eq_true h1;split at h
  .split at h
   .rename_i h2
    split at h
    .rename_i h3
     cases h;rw[<-AG h2];exact WE.can _ _ (cX h3)
    cases h
   cases h
  cases h
 split at h
 .rename_i h1
  cases Nat.eq_of_beq_eq_true h1;exact wZ h
 exact FH h
structure YE where
 k:Nat
 az:List D
 bs:List af
 d:D
 cs:List af
 ok:DY k az bs .aQ λe c z=>e=d/\c=cs/\z=.aQ
def Uy:List YE->Nat->List D->List af->Option (D×List af)
 |[],_,_,_=>none
 |x::r,k,az,bs=>match Nat.beq x.k k with
  |true=>(match lJ x.az az with
   |true=>(match ET x.bs bs with
    |true=>some (x.d,x.cs)
    |false=>Uy r k az bs)
   |false=>Uy r k az bs)
  |false=>Uy r k az bs
theorem AH:∀{l:List YE}{k:Nat}{az:List D}{bs:List af}{r:D×List af},Uy l k az bs=some r->DY k az bs .aQ λe c z=>e=r.1/\c=r.2/\z=.aQ
 |[],k,az,bs,r,h=>by cases h
 |x::l,k,az,bs,r,h=>by
  unfold Uy at h;split at h
  .rename_i h1
   split at h
   .rename_i h2
    split at h
    .rename_i h3
     cases h;rw[<-Nat.eq_of_beq_eq_true h1,<-ew h2,<-Ac h3];exact x.ok
    exact AH h
   exact AH h
  exact AH h
end Go.Proofs.Ball
