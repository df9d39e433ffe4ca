/- What ballasted_holds leans on, part RE. No condition. -/
import Derived.Test.YthglcafppddedaaGreatDoorPackTF
import Derived.Test.YthglcafppddedaaGreatDoorPackTC

set_option linter.all false
namespace Go.Proofs
open Go.Shelf Go.RowKit
section
variable{P:Program}{ρ:Ren}
set_option maxHeartbeats 1000000
set_option maxRecDepth 100000
theorem MN(L:Lays.n240 P ρ)(X:Builder.X72 P ρ)(b o:Nat)(w:World)(h0:w.cell? ⟨b,o,none⟩=some (.pointer (some ⟨b,o,none⟩))):
    Calls P (ρ.f 240) #[.pointer (some ⟨b,o,none⟩)] w λe w'=>e=.returned (.tuple #[])/\w'=w:=by
  obtain⟨j,hj,_⟩:=Option.map_eq_some_iff.1 X.sizeBuilder;have mixed:=L.mixed;have t72:=L.t72;have a72:=L.a72;have z72:=L.z72;have v72:=L.v72;have u72:=run_underlying L.t72
  have t70:=L.t70;have a70:=L.a70;have z70:=L.z70;have v70:=L.v70;have u70:=run_underlying L.t70
  have t9:=L.t9;have a9:=L.a9;have z9:=L.z9;have v9:=L.v9;have u9:=run_underlying L.t9
  have t4:=L.t4;have a4:=L.a4;have z4:=L.z4;have v4:=L.v4;have u4:=run_underlying L.t4
  have t164:=L.t164;have a164:=L.a164;have z164:=L.z164;have v164:=L.v164;have abU:=run_underlying L.t164
  go_enter L.f240,Body.n240_ntmps ρ
  go_wp2
  rw[Lib.run_neq_ptr_same w _ L.t70 hj]
  go_wp2
  go_end0
  exact⟨rfl,rfl⟩
theorem MO(L:Lays.n169 P ρ)(X:Builder.Extra P ρ)(b o g cap:Nat)(cur:Array Value)(l:List UInt8)(w:World)(hc:w.cell? ⟨b,o+1,none⟩=some (.slice (some ⟨g,0,none⟩) l.length cap))(hg:w.heap[g]?=some (.cells cur (ρ.t 5) (0,0)))
    (ia:l.length<=cap)(fS:cur.size=cap)(ca:∀(j:Nat)(x:UInt8),l[j]?=some x->cur[j]?=some (.int .u8 x.toNat))(h0:l≠[])(ZS:l.length<=9223372036854775807):
    Calls P (ρ.f 169) #[.pointer (some ⟨b,o,none⟩)] w λe w'=>e=.returned (.string ⟨l.toArray⟩)/\w'=w.drew.freeze ⟨g,0,none⟩ l.length:=by
  have DS:l.length≠0:=by simpa using h0
  have c1:w.drew.cell? ⟨b,o+1,none⟩=some (.slice (some ⟨g,0,none⟩) l.length cap):=hc;have hSD:(Builtin.unsafeSliceData_ #[(ρ.t 37)] (ρ.t 127) #[.slice (some ⟨g,0,none⟩) l.length cap]).run P w.drew=.ok (.pointer (some ⟨g,0,none⟩)) w.drew:=
   Lib.run_unsafeSliceData_row _ _ _ _ _ _ (by omega)
  have hUS:(Builtin.unsafeString_ #[(ρ.t 127),(ρ.t 3)] (ρ.t 9) #[.pointer (some ⟨g,0,none⟩),.int .i64 l.length]).run P w.drew=.ok (.string ⟨l.toArray⟩) (w.drew.freeze ⟨g,0,none⟩ l.length):=by
   refine Lib.run_unsafeString_row w.drew (ρ.t 127) (ρ.t 3) (ρ.t 9) (ρ.t 5) L.t127 X.cellsByte g cur.size (by have Qv:w.drew.heap[g]?=some (.cells cur (ρ.t 5) (0,0)):=hg;simp[World.shape?,Qv]) l h0 (by omega) (by omega) ?_;intro j x hx;have Qv:w.drew.heap[g]?=some (.cells cur (ρ.t 5) (0,0)):=hg;have:=ca j x hx;simp only[Addr.add_lit,Nat.zero_add];rw[Lib.cell_of_heap Qv];exact this
  have mixed:=L.mixed;have t72:=L.t72;have a72:=L.a72;have z72:=L.z72;have v72:=L.v72;have u72:=run_underlying L.t72
  have t70:=L.t70;have a70:=L.a70;have z70:=L.z70;have v70:=L.v70;have u70:=run_underlying L.t70
  have t37:=L.t37;have a37:=L.a37;have z37:=L.z37;have v37:=L.v37;have u37:=run_underlying L.t37
  have t127:=L.t127;have a127:=L.a127;have z127:=L.z127;have v127:=L.v127;have abV:=run_underlying L.t127
  have t3:=L.t3;have a3:=L.a3;have z3:=L.z3;have v3:=L.v3;have u3:=run_underlying L.t3
  have t9:=L.t9;have a9:=L.a9;have z9:=L.z9;have v9:=L.v9;have u9:=run_underlying L.t9
  have t5:=X.t5;have a5:=X.a5;have z5:=X.z5;have v5:=X.v5;have u5:=run_underlying X.t5
  go_enter L.f169,Body.n169_ntmps ρ
  go_wp2
  go_region_o
  all_goals (go_wp2;go_ret;exact⟨rfl,rfl⟩)
end
end Go.Proofs
namespace Go.Proofs.Ball
open Go.V Go.Proofs Go.RowKit
abbrev Yo:Lays.n240 Tryz.prog Tryz.lu:={Tryz.G0 with}
abbrev Yp:Builder.X72 Tryz.prog Tryz.lu:=Tryz.lx.toX72
theorem O2{cx:Cx}{bs:List af}{y:eG}{β:BE}{I:aW}{S:Nat->Prop}{w:World}(h:Go.V.Hp cx bs y β I S w):β bs.length=none:=by
 cases hb:β bs.length with
 |none=>rfl
 |some b=>
  obtain⟨box,h1,_⟩:=h.1.bx _ b hb;have:=(List.getElem?_eq_some_iff.1 h1).1;exact absurd this (Nat.lt_irrefl _)
theorem tQ(w:World)(R:Nat)(f:Obj->Obj):aB (λk=>k≠R) w {w with heap:=w.heap.modify R f}:=
 ⟨rfl,rfl,rfl,by simp,λk hk=>by simp[Array.getElem?_modify,Ne.symm hk]⟩
theorem Dm(w:World)(g n:Nat):aB (λk=>k≠g) w (w.freeze ⟨g,0,none⟩ n):=by
 unfold World.freeze;split
 .exact aB.refl _ w
 exact tQ w g _
theorem Yq(y:eG):DY 264 [.loc 0 0] [.aA false ⟨#[]⟩ 334] y λd cs z=>d=.b9 []/\cs=[.flat false [.loc 0 0,.sl 1 0 0 0],.aA false ⟨#[]⟩ (dR 0 0 5)]/\z=y:=
 ⟨Tryz.call264,λcx w β I S vs ak _ _ hh hr=>by
  obtain⟨v,oz,rfl,hv,hr⟩:=hr.cons_inv;cases hr.cR;cases hv with
  |loc _ _ b R hb dN hR=>
  obtain⟨box,fp,cV⟩:=hh.1.bx 0 b hb;cases fp;obtain⟨_,ho,R',dh,hw⟩:=cV.resolve_right λh=>by have:=h.1;rw[dN]at this;cases this
  rw[hR]at dh;cases dh;have hw:w.heap[R]?=some (.cells #[.pointer none,.slice none 0 0] 329 (0,0)):=hw;rw[ho];refine(Any.Builder_copyCheck_fresh Yo Yp R w (by simp[World.cell?,hw]) (by simp[World.shape?,hw];rfl) (by simp[World.frozen?,hw])).mono ?_;rintro e w'⟨rfl,rfl⟩;have hk:aB (λk=>k≠R) w (w.setCell ⟨R,0,none⟩ (.pointer (some ⟨R,0,none⟩))):=tQ w R _;have hw':(w.setCell ⟨R,0,none⟩ (.pointer (some ⟨R,0,none⟩))).heap[R]?=some (.cells #[.pointer (some ⟨R,0,none⟩),.slice none 0 0] 329 (0,0)):=by
   simp[World.setCell,Array.getElem?_modify,hw]
  have hn:=O2 hh;obtain⟨gu,hle⟩:=hh.1.new ak (aB.refl _ w) (bs:=[.aA false ⟨#[]⟩ 334,.aA false ⟨#[]⟩ (dR 0 0 5)]) (n:=1) (b:=.aA false ⟨#[]⟩ (dR 0 0 5)) (bi:=⟨none,false,0,1,0,0,0⟩) hn rfl
   (λi hi=>by
    cases i with
    |zero=>rfl
    |succ i=>
     obtain⟨b',eW⟩:=Option.isSome_iff_exists.1 hi;obtain⟨bx,h1,_⟩:=hh.1.bx _ b' eW;cases h1)
   (λR hR=>by cases hR) (.inr ⟨rfl,rfl,rfl,rfl,Nat.le_refl _,5,by decide,rfl,rfl⟩)
  obtain⟨β1,zk⟩:∃q,(λi=>if i=1 then some (⟨none,false,0,1,0,0,0⟩:BI)else β i)=q:=⟨_,rfl⟩;have qm:β1 0=some b:=by rw[<-zk];exact hb
  have jQ:β1 1=some ⟨none,false,0,1,0,0,0⟩:=by rw[<-zk];rfl
  rw[zk]at gu;have ta:=gu.set ak qm rfl rfl (λ_ _ _ e=>by cases e) (w':=w.setCell ⟨R,0,none⟩ (.pointer (some ⟨R,0,none⟩))) (b':=b) (box':=.flat false [.loc 0 0,.sl 1 0 0 0])
   (hk.mono λB hB e=>hB.2 (by rw[hR,e])) (λR hR=>.inl hR) (k8 qm) (by
    rw[dA qm];refine⟨dN,R,_,_,hR,hw',?_⟩;rw[ho];refine⟨bn.cons ?_ (bn.cons ?_ .nil),λv hv=>?_⟩
    .have:=Rel.loc (I:=I) (β:=β1) 0 0 b R qm dN hR
     rw[ho]at this;exact this
    .exact .sl none 0 1 0 0 0 ⟨none,false,0,1,0,0,0⟩ jQ rfl rfl rfl (Nat.le_refl _) (Nat.le_refl _) λh=>absurd h (by decide)
    simp at hv;rcases hv with rfl|rfl<;>rfl)
  rw[dA qm]at ta;refine⟨_,.b9 [],_,_,_,I,S,rfl,⟨rfl,rfl,rfl⟩,⟨ta,λi hi=>?_⟩,Rel.ji (vs:=[]) .nil⟩
  match i,hi with
  |0,_=>rw[qm];rfl
  |1,_=>rw[jQ];rfl⟩
theorem Yr(y:eG)(d:D)(bs:List af):DY 264 [.loc 0 0] (.flat false [.loc 0 0,d]::bs) y λe cs z=>e=.b9 []/\cs=.flat false [.loc 0 0,d]::bs/\z=y:=
 ⟨Tryz.call264,λcx w β I S vs ak _ _ hh hr=>by
  obtain⟨v,oz,rfl,hv,hr⟩:=hr.cons_inv;cases hr.cR;cases hv with
  |loc _ _ b R hb dN hR=>
  obtain⟨box,fp,cV⟩:=hh.1.bx 0 b hb;cases fp;obtain⟨_,R',c,t,dh,hw,aq,h1⟩:=cV;rw[hR]at dh;cases dh;obtain⟨u,us,Qy,hu,_⟩:=aq.cons_inv;have Zs:c[b.o]?=some u:=by
   have h2:((c.toList.drop b.o).take 2)[0]?=some u:=by
    have:((c.toList.drop b.o).take [D.loc 0 0,d].length)[0]?=some u:=by rw[Qy];rfl
    exact this
   have:=vb h2;rw[Nat.add_zero]at this;simpa using this
  cases hu with
  |loc _ _ b2 R2 jQ _ AL=>
  rw[hb]at jQ;cases jQ;rw[hR]at AL;cases AL;rw[Nat.add_zero]at Zs⊢;refine(MN Yo Yp R b.o w (by rw[bO hw];exact Zs)).mono ?_;rintro e w'⟨rfl,rfl⟩;exact⟨_,.b9 [],_,_,_,I,S,rfl,⟨rfl,rfl,rfl⟩,hh,Rel.ji (vs:=[]) .nil⟩⟩
theorem abA(y:eG)(c:D)(g n:Nat)(s:ByteArray)(hn:n=s.size)(h0:0<n)(ZS:n<=9223372036854775807):DY 217 [.loc 0 0] [.flat false [c,.sl 1 g 0 n],.aA false s (dR n g 5)] y λd cs z=>d=.str s/\cs=[.flat false [c,.sl 1 g 0 n],.rows false (g+1) 1 []]/\z=y:=
 ⟨Tryz.call217,λcx w β I S vs ak _ _ hh hr=>by
  obtain⟨v,oz,rfl,hv,hr⟩:=hr.cons_inv;cases hr.cR;cases hv with
  |loc _ _ b R hb dN hR=>
  obtain⟨box,fp,cV⟩:=hh.1.bx 0 b hb;cases fp;obtain⟨_,R',cc,t,dh,hw,aq,h1⟩:=cV;rw[hR]at dh;cases dh;obtain⟨u,us,Qy,_,aq⟩:=aq.cons_inv;obtain⟨u2,us2,rfl,UM,_⟩:=aq.cons_inv;have Zs:cc[b.o+1]?=some u2:=by
   have h2:((cc.toList.drop b.o).take 2)[1]?=some u2:=by
    have:((cc.toList.drop b.o).take [c,D.sl 1 g 0 n].length)[1]?=some u2:=by rw[Qy];rfl
    exact this
   simpa using vb h2
  obtain⟨b1,qm⟩:=Option.isSome_iff_exists.1 (hh.2 1 (by simp));obtain⟨box,fp,cV⟩:=hh.1.bx 1 b1 qm;cases fp;have jt:b1.flat=false->lz w b1 s (dR n g 5)/\b1.g=g:=λhf=>by
   have h2:=cV.resolve_left λh=>by rw[h.1]at hf;cases hf
   refine⟨h2,?_⟩;obtain⟨_,_,_,_,_,e',h6,h7,_⟩:=h2;rw[<-hn]at h7;have h6:@LT.lt Nat _ e' 1099511627776:=h6;unfold dR at h7;omega
  cases UM with
  |cJ _ _ _ _ _ _ b2 jQ Zt eu=>
   rw[qm]at jQ;cases jQ;have:=(jt Zt).2;omega
  |sl A cap _ _ _ _ b2 jQ Zt eu Za Hn Pr Y9=>
  rw[qm]at jQ;cases jQ;obtain⟨⟨_,dQ,ho,hbn,ia,e',fL,NC,hm⟩,_⟩:=jt Zt;have he5:e'=5:=by
   rw[<-hn,eu]at NC;unfold dR at NC;omega
  subst he5;obtain⟨G,hG,rfl⟩:=Y9 (by omega);rw[hG]at hm;obtain⟨cur,abB,fS,ca⟩:=hm;have qo:s.data.toList.length=n:=by rw[Array.length_toList,hn];rfl
  have eh:s.data.toList≠[]:=λh=>by rw[h]at qo;simp at qo;omega
  rw[Nat.add_zero,ho,Nat.zero_add,Nat.zero_mul]at*;refine(MO Tryz.GZ Tryz.lr R b.o G cap cur s.data.toList w (by rw[bO hw,qo];exact Zs) abB (by omega) (by omega) ca eh (by omega)).mono ?_;rintro e w'⟨rfl,rfl⟩;have hk:aB (λk=>k≠G) w (w.drew.freeze ⟨G,0,none⟩ s.data.toList.length):=(aB.drew _ w).trans (Dm w.drew G _);have ta:=hh.1.set ak qm rfl rfl (λ_ _ _ e=>by cases e) (w':=w.drew.freeze ⟨G,0,none⟩ s.data.toList.length) (b':=⟨none,false,g+1,1,0,0,0⟩) (box':=.rows false (g+1) 1 [])
   (hk.mono λB hB e=>hB.2 (by rw[hG,e])) (λR hR=>by cases hR) (λj cj JR=>by
    by_cases hj:j=1
    .subst hj
     rw[qm]at JR;cases JR;exact⟨⟨none,false,g+1,1,0,0,0⟩,by simp,.inr ⟨Zt,rfl,by show b1.g<g+1;omega⟩⟩
    exact⟨cj,by simp[hj,JR],.inl rfl⟩) ⟨rfl,rfl,rfl,rfl,λr row hr=>by simp at hr,Nat.le_refl _,rfl⟩
  refine⟨_,.str s,_,_,_,I,S,rfl,⟨rfl,rfl,rfl⟩,⟨ta,λi hi=>?_⟩,.str _⟩
  match i,hi with
  |0,_=>show(β 0).isSome=true;rw[hb];rfl
  |1,_=>rfl⟩
end Go.Proofs.Ball
namespace Go.Proofs.Ball
open Go.V Go.Proofs
theorem lA.wk[aM]{P:Program}{f:FuncId}{az:List D}{bs:List af}{y:eG}{Q Q':D->List af->eG->Prop}(h:lA P f az bs y Q)(hq:∀d cs z,Q d cs z->∃d',Dy d d'/\Q' d' cs z):lA P f az bs y Q':=
 ⟨h.1,λcx w β I S vs h1 h2 h3 h4 h5=>(h.2 cx w β I S vs h1 h2 h3 h4 h5).mono λe w'⟨v,d,bu,y',β',I',S',a1,a2,a3,a4⟩=>by
  obtain⟨d',b1,b2⟩:=hq d bu y' a2;exact⟨v,d',bu,y',β',I',S',a1,b2,a3,b1 I' β' v a4⟩⟩
theorem TO:Dy .ao (.list 0 []):=λ_ _ _ h=>by cases h;exact .dj _ _ _
theorem abC(i g:Nat)(hg:True):Dy (.sl i g 0 0) (.list 0 []):=λ_ _ _ h=>by cases h<;>exact .dj _ _ _
theorem Ys(d:D)(hd:d=.ao\/d=.list 0 []):DY 201 [d] [] .aQ (λe cs z=>e=.list 0 []/\cs=[]/\z=.aQ):=by
 have h0:DY 201 [d] [] .aQ (λe cs z=>(e=.ao/\cs=[]/\z=.aQ)\/(e=.sl 1 0 0 0/\cs=[.rows false 0 1 [],.rows false 0 1 []]/\z=.aQ)):=by
  refine Un Tryz.func201 Tryz.call201 rfl rfl ?_;rcases hd with rfl|rfl
  .intro b
   cases b with
   |true=>
    refine⟨λ_=>?_,λh=>absurd h (by decide)⟩;exact⟨_,rfl,.inl ⟨rfl,rfl,rfl⟩⟩
   |false=>
    refine⟨λh=>absurd h (by decide),λ_=>?_⟩;refine⟨by decide,by decide,?_⟩;exact⟨_,rfl,.inr ⟨rfl,rfl,rfl⟩⟩
  intro b hb;cases b with
  |true=>
   refine⟨λ_=>?_,λh=>absurd h (by decide)⟩;exact⟨_,rfl,.inl ⟨rfl,rfl,rfl⟩⟩
  |false=>
   refine⟨λh=>absurd h (by decide),λ_=>?_⟩;refine⟨by decide,by decide,?_⟩;exact⟨_,rfl,.inr ⟨rfl,rfl,rfl⟩⟩
 refine lA.cut (Q:=λe cs z=>e=.list 0 []/\(cs=[]\/cs=[.rows false 0 1 [],.rows false 0 1 []])/\z=.aQ) (lA.wk h0 ?_) ?_
 .rintro d cs z(⟨rfl,rfl,rfl⟩|⟨rfl,rfl,rfl⟩)
  .exact⟨_,TO,rfl,.inl rfl,rfl⟩
  exact⟨_,abC 1 0 trivial,rfl,.inr rfl,rfl⟩
 rintro d cs z⟨rfl,hc,rfl⟩;rcases hc with rfl|rfl<;>exact⟨rfl,rfl,rfl,rfl,rfl⟩
theorem MP{a b:Nat}(h:a<b):Nat.blt a b=true:=by rw[Nat.blt_eq];exact h
def Dn:Nat->Nat->List UInt8->List UInt8
 |0,_,l=>l
 |f+1,n,l=>match Nat.blt n 10 with
  |true=>UInt8.ofNat (48+n)::l
  |false=>Dn f (n/10) (UInt8.ofNat (48+n %10)::l)
theorem G2:∀(f n:Nat)(l:List UInt8),n<10^(f+1)->Dn (f+1) n l=Lib.decDigits n++l
 |0,n,l,h=>by
  have h:n<10:=h;have e:Nat.blt n 10=true:=MP h;rw[Dn,e,Lib.decDigits,dif_pos h];rfl
 |f+1,n,l,h=>by
  by_cases hn:n<10
  .have e:Nat.blt n 10=true:=MP hn
   rw[Dn,e,Lib.decDigits,dif_pos hn];rfl
  have e:Nat.blt n 10=false:=by
    cases h:Nat.blt n 10 with
    |false=>rfl
    |true=>exact absurd (cX h) hn
  rw[Dn,e,Lib.decDigits,dif_neg hn];show Dn (f+1) (n/10) _=_;rw[G2 f (n/10) _ (by rw[Nat.pow_succ]at h;omega)];simp
def MQ(c:UInt8):List UInt8->Nat->Int
 |[],_=>-1
 |b::l,n=>match b==c with
  |true=>Int.ofNat n
  |false=>MQ c l (n+1)
theorem G3(c:UInt8):∀(l:List UInt8)(n:Nat),MQ c l n=if Lib.indexByte l c=-1 then-1 else Lib.indexByte l c+n
 |[],n=>rfl
 |b::l,n=>by
  rw[MQ,Lib.indexByte];cases b==c with
  |true=>simp
  |false=>
   have h:=Lib.indexByte_ge l c;simp only[Bool.false_eq_true,if_false,G3 c l (n+1),beq_iff_eq];split
   .rfl
   rw[if_neg (by omega)];omega
theorem I7(c:UInt8)(l:List UInt8):MQ c l 0=Lib.indexByte l c:=by
 rw[G3];split
 .rename_i h;exact h.symm
 simp
def Dp:List (List D)->Option (List ByteArray)
 |[]=>some []
 |x::r=>match x with
  |[.str s]=>(match Dp r with
   |some l=>some (s::l)
   |none=>none)
  |_=>none
theorem w8:∀{l:List (List D)}{xs:List ByteArray},Dp l=some xs->l=xs.map uq
 |[],_,h=>by cases h;rfl
 |x::r,xs,h=>by
  unfold Dp at h;split at h
  .split at h
   .rename_i h1;cases h;rw[w8 h1];rfl
   cases h
  cases h
def orS:Nat->List D->Option D
 |216,[.int .i64 (.ofNat n)]=>match Nat.blt n 100000000 with
  |true=>some (.str ⟨(Dn 8 n []).toArray⟩)
  |false=>none
 |271,[.str s]=>match Nat.ble s.size 18 with
  |true=>(match Lib.atoi s.data.toList with
   |some n=>some (.b9 [.int .i64 n,.dI])
   |none=>none)
  |false=>none
 |269,[.str s,.str ⟨⟨[c]⟩⟩]=>some (.int .i64 (Lib.countByte s.data.toList c))
 |311,[.str s,.int .u8 c]=>some (.int .i64 (MQ c.toNat.toUInt8 s.data.toList 0))
 |214,[.list 1 rows,.str sep]=>match Dp rows with
  |some xs=>(match Nat.blt 0 xs.length,Nat.ble xs.length 1000,Nat.ble (Lib.join (xs.map (·.data.toList)) sep.data.toList).length 140737488355328 with
   |true,true,true=>some (.str ⟨(Lib.join (xs.map (·.data.toList)) sep.data.toList).toArray⟩)
   |_,_,_=>none)
  |none=>none
 |k,az=>Ux k az
theorem TP{k:Nat}{az:List D}{d:D}(h:orS k az=some d):DN k az d:=by
 unfold orS at h;split at h
 .rename_i n
  split at h
  .rename_i h1
   cases h;have h1:=cX h1;have h2:=TE n (by omega);have e:Lib.itoa (n:Int)=Dn 8 n []:=by
    rw[G2 7 n [] (by omega),List.append_nil];unfold Lib.itoa;rw[if_neg (by omega)];rfl
   rw[e]at h2;exact h2
  cases h
 .split at h
  .rename_i h1
   split at h
   .rename_i h2;cases h;exact TF _ _ (Nat.le_of_ble_eq_true h1) h2
   cases h
  cases h
 .cases h;exact TG _ _
 .cases h;rw[I7];exact TH _ _
 .split at h
  .rename_i h1
   split at h
   .rename_i h2 h3 h4
    cases h;rw[w8 h1];exact TJ _ _ (cX h2) (Nat.le_of_ble_eq_true h3) (Nat.le_of_ble_eq_true h4)
   cases h
  cases h
 exact AF h
def oyS(k:Nat)(az:List D)(bs:List af):Option (D×List af):=match Nat.beq k 264 with
 |true=>(match az,bs with
  |[.loc 0 0],[.aA false ⟨⟨[]⟩⟩ p]=>(match Nat.beq p 334 with
   |true=>some (.b9 [],[.flat false [.loc 0 0,.sl 1 0 0 0],.aA false ⟨#[]⟩ (dR 0 0 5)])
   |false=>none)
  |[.loc 0 0],.flat false [.loc 0 0,d]::r=>some (.b9 [],.flat false [.loc 0 0,d]::r)
  |_,_=>none)
 |false=>match Nat.beq k 217 with
  |true=>(match az,bs with
   |[.loc 0 0],[.flat false [c,.sl 1 g 0 n],.aA false s p]=>(match Nat.beq n s.size,Nat.blt 0 n,Nat.ble n 9223372036854775807,Nat.beq p (dR n g 5)with
    |true,true,true,true=>some (.str s,[.flat false [c,.sl 1 g 0 n],.rows false (g+1) 1 []])
    |_,_,_,_=>none)
   |_,_=>none)
  |false=>match Nat.beq k 201 with
   |true=>(match az,bs with
    |[.ao],[]=>some (.list 0 [],[])
    |[.list 0 []],[]=>some (.list 0 [],[])
    |_,_=>none)
   |false=>none
theorem TQ{k:Nat}{az:List D}{bs:List af}{r:D×List af}(h:oyS k az bs=some r):DY k az bs .aQ λd cs z=>d=r.1/\cs=r.2/\z=.aQ:=by
 unfold oyS at h;split at h
 .rename_i h1
  cases Nat.eq_of_beq_eq_true h1;split at h
  .split at h
   .rename_i h2
    cases Nat.eq_of_beq_eq_true h2;cases h;exact Yq .aQ
   cases h
  .cases h;exact Yr .aQ _ _
  cases h
 split at h
 .rename_i h1
  cases Nat.eq_of_beq_eq_true h1;split at h
  .split at h
   .rename_i h2 h3 h4 h5
    cases h;rw[Nat.eq_of_beq_eq_true h5];exact abA .aQ _ _ _ _ (Nat.eq_of_beq_eq_true h2) (cX h3) (Nat.le_of_ble_eq_true h4)
   cases h
  cases h
 split at h
 .rename_i h1
  cases Nat.eq_of_beq_eq_true h1;split at h
  .cases h;exact Ys _ (.inl rfl)
  .cases h;exact Ys _ (.inr rfl)
  cases h
 cases h
def w9(n:ByteArray):Nat->Nat->List (List D)
 |0,_=>[]
 |r+1,j=>[.agg [.str n,.int .i64 j]]::w9 n r (j+1)
def qk:List ByteArray->List (List D)
 |[]=>[]
 |n::r=>w9 n 41 0++qk r
theorem Yt{sz:Nat}{l:List (List D)}(nm:List ByteArray)(h:DN 123 [.list sz l] (.list 1 (nm.map uq)))(hn:nm.length<1000):IT 211 [.ro [.list sz l]] (qk nm):=by
 refine WM Tryz.func211 Tryz.call211 rfl rfl ?_;intro y;have hlen:(nm.map uq).length=nm.length:=List.length_map _;refine⟨_,rfl,_,h,?_⟩;refine⟨[0,7,8,9],0,[],λU=>∃(i:Nat)(xs:List (List D)),i<=nm.length/\xs=qk (nm.drop i)/\U=⟨[(0,.j8 y),(7,.list 1 (nm.map uq)),(8,.int .i64 (nm.map uq).length),(9,.int .i64 i)],[],.rem y xs⟩,λU=>((nm.length:Int)-aZ 9 U).toNat,rfl,⟨rfl,rfl⟩,⟨0,_,Nat.zero_le _,rfl,rfl⟩,?_⟩;rintro U⟨i,xs,hi,hx,rfl⟩;refine⟨λh1=>?_,λh1=>?_⟩
 .have h1:=of_decide_eq_true h1
  rw[hlen]at h1;have bC:i<nm.length:=by omega
  have aI:(nm.map uq)[i]?=some (uq nm[i]):=by rw[List.getElem?_map,List.getElem?_eq_getElem bC];rfl
  have ea:nm.drop i=nm[i]::nm.drop (i+1):=List.drop_eq_getElem_cons bC;rw[ea,qk]at hx;have less:((nm.length:Int)-((i:Int)+1)).toNat<((nm.length:Int)-(i:Int)).toNat:=by omega
  refine⟨by omega,_,aI,?_⟩;refine⟨[0,4,7,8,9,13],0,[],λU=>∃(j:Nat)(xs:List (List D)),j<=41/\xs=w9 nm[i] (41-j) j++qk (nm.drop (i+1))/\U=⟨[(0,.j8 y),(4,.str nm[i]),(7,.list 1 (nm.map uq)),(8,.int .i64 (nm.map uq).length),(9,.int .i64 i),(13,.int .i64 j)],[],.rem y xs⟩,λU=>(41-aZ 13 U).toNat,rfl,⟨rfl,rfl⟩,⟨0,_,Nat.zero_le _,hx,rfl⟩,?_⟩;rintro U⟨j,xs,hj,hx,rfl⟩;refine⟨λh2=>?_,λh2=>?_⟩
  .have h2:=of_decide_eq_true h2
   have xm:j<41:=by omega
   rw[show 41-j=(41-(j+1))+1 by omega,w9,List.cons_append]at hx;have jI:(41-((j:Int)+1)).toNat<(41-(j:Int)).toNat:=by omega
   subst hx;refine⟨rfl,⟨_,rfl,rfl⟩,?_,?_⟩
   .refine⟨(j:Int)+1,wrap64 (by omega) (by omega),?_⟩
    exact⟨⟨rfl,rfl⟩,⟨j+1,_,xm,rfl,rfl⟩,jI⟩
   rfl
  have h2:=of_decide_eq_false h2;have e:41-j=0:=by omega
  rw[e,w9,List.nil_append]at hx;refine⟨(i:Int)+1,wrap64 (by omega) (by omega),?_⟩;exact⟨⟨rfl,rfl⟩,⟨i+1,_,bC,hx,rfl⟩,less⟩
 have h1:=of_decide_eq_false h1;rw[hlen]at h1;have e:nm.drop i=[]:=List.drop_eq_nil_of_le (by omega);rw[e,qk]at hx;subst hx;rfl
end Go.Proofs.Ball
namespace Go.Proofs.Ball.R12
open Go.V Go.Proofs Go.Proofs.Ball
set_option maxRecDepth 100000
noncomputable def fl:List FE:=[⟨12,_,Tryz.func12,Tryz.call12,rfl⟩,⟨30,_,Tryz.func30,Tryz.call30,rfl⟩,⟨31,_,Tryz.func31,Tryz.call31,rfl⟩,⟨32,_,Tryz.func32,Tryz.call32,rfl⟩,⟨33,_,Tryz.func33,Tryz.call33,rfl⟩,⟨34,_,Tryz.func34,Tryz.call34,rfl⟩,⟨35,_,Tryz.func35,Tryz.call35,rfl⟩,⟨36,_,Tryz.func36,Tryz.call36,rfl⟩,⟨37,_,Tryz.func37,Tryz.call37,rfl⟩,⟨38,_,Tryz.func38,Tryz.call38,rfl⟩,⟨39,_,Tryz.func39,Tryz.call39,rfl⟩,⟨40,_,Tryz.func40,Tryz.call40,rfl⟩,⟨41,_,Tryz.func41,Tryz.call41,rfl⟩,⟨42,_,Tryz.func42,Tryz.call42,rfl⟩,⟨43,_,Tryz.func43,Tryz.call43,rfl⟩,⟨45,_,Tryz.func45,Tryz.call45,rfl⟩,⟨46,_,Tryz.func46,Tryz.call46,rfl⟩,⟨47,_,Tryz.func47,Tryz.call47,rfl⟩,⟨48,_,Tryz.func48,Tryz.call48,rfl⟩,⟨87,_,Tryz.func87,Tryz.call87,rfl⟩,⟨114,_,Tryz.func114,Tryz.call114,rfl⟩,⟨115,_,Tryz.func115,Tryz.call115,rfl⟩,⟨116,_,Tryz.func116,Tryz.call116,rfl⟩,⟨117,_,Tryz.func117,Tryz.call117,rfl⟩,⟨118,_,Tryz.func118,Tryz.call118,rfl⟩,⟨119,_,Tryz.func119,Tryz.call119,rfl⟩,⟨120,_,Tryz.func120,Tryz.call120,rfl⟩,⟨121,_,Tryz.func121,Tryz.call121,rfl⟩,⟨122,_,Tryz.func122,Tryz.call122,rfl⟩,⟨123,_,Tryz.func123,Tryz.call123,rfl⟩,⟨124,_,Tryz.func124,Tryz.call124,rfl⟩,⟨125,_,Tryz.func125,Tryz.call125,rfl⟩,⟨126,_,Tryz.func126,Tryz.call126,rfl⟩,⟨127,_,Tryz.func127,Tryz.call127,rfl⟩,⟨128,_,Tryz.func128,Tryz.call128,rfl⟩,⟨129,_,Tryz.func129,Tryz.call129,rfl⟩,⟨130,_,Tryz.func130,Tryz.call130,rfl⟩,⟨131,_,Tryz.func131,Tryz.call131,rfl⟩,⟨132,_,Tryz.func132,Tryz.call132,rfl⟩,⟨133,_,Tryz.func133,Tryz.call133,rfl⟩,⟨134,_,Tryz.func134,Tryz.call134,rfl⟩,⟨135,_,Tryz.func135,Tryz.call135,rfl⟩,⟨136,_,Tryz.func136,Tryz.call136,rfl⟩,⟨137,_,Tryz.func137,Tryz.call137,rfl⟩,⟨138,_,Tryz.func138,Tryz.call138,rfl⟩,⟨139,_,Tryz.func139,Tryz.call139,rfl⟩,⟨140,_,Tryz.func140,Tryz.call140,rfl⟩,⟨141,_,Tryz.func141,Tryz.call141,rfl⟩,⟨177,_,Tryz.func177,Tryz.call177,rfl⟩,⟨179,_,Tryz.func179,Tryz.call179,rfl⟩,⟨181,_,Tryz.func181,Tryz.call181,rfl⟩,⟨200,_,Tryz.func200,Tryz.call200,rfl⟩,⟨201,_,Tryz.func201,Tryz.call201,rfl⟩,⟨202,_,Tryz.func202,Tryz.call202,rfl⟩,⟨203,_,Tryz.func203,Tryz.call203,rfl⟩,⟨204,_,Tryz.func204,Tryz.call204,rfl⟩,⟨205,_,Tryz.func205,Tryz.call205,rfl⟩,⟨206,_,Tryz.func206,Tryz.call206,rfl⟩,⟨207,_,Tryz.func207,Tryz.call207,rfl⟩,⟨208,_,Tryz.func208,Tryz.call208,rfl⟩,⟨209,_,Tryz.func209,Tryz.call209,rfl⟩,⟨210,_,Tryz.func210,Tryz.call210,rfl⟩,⟨212,_,Tryz.func212,Tryz.call212,rfl⟩,⟨213,_,Tryz.func213,Tryz.call213,rfl⟩,⟨215,_,Tryz.func215,Tryz.call215,rfl⟩,⟨218,_,Tryz.func218,Tryz.call218,rfl⟩,⟨219,_,Tryz.func219,Tryz.call219,rfl⟩,⟨220,_,Tryz.func220,Tryz.call220,rfl⟩,⟨221,_,Tryz.func221,Tryz.call221,rfl⟩,⟨222,_,Tryz.func222,Tryz.call222,rfl⟩,⟨251,_,Tryz.func251,Tryz.call251,rfl⟩,⟨252,_,Tryz.func252,Tryz.call252,rfl⟩,⟨260,_,Tryz.func260,Tryz.call260,rfl⟩,⟨261,_,Tryz.func261,Tryz.call261,rfl⟩,⟨262,_,Tryz.func262,Tryz.call262,rfl⟩,⟨263,_,Tryz.func263,Tryz.call263,rfl⟩,⟨267,_,Tryz.func267,Tryz.call267,rfl⟩,⟨268,_,Tryz.func268,Tryz.call268,rfl⟩,⟨270,_,Tryz.func270,Tryz.call270,rfl⟩,⟨282,_,Tryz.func282,Tryz.call282,rfl⟩,⟨283,_,Tryz.func283,Tryz.call283,rfl⟩,⟨287,_,Tryz.func287,Tryz.call287,rfl⟩,⟨288,_,Tryz.func288,Tryz.call288,rfl⟩,⟨289,_,Tryz.func289,Tryz.call289,rfl⟩,⟨290,_,Tryz.func290,Tryz.call290,rfl⟩,⟨291,_,Tryz.func291,Tryz.call291,rfl⟩,⟨292,_,Tryz.func292,Tryz.call292,rfl⟩,⟨293,_,Tryz.func293,Tryz.call293,rfl⟩,⟨294,_,Tryz.func294,Tryz.call294,rfl⟩,⟨295,_,Tryz.func295,Tryz.call295,rfl⟩,⟨296,_,Tryz.func296,Tryz.call296,rfl⟩,⟨297,_,Tryz.func297,Tryz.call297,rfl⟩,⟨298,_,Tryz.func298,Tryz.call298,rfl⟩,⟨299,_,Tryz.func299,Tryz.call299,rfl⟩,⟨300,_,Tryz.func300,Tryz.call300,rfl⟩,⟨301,_,Tryz.func301,Tryz.call301,rfl⟩,⟨302,_,Tryz.func302,Tryz.call302,rfl⟩,⟨303,_,Tryz.func303,Tryz.call303,rfl⟩,⟨304,_,Tryz.func304,Tryz.call304,rfl⟩,⟨305,_,Tryz.func305,Tryz.call305,rfl⟩,⟨306,_,Tryz.func306,Tryz.call306,rfl⟩,⟨307,_,Tryz.func307,Tryz.call307,rfl⟩,⟨313,_,Tryz.func313,Tryz.call313,rfl⟩,⟨314,_,Tryz.func314,Tryz.call314,rfl⟩,⟨315,_,Tryz.func315,Tryz.call315,rfl⟩,⟨316,_,Tryz.func316,Tryz.call316,rfl⟩,⟨324,_,Tryz.func324,Tryz.call324,rfl⟩,⟨325,_,Tryz.func325,Tryz.call325,rfl⟩,⟨326,_,Tryz.func326,Tryz.call326,rfl⟩,⟨327,_,Tryz.func327,Tryz.call327,rfl⟩,⟨328,_,Tryz.func328,Tryz.call328,rfl⟩,⟨329,_,Tryz.func329,Tryz.call329,rfl⟩,⟨330,_,Tryz.func330,Tryz.call330,rfl⟩,⟨337,_,Tryz.func337,Tryz.call337,rfl⟩,⟨338,_,Tryz.func338,Tryz.call338,rfl⟩,⟨344,_,Tryz.func344,Tryz.call344,rfl⟩]
def rL:List (Nat×List (Nat×RH)):=[(40,[(12,.any),(13,.any)]),(121,[(1,.Gn 8)]),(34,[(13,.late 14 [11,10,8,9,7,6])]),(38,[(18,.late 5 [3,4,2]),(21,.late 3 [1,2])]),(48,[(5,.late 12 [9,8,6,7,5])]),(133,[(18,.late 8 [0])]),(294,[(6,.perm [0,1,2,3,4,5,7,8,9,6,10,11,12,13,14] 9 [0,6,7,8])]),(299,[(6,.late 15 [2,4,3])]),(300,[(10,.late 17 [2,5,3,4])]),(301,[(10,.late 17 [2,5,3,4])]),(303,[(3,.late 13 [2,3])]),(304,[(11,.late 15 [2,4,3]),(17,.late 15 [2,4,3]),(23,.late 15 [2,4,3])]),(306,[(1,.late 13 [2,3]),(8,.late 13 [2,3])]),(307,[(1,.late 13 [2,3]),(8,.late 13 [2,3]),(10,.late 13 [2,3]),(18,.late 13 [2,3]),(21,.late 13 [2,3])]),(327,[(6,.late 21 [4,7,5,6])])]
def vL:List (Nat×List (Nat×List (Nat×Nat×Nat))):=[]
def kL:List (Nat×List (Nat×List Nat)):=[(30,[(6,[4,5,8,28,29,30])]),(32,[(7,[2,3,8,9,39,40,41])]),(33,[(9,[6,7,9,29,30,31])]),(34,[(9,[6,7,8,9,44,45,46])]),(37,[(8,[6,7,8,9,31,32,33])]),(38,[(12,[6,7,8,9,11,12,13,39,40,41,42])]),(40,[(5,[0,2,3,4])]),(45,[(3,[0,1,4,5,6])]),(46,[(3,[0,1,4,5,6])]),(47,[(3,[0,1,4,5,6])]),(48,[(3,[2,3,4,5,6])]),(123,[(2,[2,7,8,9]),(5,[2,7,8,9,15,16,17])]),(125,[(4,[0,1,4,12,13])]),(126,[(4,[1,2,6,7,23,24,25]),(16,[2,6,7,58,59,60]),(24,[2,6,7,85,86])]),(127,[(2,[1,2,6,7,8])]),(132,[(5,[0,2,3,4])]),(133,[(4,[1,2,3,4,13,14,15]),(9,[2,3,4,27,28,29])]),(177,[(2,[0,1,4,7,8])]),(200,[(5,[1,2,4,5,6,7,8,28,29,30]),(16,[1,4,5,6,7,8,11,12,52,53,54])]),(203,[(2,[0,1,4,7,8])]),(205,[(2,[0,1,4,7,8])]),(207,[(4,[0,2,3]),(9,[0,2,3,4,5])]),(210,[(2,[0,1,4,7,8])]),(215,[(3,[1,2,3,25,26,27])]),(219,[(11,[0,1,2,3,8,9,10])]),(220,[(2,[0,1,4,7,8])]),(262,[(2,[0,1,2,3,8,9])]),(263,[(2,[0,1,4,7,8])]),(267,[(15,[0,1,4,5,6,7,8,9,10])]),(268,[(6,[0,1,4,6,7])]),(290,[(2,[0,2,5,6,7])]),(298,[(10,[0,3,4,5,7,48,49])]),(299,[(1,[0,1,2,6]),(4,[0,1,2,6,7])]),(300,[(4,[0,6,7,8,9]),(8,[0,6,7,10])]),(301,[(5,[0,1,6,7,8,9])]),(303,[(2,[0,6,7])]),(304,[(3,[0,1,2,6,7,8]),(5,[0,1,2,6,7,8]),(14,[0,1,2,6,7,8,9]),(20,[0,1,2,6,7,8,10])]),(306,[(3,[0,1,8,9,10]),(3,[0,1,8,9,10]),(5,[0,1,8,9,10])]),(307,[(3,[0,1,8,9,10,11]),(5,[0,1,8,9,10,11]),(13,[0,1,8,9,10,11]),(13,[0,1,8,9,10,11]),(15,[0,1,8,9,10,11])]),(314,[(5,[0,1,4,5,6,7,8,9]),(11,[0,1,4,5,6,7,8,10])]),(315,[(2,[2,4])]),(327,[(1,[0,2,3,8])]),(337,[(3,[0,2,3,4,5]),(8,[2,3,4,6,7,8])])]
def sk:er:={sh:=λk=>[87,118,120,121,138,139,140,177,201,205,206,207,212,213,217,222,262,264,294,296,298,299,326].any (Nat.beq k),nw:=λk=>[324].any (Nat.beq k)}
def xh(it:Nat->List D->Option (List (List D)))(k:Nat):XH:={rh:=λid=>((fD rL k).bind λl=>fD l id).getD .draw,lh:=λ_=>.free,vh:=λid=>((fD vL k).bind λl=>fD l id).getD [],po:=λ_ _=>none,it:=it,oy:=(oyS) k,mp:=(λ_=>none) k,kl:=0,kp:=(λ_=>[]) k}
def zo(k id:Nat):ZL:=match fD kL k with
 |some l=>match fD l id with
  |some aE=>.free aE (match Nat.beq k 298 with|true=>[(.rN 7,0)]|false=>[])
  |none=>.free [] []
 |none=>.free [] []
def hz(it:Nat->List D->Option (List (List D)))(k:Nat):ZH:={x:=xh it k,zl:=zo k}
def TM(k:Nat):Option DZ:=match Nat.beq k 40 with|true=>some ⟨3,16,134,[.tmp 2,.tmp 3]⟩|false=>none
theorem Dk(it:Nat->List D->Option (List (List D)))(k:Nat)(z:DZ)(h:TM k=some z):(∀fn az d,xH fl k=some fn->Nat.ble az.length fn.ntmps=true->tu Tryz.prog Tryz.tt (CD Tryz.prog {sk with mp:=(hz it k).x.mp}) (nc Tryz.prog (qf 0)) fn z.np z.t3 z.k z.cs az d->DN k az d)/\∀ds,NY Tryz.prog z.k ds (λ_=>True) λ_ _ _=>False:=by
 unfold TM at h;split at h
 .rename_i e
  cases Nat.eq_of_beq_eq_true e;cases h;refine⟨λfn az d hf hn hb=>?_,Tb⟩;have e:fn=Tryz.f40:=by
   have h1:=(jV fl 40 fn hf).1;rw[Tryz.func40]at h1;exact(Option.some.inj h1).symm
  subst e;exact iV (np:=3) (t3:=16) (k:=134) Tryz.tok Tryz.mixed Tryz.func40 rfl Tryz.call40 (by rfl) (Nat.le_of_ble_eq_true hn) (by rfl) rfl rfl rfl rfl rfl rfl rfl rfl (by decide) hb
 cases h
noncomputable def M(it:Nat->List D->Option (List (List D))):=uk Tryz.tt (CD Tryz.prog sk) orS (hz it) TM (xH fl) 40
theorem Yu{it:Nat->List D->Option (List (List D))}(hit:∀k az xs,it k az=some xs->IT k az xs){k:Nat}{az:List D}{d:D}(h:(M it).cal k az=some d):DN k az d:=
 (kI (kl:=0) (hs:=hz it) Tryz.tok Tryz.mixed (jV fl) (λk az d h=>TP h) (λf k az v h=>by cases h) (λf k az xs h=>hit k az xs h) (λk az bs r h=>TQ h) (Dk it) (λ_=>rfl) 40).den _ _ _ h
def Zu(k:Nat)(az:List D):Option (List (List D)):=match Nat.beq k 89 with
 |true=>Dd az
 |false=>none
theorem MR(k:Nat)(az:List D)(xs:List (List D))(h:Zu k az=some xs):IT k az xs:=by
 unfold Zu at h;split at h
 .rename_i e;cases Nat.eq_of_beq_eq_true e;exact wZ h
 cases h
noncomputable def TR(k:Nat)(az:List D):Option (List (List D)):=match Nat.beq k 211 with
 |true=>(match az with
  |[.ro [.list sz l]]=>(match(M Zu).cal 123 [.list sz l]with
   |some (.list 1 rows)=>(match Dp rows with
    |some nm=>(match Nat.blt nm.length 1000 with
     |true=>some (qk nm)
     |false=>none)
    |none=>none)
   |_=>none)
  |_=>none)
 |false=>Zu k az
theorem O3(k:Nat)(az:List D)(xs:List (List D))(h:TR k az=some xs):IT k az xs:=by
 unfold TR at h;split at h
 .rename_i e
  cases Nat.eq_of_beq_eq_true e;split at h
  .split at h
   .rename_i h1
    split at h
    .rename_i h2
     split at h
     .rename_i h3
      cases h;have h4:=Yu MR h1;rw[w8 h2]at h4;exact Yt _ h4 (cX h3)
     cases h
    cases h
   cases h
  cases h
 exact MR k az xs h
noncomputable def L:=M TR
theorem Dl{k:Nat}{az:List D}{d:D}(h:L.cal k az=some d):DN k az d:=Yu O3 h
end Go.Proofs.Ball.R12
