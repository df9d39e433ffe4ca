/- What ballasted_holds leans on, part TB. No condition. -/
import Derived.Laws.RangeAny
import Derived.Laws.Strings
import Derived.Test.YthglcafppddedaaGreatDoorPackTA
import Derived.Test.YthglcafppddedaaGreatDoorPackUJ

set_option linter.all false
set_option maxHeartbeats 8000000
set_option maxRecDepth 20000
namespace Go.Proofs.Ball
open Go.V Go.Proofs
def je(c:Int):Bool:=decide (c>=97)&&decide (c<=122)
def E2(c:Int):Bool:=decide (c>=48)&&decide (c<=57)
def jr(i:Nat)(c:Int):Bool:=je c||(E2 c&&!(i==0))
def b8(s:ByteArray):Nat->Nat->Bool
 |0,_=>true
 |f+1,i=>match s[i]? with|some c=>jr i c.toNat&&b8 s f (i+1)|none=>true
def dH(s:ByteArray):Bool:=b8 s s.size 0&&(decide (1<=s.size)&&decide (s.size<=16))
theorem Ic(s:ByteArray)(pos c wd:Nat)(h:pos<s.size)(hd:Utf8.decode s pos=(c,wd)):∃b:UInt8,s[pos]?=some b/\((c=b.toNat/\wd=1)\/(128<=c/\128<=b.toNat)):=by
 refine⟨s[pos]'h,by simp[h],?_⟩;by_cases ha:(s[pos]'h).toNat<128
 .rw[decode_ascii s pos h ha]at hd
  cases hd;exact .inl ⟨rfl,rfl⟩
 have:=decode_high s pos h (by omega);rw[hd]at this;exact .inr ⟨this.1,by omega⟩
theorem wD(i:Nat)(c:Int)(h:128<=c):jr i c=false:=by
 have h1:¬c<=122:=by omega
 have h2:¬c<=57:=by omega
 simp[jr,je,E2,h1,h2]
theorem Ie(s:ByteArray):(s.toList==(⟨#[]⟩:ByteArray).toList)=decide (s.size=0):=by
 have h1:(⟨#[]⟩:ByteArray).toList=[]:=by rw[ByteArray.toList_eq]
 have h2:s.toList=s.data.toList:=ByteArray.toList_eq s;rw[h1,h2];obtain⟨⟨l⟩⟩:=s;cases l with
 |nil=>rfl
 |cons a l=>simp[ByteArray.size]
theorem GB(s:ByteArray):DN 44 [.str s] (.bool (dH s)):=by
 refine mk Tryz.func44 Tryz.call44 rfl rfl ?_;refine⟨[0,8],1,[],λU=>∃(pos f:Nat),pos<=s.size/\s.size=pos+f/\b8 s s.size 0=b8 s f pos/\U=⟨[(0,.str s),(8,.iY 0)],[.aA false s pos],.aQ⟩,
  λU=>s.size-(match U.boxes with|[.aA _ _ p]=>p|_=>0),rfl,⟨rfl,rfl⟩,⟨0,s.size,Nat.zero_le _,(Nat.zero_add _).symm,rfl,rfl⟩,?_⟩
 rintro U⟨pos,f,hp,hf,hn,rfl⟩;refine⟨λh=>?_,λh=>?_⟩
 .obtain⟨c,wd,hd⟩:∃c wd,Utf8.decode s pos=(c,wd):=⟨_,_,rfl⟩
  obtain⟨b,hb,hcb⟩:=Ic s pos c wd h hd;refine⟨c,wd,hd,?_⟩;obtain⟨g,rfl⟩:∃g,f=g+1:=⟨f-1,by omega⟩;have xe:b8 s s.size 0=(jr pos b.toNat&&b8 s g (pos+1)):=by rw[hn,b8,hb]
  have bad:jr pos c=false->dH s=false:=λhc=>by
   have:jr pos b.toNat=false:=by
    rcases hcb with⟨h1,_⟩|⟨_,h1⟩
    .rw[<-h1];exact hc
    exact wD _ _ (by omega)
   unfold dH;rw[xe,this];rfl
  have qu:jr pos c=true->(b8 s s.size 0=b8 s g (pos+1))/\wd=1:=λhc=>by
   rcases hcb with⟨h1,h2⟩|⟨h1,_⟩
   .rw[xe,<-h1,hc];exact⟨rfl,h2⟩
   rw[wD _ _ (by omega)]at hc;cases hc
  have go:(b8 s s.size 0=b8 s g (pos+1))/\wd=1->(∃(pos' f:Nat),pos'<=s.size/\s.size=pos'+f/\b8 s s.size 0=b8 s f pos'/\(⟨[(0,.str s),(8,.iY 0)],[.aA false s (pos+wd)],.aQ⟩:St)=⟨[(0,.str s),(8,.iY 0)],[.aA false s pos'],.aQ⟩)/\s.size-(pos+wd)<s.size-pos:=by
   rintro⟨h1,rfl⟩;exact⟨⟨pos+1,g,by omega,by omega,h1,rfl⟩,by omega⟩
  have dZ:dH s=false->some (D.bool false)=some (D.bool (dH s)):=λh=>by rw[h]
  have e0:(((pos:Int))==0)=(pos==0):=by
   cases pos<;>simp<;>omega
  have neg:∀{x:Bool},(!x)=true->x=false:=λ{x} h=>by cases x<;>trivial
  have An:∀{x:Bool},(!x)=false->x=true:=λ{x} h=>by cases x<;>trivial
  have oe:∀x1 x2 x3 x4 x5:Bool,decide ((c:Int)>=97)=x1->decide ((c:Int)<=122)=x2->decide ((c:Int)>=48)=x3->decide ((c:Int)<=57)=x4->(((pos:Int))==0)=x5->jr pos c=((x1&&x2)||((x3&&x4)&&!x5)):=by
   rintro _ _ _ _ _ rfl rfl rfl rfl rfl;rw[e0];rfl
  refine⟨λh1=>?_,λh1=>?_⟩
  .refine⟨λh2=>?_,λh2=>?_⟩
   .refine⟨λh3=>?_,λh3=>?_⟩
    .refine⟨λh4=>?_,λh4=>?_⟩
     .exact dZ (bad (by rw[oe _ _ _ _ _ h1 (neg h3) h2 (neg h4) rfl];rfl))
     refine⟨λh5=>?_,λh5=>?_⟩
     .exact dZ (bad (by rw[oe _ _ _ _ _ h1 (neg h3) h2 (An h4) h5];rfl))
     exact⟨⟨rfl,rfl⟩,go (qu (by rw[oe _ _ _ _ _ h1 (neg h3) h2 (An h4) h5];rfl))⟩
    exact⟨⟨rfl,rfl⟩,go (qu (by rw[oe _ _ _ _ _ h1 (An h3) h2 rfl rfl];rfl))⟩
   have h1:=of_decide_eq_true h1;have h2:=of_decide_eq_false h2;omega
  refine⟨λh2=>?_,λh2=>?_⟩
  .refine⟨λh4=>?_,λh4=>?_⟩
   .exact dZ (bad (by rw[oe _ _ _ _ _ h1 rfl h2 (neg h4) rfl];rfl))
   refine⟨λh5=>?_,λh5=>?_⟩
   .exact dZ (bad (by rw[oe _ _ _ _ _ h1 rfl h2 (An h4) h5];rfl))
   exact⟨⟨rfl,rfl⟩,go (qu (by rw[oe _ _ _ _ _ h1 rfl h2 (An h4) h5];rfl))⟩
  exact dZ (bad (by rw[oe _ _ _ _ _ h1 rfl h2 rfl rfl];rfl))
 have Up:f=0:=by omega
 subst Up;have hn:b8 s s.size 0=true:=hn;have e1:(s.toList==(⟨#[]⟩:ByteArray).toList)=decide (s.size=0):=Ie s;refine⟨by omega,λh1=>?_,λh1=>?_⟩
 .show some (D.bool (decide ((s.size:Int)<=16)))=some (D.bool _)
  have h1:(!(s.toList==(⟨#[]⟩:ByteArray).toList))=true:=h1;rw[e1]at h1;have h2:decide (1<=s.size)=true:=by
   apply decide_eq_true;have:¬s.size=0:=by simpa using h1
   omega
  have h3:decide ((s.size:Int)<=16)=decide (s.size<=16):=by
   apply decide_eq_decide.2;omega
  rw[dH,hn,h2,h3];rfl
 show some (D.bool false)=some (D.bool _);have h1:(!(s.toList==(⟨#[]⟩:ByteArray).toList))=false:=h1;rw[e1]at h1;have h2:decide (1<=s.size)=false:=by
  apply decide_eq_false;have:s.size=0:=by simpa using h1
  omega
 rw[dH,hn,h2];rfl
def qg(n lo hi:Int):Bool:=decide (n>=lo)&&decide (n<=hi)
theorem sw(n lo hi:Int):DN 102 [.int .i64 n,.int .i64 lo,.int .i64 hi] (.bool (qg n lo hi)):=by
 refine mk Tryz.func102 Tryz.call102 rfl rfl ?_;refine⟨λh=>?_,λh=>?_⟩
 .show some (D.bool _)=some (D.bool _)
  simp[qg,h]
 show some (D.bool _)=some (D.bool _);simp[qg,h]
def bW(a b:ByteArray):Bool:=a.toList==b.toList
theorem E3(s:ByteArray):DN 188 [.str s] (.bool (dH s)):=by
 refine mk Tryz.func188 Tryz.call188 rfl rfl ?_;have Ao:dH s=false->some (D.bool false)=some (D.bool (dH s)):=λh=>by rw[h]
 refine⟨_,rfl,_,sw s.size 1 16,?_⟩;refine⟨λh1=>?_,λh1=>?_⟩
 .have h1:(!(qg s.size 1 16))=true:=h1
  refine Ao ?_;have:(decide (1<=s.size)&&decide (s.size<=16))=false:=by
   simp[qg]at h1⊢;omega
  rw[dH,this,Bool.and_false]
 have h1:(!(qg s.size 1 16))=false:=h1;have dQ:1<=s.size/\s.size<=16:=by simp[qg]at h1;omega
 obtain⟨n,hn⟩:∃n,s.size=n+1:=⟨s.size-1,by omega⟩;have Ku:(decide (1<=s.size)&&decide (s.size<=16))=true:=by simp;omega
 have LC:dH s=b8 s s.size 0:=by rw[dH,Ku,Bool.and_true]
 have hb:s[0]?=some (s[0]'(by omega)):=by simp
 obtain⟨b,eW⟩:∃b,s[0]'(by omega)=b:=⟨_,rfl⟩;rw[eW]at hb;have Sg:b8 s s.size 0=(jr 0 b.toNat&&b8 s n 1):=by rw[hn,b8,hb]
 have hC0:jr 0 b.toNat=je b.toNat:=by simp[jr]
 refine⟨by decide,b,hb,?_⟩;refine⟨λh2=>?_,λh2=>?_⟩
 .have h2:(b.toNat:Int)<97:=of_decide_eq_true h2
  refine Ao ?_;have:je b.toNat=false:=by simp[je];omega
  rw[LC,Sg,hC0,this];rfl
 have h2:¬(b.toNat:Int)<97:=of_decide_eq_false h2;refine⟨by decide,b,hb,?_⟩;refine⟨λh3=>?_,λh3=>?_⟩
 .have h3:(b.toNat:Int)>122:=of_decide_eq_true h3
  refine Ao ?_;have:je b.toNat=false:=by simp[je];omega
  rw[LC,Sg,hC0,this];rfl
 have h3:¬(b.toNat:Int)>122:=of_decide_eq_false h3;have DS:je b.toNat=true:=by simp[je];omega
 have cH:dH s=b8 s n 1:=by rw[LC,Sg,hC0,DS];rfl
 refine⟨[0,3],0,[],λU=>∃i f:Nat,1<=i/\i+f=s.size/\dH s=b8 s f i/\U=⟨[(0,.str s),(3,.int .i64 i)],[],.aQ⟩,λU=>(1000-aZ 3 U).toNat,rfl,⟨rfl,rfl⟩,⟨1,n,Nat.le_refl _,by omega,cH,rfl⟩,?_⟩;rintro U⟨i,f,hi,hif,D4,rfl⟩;refine⟨λh4=>?_,λh4=>?_⟩
 .have h4:(i:Int)<s.size:=of_decide_eq_true h4
  have bC:i<s.size:=by omega
  obtain⟨f,rfl⟩:∃f',f=f'+1:=⟨f-1,by omega⟩;obtain⟨c,hc⟩:∃c,s[i]'bC=c:=⟨_,rfl⟩;have hg:s[((i:Int)).toNat]?=some c:=by rw[Int.toNat_natCast,<-hc];simp[bC]
  have hgi:s[i]?=some c:=hg;rw[b8,hgi]at D4;have D4:dH s=(jr i c.toNat&&b8 s f (i+1)):=D4;have hCi:jr i c.toNat=(je c.toNat||E2 c.toNat):=by
   have:(i==0)=false:=by simp;omega
   simp[jr,this]
  have bad:jr i c.toNat=false->some (D.bool false)=some (D.bool (dH s)):=λh=>Ao (by rw[D4,h];rfl);have qu:jr i c.toNat=true->(∃i' f':Nat,1<=i'/\i'+f'=s.size/\dH s=b8 s f' i'/\(⟨[(0,.str s),(3,.int .i64 ((i:Int)+1))],[],.aQ⟩:St)=⟨[(0,.str s),(3,.int .i64 i')],[],.aQ⟩)/\(1000-((i:Int)+1)).toNat<(1000-(i:Int)).toNat:=λh=>
   ⟨⟨i+1,f,by omega,by omega,by rw[D4,h];rfl,rfl⟩,by omega⟩
  have neg:∀{x:Bool},(!x)=true->x=false:=λ{x} h=>by cases x<;>trivial
  have An:∀{x:Bool},(!x)=false->x=true:=λ{x} h=>by cases x<;>trivial
  have cs:∀x1 x2 x3 x4:Bool,decide ((c.toNat:Int)>=97)=x1->decide ((c.toNat:Int)<=122)=x2->decide ((c.toNat:Int)>=48)=x3->decide ((c.toNat:Int)<=57)=x4->jr i c.toNat=((x1&&x2)||(x3&&x4)):=by
   rintro _ _ _ _ rfl rfl rfl rfl;rw[hCi];rfl
  refine Or.inl ⟨by kernel_rfl,?_⟩;refine⟨by omega,c,hg,?_⟩;refine⟨λg1=>?_,λg1=>?_⟩
  .refine⟨by omega,c,hg,?_⟩
   refine⟨by omega,c,hg,?_⟩;refine⟨λg3=>?_,λg3=>?_⟩
   .refine⟨by omega,c,hg,?_⟩
    refine⟨λg2=>?_,λg2=>?_⟩
    .refine⟨λg4=>?_,λg4=>?_⟩
     .exact bad (by rw[cs _ _ _ _ g1 (neg g2) g3 (neg g4)];rfl)
     refine⟨_,wrap64 (by omega) (by omega),?_⟩;exact⟨⟨rfl,rfl⟩,qu (by rw[cs _ _ _ _ g1 (neg g2) g3 (An g4)];rfl)⟩
    refine⟨_,wrap64 (by omega) (by omega),?_⟩;exact⟨⟨rfl,rfl⟩,qu (by rw[cs _ _ _ _ g1 (An g2) g3 rfl];rfl)⟩
   have g1:=of_decide_eq_true g1;have g3:=of_decide_eq_false g3;omega
  refine⟨by omega,c,hg,?_⟩;refine⟨λg3=>?_,λg3=>?_⟩
  .refine⟨by omega,c,hg,?_⟩
   refine⟨λg4=>?_,λg4=>?_⟩
   .exact bad (by rw[cs _ _ _ _ g1 rfl g3 (neg g4)];rfl)
   refine⟨_,wrap64 (by omega) (by omega),?_⟩;exact⟨⟨rfl,rfl⟩,qu (by rw[cs _ _ _ _ g1 rfl g3 (An g4)];rfl)⟩
  exact bad (by rw[cs _ _ _ _ g1 rfl g3 rfl];rfl)
 have h4:¬(i:Int)<s.size:=of_decide_eq_false h4;have Up:f=0:=by omega
 subst Up;show some (D.bool true)=some (D.bool (dH s));rw[D4];rfl
theorem LD(l:List ByteArray)(s:ByteArray)(hl:l.length<9223372036854775808):DN 191 [.list 1 (l.map eM),.str s] (.int .i64 (aY (λx=>bW x s) l 0)):=by
 refine mk Tryz.func191 Tryz.call191 rfl rfl ?_;refine⟨[0,1,5],0,[],λU=>∃i:Nat,i<=l.length/\aY (λx=>bW x s) l 0=aY (λx=>bW x s) (l.drop i) i/\U=⟨[(0,.list 1 (l.map eM)),(1,.str s),(5,.int .i64 i)],[],.aQ⟩,λU=>((l.length:Int)-aZ 5 U).toNat,rfl,⟨rfl,rfl⟩,⟨0,Nat.zero_le _,rfl,rfl⟩,?_⟩;rintro U⟨i,hi,hf,rfl⟩;refine⟨λh1=>?_,λh1=>?_⟩
 .have h1:=of_decide_eq_true h1
  rw[List.length_map]at h1;have bC:i<l.length:=by omega
  have aI:(l.map eM)[((i:Int)).toNat]?=some (eM l[i]):=by simp[bC]
  have ea:l.drop i=l[i]::l.drop (i+1):=List.drop_eq_getElem_cons bC;refine⟨by omega,_,aI,?_⟩;refine⟨λh2=>?_,λh2=>?_⟩
  .have h2:bW l[i] s=true:=h2
   show some (D.int .i64 (i:Int))=some (D.int .i64 (aY (λx=>bW x s) l 0));rw[hf,ea,aY,h2]
  have h2:bW l[i] s=false:=h2;refine⟨_,wrap64 (by omega) (by omega),?_⟩;refine⟨⟨rfl,rfl⟩,⟨i+1,bC,?_,rfl⟩,?_⟩
  .rw[hf,ea,aY,h2];rfl
  show((l.length:Int)-((i:Int)+1)).toNat<((l.length:Int)-(i:Int)).toNat;omega
 have h1:=of_decide_eq_false h1;rw[List.length_map]at h1;show some (D.int .i64 (-1))=some (D.int .i64 (aY (λx=>bW x s) l 0));rw[hf,List.drop_of_length_le (by omega)];rfl
def fH(l:List ByteArray)(s:ByteArray):Int:=match dH s with|false=>6|true=>match l.any λx=>bW x s with|true=>5|false=>0
theorem LF(l:List ByteArray)(s:ByteArray)(hl:l.length<9223372036854775808):DN 106 [.str s,.list 1 (l.map eM)] (.int .i64 (fH l s)):=by
 refine mk Tryz.func106 Tryz.call106 rfl rfl ?_;have E4:=eP (λx=>bW x s) l 0 (Int.le_refl 0);refine⟨_,rfl,_,E3 s,?_⟩;refine⟨λh1=>?_,λh1=>?_⟩
 .have h1:dH s=false:=by simpa using h1
  show some (D.int .i64 6)=some (D.int .i64 (fH l s));rw[fH,h1]
 have h1:dH s=true:=by simpa using h1
 refine⟨_,rfl,_,LD l s hl,?_⟩;refine⟨λh2=>?_,λh2=>?_⟩
 .have h2:(l.any λx=>bW x s)=true:=E4.symm.trans h2
  show some (D.int .i64 5)=some (D.int .i64 (fH l s));rw[fH,h1,h2]
 have h2:(l.any λx=>bW x s)=false:=E4.symm.trans h2;show some (D.int .i64 0)=some (D.int .i64 (fH l s));rw[fH,h1,h2]
theorem sx{l:List ByteArray}{s:ByteArray}(h:fH l s=0):dH s=true/\(l.any λx=>bW x s)=false:=by
 unfold fH at h;cases hn:dH s with
 |false=>rw[hn]at h;cases h
 |true=>
  rw[hn]at h;cases hs:l.any λx=>bW x s with
  |false=>exact⟨rfl,rfl⟩
  |true=>rw[hs]at h;cases h
theorem E5(a b:ByteArray):bW a b=bW b a:=by
 unfold bW;exact Bool.eq_iff_iff.2 ⟨λh=>by simpa using(eq_of_beq h).symm,λh=>by simpa using(eq_of_beq h).symm⟩
theorem nt{p:Prop}(h:false=true):p:=by cases h
theorem tn{p:Prop}(h:true=false):p:=by cases h
theorem WW{lo hi a:Int}(h0:lo<=a)(h1:a<=hi):[a].any (kR lo hi)=false:=by simp[Am h0 h1]
theorem WX{lo hi a b:Int}(h0:lo<=a)(h1:a<=hi)(h2:lo<=b)(h3:b<=hi):[a,b].any (kR lo hi)=false:=by simp[Am h0 h1,Am h2 h3]
theorem Oq{lo hi a:Int}(h0:lo<=a)(h1:a<=hi):DN 18 [.int .i64 lo,.int .i64 hi,.list 1 [[.int .i64 a]]] (.bool false):=by
 have:=LA lo hi [a] (by simp);rw[WW h0 h1]at this;exact this
theorem GC{lo hi a b:Int}(h0:lo<=a)(h1:a<=hi)(h2:lo<=b)(h3:b<=hi):DN 18 [.int .i64 lo,.int .i64 hi,.list 1 [[.int .i64 a],[.int .i64 b]]] (.bool false):=by
 have:=LA lo hi [a,b] (by simp);rw[WX h0 h1 h2 h3]at this;exact this
structure Pt.Ok(x:Pt):Prop where
 a0:0<=x.pos
 a1:x.pos<=5000
 k0:0<=x.jE
 k1:x.jE<=1000
 w0:0<=x.tI
 w:x.tI<=x.uH
 w1:x.uH<=1000000
 l0:0<=x.Cu
 l:x.Cu<=x.Al
 l1:x.Al<=5000
theorem WY(x:Pt)(h:x.Ok):DN 86 [.agg x.enc] (.int .i64 0):=by
 have h1:=h.w;have h2:=h.l;have h3:=h.w0;have h4:=h.w1;have h5:=h.l0;have h6:=h.l1;refine mk Tryz.func86 Tryz.call86 rfl rfl ?_;refine⟨_,rfl,_,Oq h.a0 h.a1,?_⟩;refine⟨nt,λ_=>?_⟩;refine⟨_,rfl,_,Oq h.k0 h.k1,?_⟩;refine⟨nt,λ_=>?_⟩;refine⟨_,rfl,_,GC (by omega) (by omega) (by omega) (by omega),?_⟩;refine⟨nt,λ_=>?_⟩;refine⟨_,rfl,_,GC (by omega) (by omega) (by omega) (by omega),?_⟩;refine⟨nt,λ_=>?_⟩;refine⟨λh7=>absurd (of_decide_eq_true h7) (by omega),λ_=>?_⟩;refine⟨λh7=>absurd (of_decide_eq_true h7) (by omega),λ_=>?_⟩;rfl
theorem WZ(y x:Pt):DN 85 [.agg y.enc,.ro x.enc] (.bool (bW y.name x.name)):=by
 refine mk Tryz.func85 Tryz.call85 rfl rfl ?_;rfl
structure Hull where
 parts:List Pt
 mA:Int
 fv:Int
def Hull.enc(h:Hull):List D:=[.list 7 (h.parts.map Pt.enc),.int .i64 h.mA,.int .i64 h.fv]
structure Hull.Ok(h:Hull):Prop where
 n1:1<=h.parts.length
 uJ:h.parts.length<=10
 Sh:0<=h.mA
 lt:h.mA<h.fv
 LG:h.fv<=5000
 part:∀x∈h.parts,x.Ok
 name:∀x∈h.parts,dH x.name=true
 diff:h.parts.Pairwise λa b=>bW a.name b.name=false
theorem Ig{α:Type}{R:α->α->Prop}{l:List α}(h:l.Pairwise R){i:Nat}{x:α}(hx:l[i]?=some x):∀y∈l.take i,R y x:=by
 intro y hy;obtain⟨j,hj,rfl⟩:=List.getElem_of_mem hy;rw[List.length_take]at hj;obtain⟨hi,rfl⟩:=List.getElem?_eq_some_iff.1 hx;rw[List.getElem_take];exact List.pairwise_iff_getElem.1 h j i (by omega) hi (by omega)
theorem Ih{α:Type}(f:α->ByteArray){l:List α}(h:l.Pairwise λa b=>bW (f a) (f b)=false){i:Nat}{x:α}(hx:l[i]?=some x):((l.take i).any λy=>bW (f y) (f x))=false:=by
 rw[List.any_eq_false];intro y hy;rw[Ig h hx y hy];decide
def nj(a b e:Int):D:=.b9 [.int .i64 a,.int .i64 b,.int .i64 e]
theorem LI(h:Hull)(ho:h.Ok):DN 17 [.agg h.enc] (nj 0 0 0):=by
 have hlen:=bD Pt.enc h.parts;have n1:=ho.n1;have uJ:=ho.uJ;have h1:=ho.Sh;have h2:=ho.lt;have h3:=ho.LG;refine mk Tryz.func17 Tryz.call17 rfl rfl ?_;refine⟨_,rfl,_,Oq (by rw[hlen];omega) (by rw[hlen];omega),?_⟩;refine⟨nt,λ_=>?_⟩;refine⟨_,rfl,_,GC (by omega) (by omega) (by omega) (by omega),?_⟩;refine⟨nt,λ_=>?_⟩;refine⟨λh4=>absurd (of_decide_eq_true h4) (by omega),λ_=>?_⟩;refine⟨[1,27,28,29],1,[],λU=>∃i:Nat,i<=h.parts.length/\U=⟨[(1,.loc 0 0),(27,.list 7 (h.parts.map Pt.enc)),(28,.int .i64 (h.parts.map Pt.enc).length),(29,.int .i64 i)],[.flat false h.enc],.aQ⟩,
  λU=>(1000-aZ 29 U).toNat,rfl,⟨rfl,rfl⟩,⟨0,Nat.zero_le _,rfl⟩,?_⟩
 rintro U⟨i,hi,rfl⟩;refine⟨λh4=>?_,λ_=>rfl⟩;have h4:=of_decide_eq_true h4;rw[hlen]at h4;have bC:i<h.parts.length:=by omega
 obtain⟨x,hx⟩:∃x,h.parts[i]?=some x:=⟨_,List.getElem?_eq_getElem bC⟩;have hm:=List.mem_of_getElem? hx;have P4:=GB x.name;rw[ho.name x hm]at P4;have h84:=WS (k:=85) (cap:=[.ro x.enc]) ⟨λ_=>rfl,λ_=>rfl,λ_=>rfl⟩ (λy=>bW y.name x.name) (h.parts.take i) (by rw[List.length_take];omega) (λy _=>WZ y x);rw[Ih (·.name) ho.diff hx]at h84;refine⟨by omega,_,aV hx,?_⟩;refine⟨_,rfl,_,P4,?_⟩;refine⟨nt,λ_=>?_⟩;refine⟨⟨by omega,by rw[hlen];omega⟩,_,(List.map_take ..).symm,?_⟩;refine⟨_,rfl,_,h84,?_⟩;refine⟨nt,λ_=>?_⟩;refine⟨_,rfl,_,WY x (ho.part x hm),?_⟩;refine⟨nt,λ_=>?_⟩;refine⟨(i:Int)+1,wrap64 (by omega) (by omega),?_⟩;refine⟨⟨rfl,rfl⟩,⟨i+1,bC,rfl⟩,?_⟩;show(1000-((i:Int)+1)).toNat<(1000-(i:Int)).toNat;omega
theorem P5(lo hi:Int)(h0:0<=lo)(h1:lo<=hi)(h2:hi<=1000):DN 19 [.agg [.int .i64 lo,.int .i64 hi]] (.int .i64 0):=by
 refine mk Tryz.func19 Tryz.call19 rfl rfl ?_;refine⟨_,rfl,_,GC (by omega) (by omega) (by omega) (by omega),?_⟩;refine⟨nt,λ_=>?_⟩;refine⟨λh4=>absurd (of_decide_eq_true h4) (by omega),λ_=>?_⟩;rfl
def arm(h:Hull):Nat->Pt->Int
 |0,_=>1
 |1,x=>x.pos-h.mA
 |_,x=>h.fv-x.pos
def aaV:Nat->FuncId
 |0=>92
 |1=>93
 |_=>94
def aaW(h:Hull):Nat->List D
 |0=>[]
 |_=>[.ro h.enc]
def jH(x:Pt)(w:Int):Int:=max 0 (w-x.jE)
def pF(x:Pt)(w:Int):Int:=x.tI-x.Al*jH x w
def tJ(x:Pt)(w:Int):Int:=x.uH-x.Cu*jH x w
def term(h:Hull)(i:Nat)(w:Int)(x:Pt):Int:=arm h i x*(if arm h i x<0 then tJ x w else pF x w)
def jU(h:Hull)(i:Nat)(w:Int):List Pt->Int
 |[]=>0
 |x::r=>term h i w x+jU h i w r
def least(h:Hull)(i:Nat)(w:Int):Int:=jU h i w h.parts
theorem Ap{a b A B:Int}(h0:-A<=a)(h1:a<=A)(h2:-B<=b)(h3:b<=B):-(A*B)<=a*b/\a*b<=A*B:=by
 have ha:a.natAbs<=A.toNat:=by omega
 have hb:b.natAbs<=B.toNat:=by omega
 have h:=Nat.mul_le_mul ha hb;rw[<-Int.natAbs_mul]at h;have e:((A.toNat*B.toNat:Nat):Int)=A*B:=by
  rw[Int.natCast_mul,Int.toNat_of_nonneg (by omega),Int.toNat_of_nonneg (by omega)]
 omega
theorem Cw{x:Pt}{w:Int}(hx:x.Ok)(h0:0<=w)(h1:w<=1000):0<=jH x w/\jH x w<=1000:=by
 have:=hx.k0;unfold jH;omega
theorem yn{x:Pt}{w:Int}(hx:x.Ok)(h0:0<=w)(h1:w<=1000):(-5000000<=x.Al*jH x w/\x.Al*jH x w<=5000000)/\-6000000<=pF x w/\pF x w<=6000000:=by
 have ho:=Cw hx h0 h1;have:=hx.l0;have:=hx.l;have:=hx.l1;have:=hx.w0;have:=hx.w;have:=hx.w1
 have h:=Ap (a:=x.Al) (b:=jH x w) (A:=5000) (B:=1000) (by omega) (by omega) (by omega) (by omega);unfold pF;omega
theorem yo{x:Pt}{w:Int}(hx:x.Ok)(h0:0<=w)(h1:w<=1000):(-5000000<=x.Cu*jH x w/\x.Cu*jH x w<=5000000)/\-6000000<=tJ x w/\tJ x w<=6000000:=by
 have ho:=Cw hx h0 h1;have:=hx.l0;have:=hx.l;have:=hx.l1;have:=hx.w0;have:=hx.w;have:=hx.w1
 have h:=Ap (a:=x.Cu) (b:=jH x w) (A:=5000) (B:=1000) (by omega) (by omega) (by omega) (by omega);unfold tJ;omega
theorem uK{h:Hull}(ho:h.Ok){x:Pt}(hx:x.Ok)(i:Nat):-5000<=arm h i x/\arm h i x<=5000:=by
 have:=ho.Sh;have:=ho.lt;have:=ho.LG;have:=hx.a0;have:=hx.a1
 match i with
 |0=>show-5000<=(1:Int)/\(1:Int)<=5000;omega
 |1=>show-5000<=x.pos-h.mA/\x.pos-h.mA<=5000;omega
 |i+2=>show-5000<=h.fv-x.pos/\h.fv-x.pos<=5000;omega
theorem Cy{h:Hull}(ho:h.Ok){x:Pt}(hx:x.Ok)(i:Nat){w:Int}(h0:0<=w)(h1:w<=1000):-30000000000<=term h i w x/\term h i w x<=30000000000:=by
 have ha:=uK ho hx i;have hl:=yn hx h0 h1;have hh:=yo hx h0 h1;have:=Ap (a:=arm h i x) (b:=if arm h i x<0 then tJ x w else pF x w) (A:=5000) (B:=6000000) (by omega) (by omega) (by split<;>omega) (by split<;>omega);unfold term;omega
theorem Cz{h:Hull}(ho:h.Ok)(i:Nat){w:Int}(h0:0<=w)(h1:w<=1000):∀l:List Pt,(∀x∈l,x.Ok)->-(30000000000*l.length)<=jU h i w l/\jU h i w l<=30000000000*l.length
 |[],_=>by simp[jU]
 |x::r,hl=>by
  have h2:=Cz ho i h0 h1 r λy hy=>hl y (by simp[hy]);have h3:=Cy ho (hl x (by simp)) i h0 h1;simp only[jU,List.length_cons];omega
theorem sy{h:Hull}{i:Nat}{w:Int}:∀{l:List Pt}{k:Nat}{x:Pt},l[k]?=some x->jU h i w (l.take (k+1))=jU h i w (l.take k)+term h i w x
 |[],_,_,h=>by simp at h
 |y::r,0,x,h=>by simp at h;subst h;simp[jU]
 |y::r,k+1,x,h=>by
  have h2:=sy (h:=‹Hull›) (i:=i) (w:=w) (l:=r) (k:=k) (x:=x) (by simpa using h);simp only[List.take_succ_cons,jU,h2];omega
theorem W0(x:Pt):DN 92 [.agg x.enc] (.int .i64 1):=by
 refine dX Tryz.func92 Tryz.call92 rfl rfl ?_;rfl
theorem W1(h:Hull)(x:Pt)(ho:h.Ok)(hx:x.Ok):DN 93 [.agg x.enc,.ro h.enc] (.int .i64 (x.pos-h.mA)):=by
 have hb:-5000<=x.pos-h.mA/\x.pos-h.mA<=5000:=uK ho hx 1;refine dX Tryz.func93 Tryz.call93 rfl rfl ?_;exact⟨_,wrap64 (by omega) (by omega),rfl⟩
theorem W2(h:Hull)(x:Pt)(ho:h.Ok)(hx:x.Ok):DN 94 [.agg x.enc,.ro h.enc] (.int .i64 (h.fv-x.pos)):=by
 have hb:-5000<=h.fv-x.pos/\h.fv-x.pos<=5000:=uK ho hx 2;refine dX Tryz.func94 Tryz.call94 rfl rfl ?_;exact⟨_,wrap64 (by omega) (by omega),rfl⟩
def Ld(x:Pt)(w:Int):List D:=x.enc++[.int .i64 (jH x w)]
theorem W3(x:Pt)(w:Int)(hx:x.Ok)(h0:0<=w)(h1:w<=1000):DN 95 [.agg (Ld x w)] (.int .i64 (pF x w)):=by
 have hb:=yn hx h0 h1;unfold pF at hb;refine dX Tryz.func95 Tryz.call95 rfl rfl ?_;exact⟨x.Al*jH x w,wrap64 (by omega) (by omega),pF x w,wrap64 (by omega) (by omega),rfl⟩
theorem W4(x:Pt)(w:Int)(hx:x.Ok)(h0:0<=w)(h1:w<=1000):DN 96 [.agg (Ld x w)] (.int .i64 (tJ x w)):=by
 have hb:=yo hx h0 h1;unfold tJ at hb;refine dX Tryz.func96 Tryz.call96 rfl rfl ?_;exact⟨x.Cu*jH x w,wrap64 (by omega) (by omega),tJ x w,wrap64 (by omega) (by omega),rfl⟩
def bR(k:FuncId):D:=.bR (.func k) [] []
def Ot(h:Hull):List D:=[bR 92,bR 95,bR 96,.bR (.func 93) [] [.ro h.enc],bR 95,bR 96,.bR (.func 94) [] [.ro h.enc],bR 95,bR 96]
def W5(i:Nat):List D:=match i with
 |0=>[.a7,.a7,.a7,.a7,.a7,.a7,.a7,.a7,.a7]
 |1=>[bR 92,bR 95,bR 96,.a7,.a7,.a7,.a7,.a7,.a7]
 |2=>[bR 92,bR 95,bR 96,.bR (.func 93) [] [.loc 0 0],bR 95,bR 96,.a7,.a7,.a7]
 |_=>[bR 92,bR 95,bR 96,.bR (.func 93) [] [.loc 0 0],bR 95,bR 96,.bR (.func 94) [] [.loc 0 0],bR 95,bR 96]
theorem P6(h:Hull):DN 22 [.agg h.enc] (.agg (Ot h)):=by
 refine dX Tryz.func22 Tryz.call22 rfl rfl ?_;refine⟨[2,4,10,11],4,[],λU=>∃i:Nat,i<=3/\U=⟨[(2,.loc 1 0),(4,.loc 3 0),(10,.agg [bR 92,.bR (.func 93) [] [.loc 0 0],.bR (.func 94) [] [.loc 0 0]]),(11,.int .i64 i)],[.flat false h.enc,.flat false (W5 0),.flat false [bR 92,.bR (.func 93) [] [.loc 0 0],.bR (.func 94) [] [.loc 0 0]],.flat false (W5 i)],.aQ⟩,
  λU=>(1000-aZ 11 U).toNat,rfl,⟨rfl,rfl⟩,⟨0,by decide,rfl⟩,?_⟩
 rintro U⟨i,hi,rfl⟩;have step:∀j:Nat,j<3->((j:Int)+1=((j+1:Nat):Int))/\(1000-((j:Int)+1)).toNat<(1000-(j:Int)).toNat:=λj _=>⟨rfl,by omega⟩;obtain rfl|rfl|rfl|rfl:i=0\/i=1\/i=2\/i=3:=by omega
 rotate_right
 .refine⟨λh=>absurd h (by decide),λ_=>?_⟩
  rfl
 all_goals
  refine⟨λ_=>?_,λh=>absurd h (by decide)⟩;refine⟨⟨by decide,by decide⟩,_,rfl,?_⟩;refine⟨⟨by decide,by decide⟩,_,rfl,?_⟩;refine⟨by decide,_,rfl,?_⟩;refine⟨_,wrap64 (by decide) (by decide),?_⟩
  first
   |exact⟨⟨rfl,rfl⟩,⟨1,by decide,rfl⟩,(step 0 (by decide)).2⟩
   |exact⟨⟨rfl,rfl⟩,⟨2,by decide,rfl⟩,(step 1 (by decide)).2⟩
   |exact⟨⟨rfl,rfl⟩,⟨3,by decide,rfl⟩,(step 2 (by decide)).2⟩
def aaX(h:Hull):Nat->D
 |0=>bR 92
 |1=>.bR (.func 93) [] [.ro h.enc]
 |_=>.bR (.func 94) [] [.ro h.enc]
def sA(h:Hull)(w:Int)(i k j:Nat):Int:=if j<i then least h j w else if j=i then jU h j w (h.parts.take k)else 0
def mS(h:Hull)(w:Int)(i k:Nat):List D:=[.int .i64 (sA h w i k 0),.int .i64 (sA h w i k 1),.int .i64 (sA h w i k 2)]
def E6(h:Hull)(w:Int):List D:=[.int .i64 (least h 0 w),.int .i64 (least h 1 w),.int .i64 (least h 2 w)]
theorem CA{h:Hull}(ho:h.Ok){w:Int}(h0:0<=w)(h1:w<=1000)(i k:Nat):-300000000000<=jU h i w (h.parts.take k)/\jU h i w (h.parts.take k)<=300000000000:=by
 have h2:=Cz ho i h0 h1 (h.parts.take k) λx hx=>ho.part x (List.mem_of_mem_take hx);have h3:(h.parts.take k).length<=10:=by rw[List.length_take];have:=ho.uJ;omega
 omega
theorem yp{h:Hull}(ho:h.Ok){w:Int}(h0:0<=w)(h1:w<=1000)(i:Nat):-300000000000<=least h i w/\least h i w<=300000000000:=by
 have:=CA ho h0 h1 i h.parts.length;rw[List.take_length]at this;exact this
theorem E7{h:Hull}{w:Int}{i:Nat}:mS h w i h.parts.length=mS h w (i+1) 0:=by
 have h1:∀j,sA h w i h.parts.length j=sA h w (i+1) 0 j:=by
  intro j;unfold sA;by_cases h1:j<i
  .rw[if_pos h1,if_pos (by omega)]
  rw[if_neg h1];by_cases h2:j=i
  .rw[if_pos h2,if_pos (by omega),List.take_length];rfl
  rw[if_neg h2,if_neg (by omega)];by_cases h3:j=i+1
  .rw[if_pos h3];rfl
  rw[if_neg h3]
 unfold mS;rw[h1,h1,h1]
theorem Ii{h:Hull}{w:Int}{i k:Nat}(hi:i<3):(mS h w i k)[i]?=some (.int .i64 (jU h i w (h.parts.take k))):=by
 have e:sA h w i k i=jU h i w (h.parts.take k):=by unfold sA;rw[if_neg (by omega),if_pos rfl]
 obtain rfl|rfl|rfl:i=0\/i=1\/i=2:=by omega
 all_goals rw[<-e];rfl
theorem Ij{h:Hull}{w:Int}{i k:Nat}(hi:i<3){x:Pt}(hx:h.parts[k]?=some x):cd (mS h w i k) i [.int .i64 (jU h i w (h.parts.take k)+term h i w x)]=mS h w i (k+1):=by
 rw[<-sy hx];have e:sA h w i (k+1) i=jU h i w (h.parts.take (k+1)):=by unfold sA;rw[if_neg (by omega),if_pos rfl]
 have e2:∀j,j≠i->sA h w i (k+1) j=sA h w i k j:=λj hj=>by unfold sA;rw[if_neg hj,if_neg hj]
 rw[<-e];obtain rfl|rfl|rfl:i=0\/i=1\/i=2:=by omega
 .unfold mS;rw[e2 1 (by decide),e2 2 (by decide)];rfl
 .unfold mS;rw[e2 0 (by decide),e2 2 (by decide)];rfl
 unfold mS;rw[e2 0 (by decide),e2 1 (by decide)];rfl
theorem GD(h:Hull)(ho:h.Ok)(x:Pt)(hx:x.Ok)(i:Nat)(hi:i<3):DN (aaV i) (.agg x.enc::aaW h i) (.int .i64 (arm h i x)):=by
 obtain rfl|rfl|rfl:i=0\/i=1\/i=2:=by omega
 .exact W0 x
 .exact W1 h x ho hx
 exact W2 h x ho hx
def LJ(h:Hull)(w:Int)(i:Nat)(U:St):Prop:=∃k:Nat,k<=h.parts.length/\U=⟨[(1,.int .i64 w),(2,.loc 0 0),(4,.loc 1 0),(5,.int .i64 i),(6,.loc 2 0),(12,.agg (Ot h)),(13,.int .i64 i),(19,.list 7 (h.parts.map Pt.enc)),(20,.int .i64 (h.parts.map Pt.enc).length),(21,.int .i64 k)],[.flat false h.enc,.flat false (mS h w i k),.flat false [aaX h i,bR 95,bR 96]],.aQ⟩
theorem yq(h:Hull)(ho:h.Ok)(w:Int)(h0:0<=w)(h1:w<=1000):DN 21 [.agg h.enc,.int .i64 w] (.agg (E6 h w)):=by
 have hlen:=bD Pt.enc h.parts;have uJ:=ho.uJ;have sa:E6 h w=mS h w 3 0:=rfl;refine dX Tryz.func21 Tryz.call21 rfl rfl ?_;refine⟨_,rfl,_,P6 h,?_⟩;refine⟨[1,2,4,12,13],2,[],λU=>∃i:Nat,i<=3/\U=⟨[(1,.int .i64 w),(2,.loc 0 0),(4,.loc 1 0),(12,.agg (Ot h)),(13,.int .i64 i)],[.flat false h.enc,.flat false (mS h w i 0)],.aQ⟩,
  λU=>(1000-aZ 13 U).toNat,rfl,⟨rfl,rfl⟩,⟨0,by decide,rfl⟩,?_⟩
 rintro U⟨i,hi,rfl⟩;refine⟨λh2=>?_,λh2=>?_⟩
 rotate_left
 .have h2:=of_decide_eq_false h2
  obtain rfl:i=3:=by omega
  rfl
 have h2:=of_decide_eq_true h2;have Uq:i<3:=by omega
 have less:(1000-((i:Int)+1)).toNat<(1000-(i:Int)).toNat:=by omega
 have Si:=λ(x:Pt)(hx:x.Ok)=>GD h ho x hx i Uq;have tb:=λ(x:Pt)(hx:x.Ok)=>Cy ho hx i h0 h1;have sb:=CA ho h0 h1 i;have sg:=λk=>Ii (h:=h) (w:=w) (k:=k) Uq;have ss:=λ{k:Nat}{x:Pt}(hx:h.parts[k]?=some x)=>Ij (w:=w) Uq hx;obtain rfl|rfl|rfl:i=0\/i=1\/i=2:=by omega
 all_goals
  refine⟨⟨by decide,by decide⟩,_,rfl,rfl,?_⟩
  first
   |refine⟨[1,2,4,5,6,12,13,19,20,21],3,[],LJ h w 0,λU=>(1000-aZ 21 U).toNat,rfl,⟨rfl,rfl⟩,⟨0,Nat.zero_le _,rfl⟩,?_⟩
   |refine⟨[1,2,4,5,6,12,13,19,20,21],3,[],LJ h w 1,λU=>(1000-aZ 21 U).toNat,rfl,⟨rfl,rfl⟩,⟨0,Nat.zero_le _,rfl⟩,?_⟩
   |refine⟨[1,2,4,5,6,12,13,19,20,21],3,[],LJ h w 2,λU=>(1000-aZ 21 U).toNat,rfl,⟨rfl,rfl⟩,⟨0,Nat.zero_le _,rfl⟩,?_⟩
  rintro U⟨k,hk,rfl⟩;refine⟨λh3=>?_,λh3=>?_⟩
  rotate_left
  .have h3:=of_decide_eq_false h3
   rw[hlen]at h3;obtain rfl:k=h.parts.length:=by omega
   rw[E7];refine⟨_,wrap64 (by decide) (by decide),?_⟩;exact⟨⟨rfl,rfl⟩,⟨_,Uq,rfl⟩,less⟩
  have h3:=of_decide_eq_true h3;rw[hlen]at h3;have bF:k<h.parts.length:=by omega
  obtain⟨x,hx⟩:∃x,h.parts[k]?=some x:=⟨_,List.getElem?_eq_getElem bF⟩;have Ik:=ho.part x (List.mem_of_getElem? hx);have jI:(1000-((k:Int)+1)).toNat<(1000-(k:Int)).toNat:=by omega
  have Du:=Ik.k0;have abQ:=Ik.k1;refine⟨by omega,_,aV hx,?_⟩;refine⟨w-x.jE,wrap64 (by omega) (by omega),?_⟩;refine⟨_,rfl,_,Si x Ik,?_⟩;have Y8:=tb x Ik;have sbk:=sb k;have LK:=sb (k+1);rw[sy hx]at LK;refine⟨λh4=>?_,λh4=>?_⟩
  .have h4:=of_decide_eq_true h4
   unfold term at Y8;rw[if_pos h4]at Y8;have Sj:=ss hx;unfold term at Sj LK;rw[if_pos h4]at Sj LK;refine Or.inl ⟨by kernel_rfl,?_⟩;refine⟨⟨by decide,by decide⟩,_,rfl,?_⟩;refine⟨_,sg k,?_⟩;refine⟨_,rfl,_,Si x Ik,?_⟩;refine⟨_,rfl,_,W4 x w Ik h0 h1,?_⟩;refine⟨_,wrap64 (by omega) (by omega),?_⟩;refine⟨_,wrap64 (by omega) (by omega),?_⟩;refine⟨⟨by decide,by decide⟩,_,rfl,?_⟩;refine⟨Nat.le_of_ble_eq_true rfl,_,Sj,?_⟩;refine⟨(k:Int)+1,wrap64 (by omega) (by omega),?_⟩;exact⟨⟨rfl,rfl⟩,⟨k+1,bF,rfl⟩,jI⟩
  have h4:=of_decide_eq_false h4;unfold term at Y8;rw[if_neg h4]at Y8;have Sj:=ss hx;unfold term at Sj LK;rw[if_neg h4]at Sj LK;refine Or.inl ⟨by kernel_rfl,?_⟩;refine⟨⟨by decide,by decide⟩,_,rfl,?_⟩;refine⟨_,sg k,?_⟩;refine⟨_,rfl,_,Si x Ik,?_⟩;refine⟨_,rfl,_,W3 x w Ik h0 h1,?_⟩;refine⟨_,wrap64 (by omega) (by omega),?_⟩;refine⟨_,wrap64 (by omega) (by omega),?_⟩;refine⟨⟨by decide,by decide⟩,_,rfl,?_⟩;refine⟨Nat.le_of_ble_eq_true rfl,_,Sj,?_⟩;refine⟨(k:Int)+1,wrap64 (by omega) (by omega),?_⟩;exact⟨⟨rfl,rfl⟩,⟨k+1,bF,rfl⟩,jI⟩
def CB(a b c:Int):Int:=if a<=0 then 1 else if b<0 then 2 else if c<0 then 3 else 0
theorem Sk(a b c:Int):DN 162 [.agg [.int .i64 a,.int .i64 b,.int .i64 c]] (.int .i64 (CB a b c)):=by
 refine dX Tryz.func162 Tryz.call162 rfl rfl ?_;unfold CB;refine⟨⟨by decide,by decide⟩,?_⟩;refine⟨λh=>?_,λh=>?_⟩
 .rw[if_pos (of_decide_eq_true h)];rfl
 rw[if_neg (of_decide_eq_false h)];refine⟨⟨by decide,by decide⟩,?_⟩;refine⟨λh=>?_,λh=>?_⟩
 .rw[if_pos (of_decide_eq_true h)];rfl
 rw[if_neg (of_decide_eq_false h)];refine⟨⟨by decide,by decide⟩,?_⟩;refine⟨λh=>?_,λh=>?_⟩
 .rw[if_pos (of_decide_eq_true h)];rfl
 rw[if_neg (of_decide_eq_false h)];rfl
def Hull.o7(h:Hull)(w:Int):Int:=CB (least h 0 w) (least h 1 w) (least h 2 w)
def GF(h:Hull):Nat->Int->Int->Int
 |0,_,hi=>hi
 |f+1,lo,hi=>if hi-lo>1 then(if h.o7 ((lo+hi).tdiv 2)=0 then GF h f ((lo+hi).tdiv 2) hi else GF h f lo ((lo+hi).tdiv 2))else hi
def dF(h:Hull):List (Int×Int)->Int×Int
 |[]=>(0,0)
 |p::r=>if h.o7 p.1≠0 then(h.o7 p.1,p.1)else if h.o7 p.2=0 then dF h r else(h.o7 (GF h 1000 p.1 p.2),GF h 1000 p.1 p.2)
def Il(p:Int×Int):List D:=[.agg [.int .i64 p.1,.int .i64 p.2]]
def iD(lo hi:Int):List D:=[.int .i64 lo,.int .i64 hi]
def LL(xs:List (Int×Int)):Prop:=∀p∈xs,(0<=p.1/\p.1<=1000)/\0<=p.2/\p.2<=1000
theorem Sl{lo hi:Int}(h0:0<=lo)(h:hi-lo>1):lo<(lo+hi).tdiv 2/\(lo+hi).tdiv 2<hi:=by
 rw[Int.tdiv_eq_ediv_of_nonneg (by omega)];omega
theorem Aq{h:Hull}:∀(f:Nat)(lo hi:Int),h.o7 hi≠0->h.o7 (GF h f lo hi)≠0
 |0,_,_,hh=>hh
 |f+1,lo,hi,hh=>by
  unfold GF;split
  .split
   .exact Aq f _ _ hh
   exact Aq f _ _ (by assumption)
  exact hh
theorem wE{h:Hull}:∀xs:List (Int×Int),(dF h xs).1=0↔∀p∈xs,h.o7 p.1=0/\h.o7 p.2=0
 |[]=>by simp[dF]
 |p::r=>by
  unfold dF;by_cases h1:h.o7 p.1=0
  .rw[if_neg (by simp[h1])]
   by_cases h2:h.o7 p.2=0
   .rw[if_pos h2,wE r]
    simp[h1,h2]
   rw[if_neg h2];have:=Aq 1000 p.1 p.2 h2;simp[this,h2]
  rw[if_pos h1];simp[h1]
theorem P7(h:Hull)(lo hi:Int):DN 20 [.agg h.enc,.agg (iD lo hi)] (.bR (.func 89) [] [.ro (iD lo hi),.ro h.enc]):=by
 refine dX Tryz.func20 Tryz.call20 rfl rfl ?_;rfl
theorem Ou(h:Hull)(w:Int):DN 162 [.agg (E6 h w)] (.int .i64 (h.o7 w)):=Sk _ _ _
theorem Sm(h:Hull)(ho:h.Ok)(lo hi:Int)(xs:List (Int×Int))(hp:LL xs)(hx:IT 89 [.ro (iD lo hi),.ro h.enc] (xs.map Il)):DN 161 [.agg h.enc,.agg (iD lo hi)] (.b9 [.int .i64 (dF h xs).1,.int .i64 (dF h xs).2]):=by
 refine dX Tryz.func161 Tryz.call161 rfl rfl ?_;refine⟨_,rfl,_,P7 h lo hi,?_⟩;refine⟨rfl,_,rfl,_,hx,4,[],λi bs y=>dF h xs=dF h (xs.drop i)/\bs=[.flat false h.enc,.flat false (iD lo hi),.flat false [.int .i64 0],.flat false [.int .i64 0]]/\y=.aQ,rfl,rfl,rfl,⟨rfl,rfl,rfl⟩,?_,?_,?_⟩
 .rintro i x bs y bC⟨hf,rfl,rfl⟩
  rw[List.getElem?_map]at bC;obtain⟨p,HC,rfl⟩:=Option.map_eq_some_iff.1 bC;obtain⟨a,b⟩:=p;have cG:=(List.getElem?_eq_some_iff.1 HC).1;have sZ:xs.drop i=(a,b)::xs.drop (i+1):=by rw[List.drop_eq_getElem_cons cG,(List.getElem?_eq_some_iff.1 HC).2]
  have dv:=hp _ (List.mem_of_getElem? HC);have ha0:0<=a:=dv.1.1;have Uh:a<=1000:=dv.1.2;have A8:0<=b:=dv.2.1;have qm:b<=1000:=dv.2.2;rw[sZ]at hf;have hf:dF h xs=if h.o7 a≠0 then(h.o7 a,a)else if h.o7 b=0 then dF h (xs.drop (i+1))else(h.o7 (GF h 1000 a b),GF h 1000 a b):=hf
  refine⟨_,rfl,_,yq h ho a ha0 Uh,?_⟩;refine⟨_,rfl,_,Ou h a,?_⟩;refine⟨λh1=>?_,λh1=>?_⟩
  .have h1:(h.o7 a !=0)=true:=h1
   rw[if_pos (by simpa using h1)]at hf;rw[hf];refine Or.inr (Or.inl ⟨3,[2,1],by kernel_rfl,?_⟩);refine⟨⟨rfl,rfl,trivial⟩,?_⟩;refine⟨trivial,?_⟩;rfl
  have h1:(h.o7 a !=0)=false:=h1;have h1:h.o7 a=0:=by simpa using h1
  rw[if_neg (by simp[h1])]at hf;rw[h1];refine⟨_,rfl,_,yq h ho b A8 qm,?_⟩;refine⟨_,rfl,_,Ou h b,?_⟩;refine⟨λh2=>?_,λh2=>?_⟩
  .have h2:(h.o7 b==0)=true:=h2
   rw[if_pos (by simpa using h2)]at hf;exact⟨rfl,hf,rfl,rfl⟩
  have h2:(h.o7 b==0)=false:=h2;rw[if_neg (by simpa using h2)]at hf;rw[hf];refine Or.inl ⟨by kernel_rfl,?_⟩;refine⟨[2,4,5,7,8],5,[],λU=>∃(f:Nat)(c d:Int),0<=c/\c<=1000/\0<=d/\d<=1000/\d-c<=f/\GF h 1000 a b=GF h f c d/\U=⟨[(2,.loc 0 0),(4,.loc 2 0),(5,.loc 3 0),(7,.int .i64 c),(8,.int .i64 d)],[.flat false h.enc,.flat false (iD lo hi),.flat false [.int .i64 0],.flat false [.int .i64 0],.flat false [.int .i64 a,.int .i64 b]],.aQ⟩,
   λU=>(aZ 8 U-aZ 7 U).toNat,rfl,⟨rfl,rfl⟩,⟨1000,a,b,ha0,Uh,A8,qm,by omega,rfl,rfl⟩,?_⟩
  rintro U⟨f,c,d,ua,hc1,pc,la,hfu,k6,rfl⟩;refine⟨d-c,wrap64 (by omega) (by omega),?_⟩;refine⟨λh3=>?_,λh3=>?_⟩
  .have h3:=of_decide_eq_true h3
   have hm:=Sl ua h3;obtain⟨g,rfl⟩:∃g,f=g+1:=⟨f-1,by omega⟩;obtain⟨m,hmm⟩:∃m,(c+d).tdiv 2=m:=⟨_,rfl⟩;have k6:GF h 1000 a b=if d-c>1 then(if h.o7 ((c+d).tdiv 2)=0 then GF h g ((c+d).tdiv 2) d else GF h g c ((c+d).tdiv 2))else d:=k6
   rw[if_pos h3,hmm]at k6;rw[hmm]at hm;refine⟨c+d,wrap64 (by omega) (by omega),?_⟩;refine⟨by decide,m,by rw[hmm];exact wrap64 (by omega) (by omega),?_⟩;refine⟨_,rfl,_,yq h ho m (by omega) (by omega),?_⟩;refine⟨_,rfl,_,Ou h m,?_⟩;refine⟨λh4=>?_,λh4=>?_⟩
   .have h4:(h.o7 m==0)=true:=h4
    rw[if_pos (by simpa using h4)]at k6;refine⟨⟨rfl,rfl⟩,⟨g,m,d,by omega,by omega,pc,la,by omega,k6,rfl⟩,?_⟩;show(d-m).toNat<(d-c).toNat;omega
   have h4:(h.o7 m==0)=false:=h4;rw[if_neg (by simpa using h4)]at k6;refine⟨⟨rfl,rfl⟩,⟨g,c,m,ua,hc1,by omega,by omega,by omega,k6,rfl⟩,?_⟩;show(m-c).toNat<(d-c).toNat;omega
  have h3:=of_decide_eq_false h3;have k6:GF h 1000 a b=d:=by
   rw[k6];cases f with
   |zero=>rfl
   |succ g=>show(if d-c>1 then _ else d)=d;rw[if_neg h3]
  rw[k6];refine⟨_,rfl,_,yq h ho d pc la,?_⟩;refine⟨_,rfl,_,Ou h d,?_⟩;rfl
 .intro x hx
  obtain⟨p,_,rfl⟩:=List.mem_map.1 hx;exact⟨rfl,rfl⟩
 rintro bs y⟨hf,rfl,rfl⟩;rw[List.length_map,List.drop_length]at hf;rw[hf];rfl
theorem W6(h:Hull)(ho:h.Ok)(lo hi:Int)(h0:0<=lo)(h1:lo<=hi)(h2:hi<=1000)(xs:List (Int×Int))(hp:LL xs)(hx:IT 89 [.ro (iD lo hi),.ro h.enc] (xs.map Il)):DN 67 [.agg h.enc,.agg (iD lo hi)] (nj (dF h xs).1 (dF h xs).2 0):=by
 refine dX Tryz.func67 Tryz.call67 rfl rfl ?_;refine⟨_,rfl,_,LI h ho,?_⟩;refine⟨λ_=>?_,λh=>absurd h (by decide)⟩;refine⟨_,rfl,_,P5 lo hi h0 h1 h2,?_⟩;refine⟨λh=>absurd h (by decide),λ_=>?_⟩;refine⟨_,rfl,_,Sm h ho lo hi xs hp hx,?_⟩;rfl
def um(l:List Int):Nat->List Int
 |0=>l
 |j+1=>match l[j+1]?,l[j]? with
  |some a,some b=>if a<b then um ((l.set (j+1) b).set j a) j else l
  |_,_=>l
def CC(l:List Int):Nat->Nat->List Int
 |0,_=>l
 |r+1,i=>CC (um l i) r (i+1)
def ru(l:List Int):List Int:=CC l (l.length-1) 1
theorem CF:∀(j:Nat)(l:List Int),(um l j).length=l.length
 |0,_=>rfl
 |j+1,l=>by
  unfold um;split
  .split
   .rw[CF j];simp
   rfl
  rfl
theorem CG:∀(r i:Nat)(l:List Int),(CC l r i).length=l.length
 |0,_,_=>rfl
 |r+1,i,l=>by unfold CC;rw[CG r,CF]
theorem wG{l:List Int}{i:Nat}{a x:Int}(h:x∈l.set i a):x∈l\/x=a:=List.mem_or_eq_of_mem_set h
theorem CH:∀(j:Nat)(l:List Int)(x:Int),x∈um l j->x∈l
 |0,_,_,h=>h
 |j+1,l,x,h=>by
  unfold um at h;split at h
  .rename_i a b ha hb
   split at h
   .have h2:=CH j _ x h
    rcases wG h2 with h3|rfl
    .rcases wG h3 with h4|rfl
     .exact h4
     exact List.mem_of_getElem? hb
    exact List.mem_of_getElem? ha
   exact h
  exact h
theorem CI:∀(r i:Nat)(l:List Int)(x:Int),x∈CC l r i->x∈l
 |0,_,_,_,h=>h
 |r+1,i,l,x,h=>CH i l x (CI r (i+1) _ x h)
theorem Sn(a:Int):DN 286 [.int .i64 a] (.bool false):=by
 refine dX Tryz.func286 Tryz.call286 rfl rfl ?_;show some (D.bool (a !=a))=some (D.bool false);simp
theorem So(a b:Int):DN 248 [.int .i64 a,.int .i64 b] (.bool (decide (a<b))):=by
 refine dX Tryz.func248 Tryz.call248 rfl rfl ?_;refine⟨_,rfl,_,Sn a,?_⟩;refine⟨nt,λ_=>?_⟩;rfl
abbrev iM(g:Nat)(l:List Int):List af:=[.rows false g 1 (l.map aC)]
def LM(g:Nat)(l:List Int)(y:eG)(d:D)(bs:List af)(y':eG):Prop:=d=.b9 []/\bs=iM g l/\y'=y
theorem Ov(g:Nat)(l:List Int)(y:eG)(h1:1<=l.length)(h2:l.length<=12):DY 242 [.sl 0 g 0 l.length,.int .i64 0,.int .i64 l.length] (iM g l) y (LM g (ru l) y):=by
 refine Un Tryz.func242 Tryz.call242 rfl rfl ?_;refine⟨1,wrap64 (by decide) (by decide),?_⟩;refine⟨[0,1,2,6],1,[],λU=>∃(i:Nat)(m:List Int),1<=i/\i<=l.length/\m.length=l.length/\ru l=CC m (l.length-i) i/\U=⟨[(0,.sl 0 g 0 l.length),(1,.int .i64 0),(2,.int .i64 l.length),(6,.int .i64 i)],iM g m,y⟩,
  λU=>(1000-aZ 6 U).toNat,rfl,⟨rfl,rfl⟩,⟨1,l,Nat.le_refl _,h1,rfl,rfl,rfl⟩,?_⟩
 rintro U⟨i,m,Ud,hi,lR,hs,rfl⟩;refine⟨λh3=>?_,λh3=>?_⟩
 rotate_left
 .have h3:=of_decide_eq_false h3
  rw[show l.length-i=0 by omega]at hs;rw[hs];exact⟨_,rfl,rfl,rfl,rfl⟩
 have h3:=of_decide_eq_true h3;have less:(1000-((i:Int)+1)).toNat<(1000-(i:Int)).toNat:=by omega
 rw[show l.length-i=(l.length-(i+1))+1 by omega]at hs;have hs:ru l=CC (um m i) (l.length-(i+1)) (i+1):=hs;refine⟨[0,1,2,6,7],1,[],λU=>∃(j:Nat)(q:List Int),j<=i/\q.length=l.length/\um m i=um q j/\U=⟨[(0,.sl 0 g 0 l.length),(1,.int .i64 0),(2,.int .i64 l.length),(6,.int .i64 i),(7,.int .i64 j)],iM g q,y⟩,
  λU=>(aZ 7 U).toNat,rfl,⟨rfl,rfl⟩,⟨i,m,Nat.le_refl _,lR,rfl,rfl⟩,?_⟩
 rintro U⟨j,q,hj,ND,hq,rfl⟩;have out:um m i=q->(∃(i':Nat)(m':List Int),1<=i'/\i'<=l.length/\m'.length=l.length/\ru l=CC m' (l.length-i') i'/\(⟨[(0,.sl 0 g 0 l.length),(1,.int .i64 0),(2,.int .i64 l.length),(6,.int .i64 ((i:Int)+1))],iM g q,y⟩:St)=⟨[(0,.sl 0 g 0 l.length),(1,.int .i64 0),(2,.int .i64 l.length),(6,.int .i64 i')],iM g m',y⟩):=λe=>⟨i+1,q,by omega,by omega,ND,by rw[hs,e],rfl⟩;refine Or.inl ⟨by kernel_rfl,?_⟩;refine⟨λh4=>?_,λh4=>?_⟩
 rotate_left
 .have h4:=of_decide_eq_false h4
  obtain rfl:j=0:=by omega
  refine⟨(i:Int)+1,wrap64 (by omega) (by omega),?_⟩;exact⟨⟨rfl,rfl⟩,out hq,less⟩
 have h4:=of_decide_eq_true h4;obtain⟨k,rfl⟩:∃k,j=k+1:=⟨j-1,by omega⟩;obtain⟨a,ha⟩:∃a,q[k+1]?=some a:=⟨_,List.getElem?_eq_getElem (by omega)⟩;obtain⟨b,hb⟩:∃b,q[k]?=some b:=⟨_,List.getElem?_eq_getElem (by omega)⟩;have NA:(q.map aC)[k+1]?=some [.int .i64 a]:=by rw[List.getElem?_map,ha];rfl
 have W7:(q.map aC)[k]?=some [.int .i64 b]:=by rw[List.getElem?_map,hb];rfl
 have gH:um q (k+1)=if a<b then um ((q.set (k+1) b).set k a) k else q:=by
  show(match q[k+1]?,q[k]? with|some a,some b=>_|_,_=>_)=_;rw[ha,hb]
 rw[gH]at hq;have xq:((k+1:Nat):Int)-1=k:=by omega
 refine cA (by rw[aG];rfl) ⟨by omega,by omega,k+1,Nat.zero_add _,?_⟩;refine cA (aG g) ⟨_,NA,?_⟩;refine⟨(k:Int),by rw[xq];exact wrap64 (by omega) (by omega),?_⟩;refine cA (by rw[aG];rfl) ⟨by omega,by omega,k,Nat.zero_add _,?_⟩;refine cA (aG g) ⟨_,W7,?_⟩;refine⟨_,rfl,_,So a b,?_⟩;refine⟨λh5=>?_,λh5=>?_⟩
 rotate_left
 .have h5:=of_decide_eq_false h5
  rw[if_neg h5]at hq;refine⟨(i:Int)+1,wrap64 (by omega) (by omega),?_⟩;exact⟨⟨rfl,rfl⟩,out hq,less⟩
 have h5:=of_decide_eq_true h5;rw[if_pos h5]at hq;have hw:IntKind.i64.wrap (((k+1:Nat):Int)-1)=(k:Int):=by rw[xq];exact wrap64 (by omega) (by omega)
 have dE:(q.map aC).set (k+1) [.int .i64 b]=(q.set (k+1) b).map aC:=(List.map_set ..).symm;have W8:((q.set (k+1) b).map aC).set k [.int .i64 a]=((q.set (k+1) b).set k a).map aC:=(List.map_set ..).symm;have Sq:((q.set (k+1) b).map aC)[k]?=some [.int .i64 b]:=by rw[<-dE,List.getElem?_set,if_neg (by omega),W7]
 refine Or.inr (Or.inl ⟨15,[2,4,3],by kernel_rfl,?_⟩);refine⟨(k:Int),hw,?_⟩;refine⟨(k:Int),hw,?_⟩;refine cA (by rw[aG];rfl) ⟨by omega,by omega,k,Nat.zero_add _,?_⟩;refine cA (aG g) ⟨_,W7,?_⟩;refine cA (by rw[aG];rfl) ⟨by omega,by omega,k+1,Nat.zero_add _,?_⟩;refine cA (aG g) ⟨_,NA,?_⟩;refine cA (by rw[aG];rfl) ⟨by omega,by omega,k+1,Nat.zero_add _,?_⟩;refine cA (by rw[aG];rfl) ⟨_,NA,Nat.le_refl 1,_,dE,?_⟩;refine⟨⟨rfl,⟨_,hw,rfl⟩,rfl,trivial⟩,?_⟩;refine cA (by rw[aG];rfl) ⟨by omega,by omega,k,Nat.zero_add _,?_⟩;refine⟨trivial,?_⟩;refine cA (by rw[aG];rfl) ⟨_,Sq,Nat.le_refl 1,_,W8,?_⟩;refine⟨trivial,?_⟩;refine⟨(k:Int),hw,?_⟩;refine⟨⟨rfl,rfl⟩,⟨k,_,by omega,by simp[ND],hq,rfl⟩,?_⟩;show(k:Int).toNat<((k+1:Nat):Int).toNat;omega
def Sr(n:Nat):Int:=([0,1,2,2,3,3,3,3,4,4,4,4,4]:List Int).getD n 0
theorem Ss(n:Nat)(hn:n<=12):DN 252 [.int .u64 n] (.int .i64 (Sr n)):=by
 refine dX Tryz.func252 Tryz.call252 rfl rfl ?_;obtain rfl|rfl|rfl|rfl|rfl|rfl|rfl|rfl|rfl|rfl|rfl|rfl|rfl:n=0\/n=1\/n=2\/n=3\/n=4\/n=5\/n=6\/n=7\/n=8\/n=9\/n=10\/n=11\/n=12:=by omega
 all_goals
  refine⟨λh=>absurd h (by decide),λ_=>?_⟩;refine⟨λh=>absurd h (by decide),λ_=>?_⟩;refine⟨λh=>absurd h (by decide),λ_=>?_⟩;exact⟨_,rfl,by decide,_,rfl,_,rfl,_,rfl,rfl⟩
theorem Su(n:Nat)(hn:n<=12):DN 179 [.int .u64 n] (.int .i64 (Sr n)):=by
 refine dX Tryz.func179 Tryz.call179 rfl rfl ?_;exact⟨_,rfl,_,Ss n hn,rfl⟩
theorem Ow(g:Nat)(l:List Int)(v:Int)(y:eG)(h1:1<=l.length)(h2:l.length<=12):DY 178 [.sl 0 g 0 l.length,.int .i64 0,.int .i64 l.length,.int .i64 v] (iM g l) y (LM g (ru l) y):=by
 refine Un Tryz.func178 Tryz.call178 rfl rfl ?_;refine⟨[0,1,2],1,[],λU=>U=⟨[(0,.sl 0 g 0 l.length),(1,.int .i64 0),(2,.int .i64 l.length)],iM g l,y⟩,λ_=>0,rfl,⟨rfl,rfl⟩,rfl,?_⟩;rintro U rfl;refine⟨(l.length:Int),by rw[Int.sub_zero];exact wrap64 (by omega) (by omega),?_⟩;refine⟨λ_=>?_,λh=>absurd (of_decide_eq_false h) (by omega)⟩;refine .inr ⟨[0],[.sl 0 g 0 l.length,.int .i64 0,.int .i64 l.length],iM g l,_,rfl,rfl,rfl,rfl,Ov g l y h1 h2,⟨_,_,_,rfl,rfl,rfl⟩,?_⟩;rintro _ _ _⟨rfl,rfl,rfl⟩;refine⟨_,rfl,?_⟩;exact⟨_,rfl,rfl,rfl,rfl⟩
theorem Sv(g:Nat)(l:List Int)(y:eG)(h1:1<=l.length)(h2:l.length<=12):DY 90 [.sl 0 g 0 l.length] (iM g l) y (LM g (ru l) y):=by
 refine Un Tryz.func90 Tryz.call90 rfl rfl ?_;refine⟨(l.length:Int),?_,?_⟩
 .show((l.length:Int)%18446744073709551616:Int)=l.length
  omega
 refine⟨_,rfl,_,Su l.length h2,?_⟩;refine .inr ⟨[0],[.sl 0 g 0 l.length,.int .i64 0,.int .i64 l.length,.int .i64 (Sr l.length)],iM g l,_,rfl,rfl,rfl,rfl,Ow g l _ y h1 h2,⟨_,_,_,rfl,rfl,rfl⟩,?_⟩;rintro _ _ _⟨rfl,rfl,rfl⟩;refine⟨_,rfl,?_⟩;exact⟨_,rfl,rfl,rfl,rfl⟩
def jJ(k0:Nat):Nat->List Int->Nat->Nat->List Int×Nat
 |0,m,_,k=>(m,k)
 |r+1,m,k2,k=>match m[k0+k2]?,m[k0+(k2-1)]? with
  |some a,some b=>if a≠b then jJ k0 r (m.set k a) (k2+1) (k+1)else jJ k0 r m (k2+1) k
  |_,_=>(m,k)
def tK(l:List Int):Nat->Nat->List Int
 |0,_=>l
 |r+1,k=>if l[k]?=l[k-1]? then(jJ k (l.length-k-1) l 1 k).1.take (jJ k (l.length-k-1) l 1 k).2 else tK l r (k+1)
def jf(l:List Int):List Int:=tK l (l.length-1) 1
theorem sB(k0:Nat):∀(r:Nat)(m:List Int)(k2 k:Nat)(x:Int),x∈(jJ k0 r m k2 k).1->x∈m
 |0,_,_,_,_,h=>h
 |r+1,m,k2,k,x,h=>by
  unfold jJ at h;split at h
  .rename_i a b ha hb
   split at h
   .rcases wG (sB k0 r _ _ _ x h)with h2|rfl
    .exact h2
    exact List.mem_of_getElem? ha
   exact sB k0 r _ _ _ x h
  exact h
theorem yr(l:List Int):∀(r k:Nat)(x:Int),x∈tK l r k->x∈l
 |0,_,_,h=>h
 |r+1,k,x,h=>by
  unfold tK at h;split at h
  .exact sB _ _ _ _ _ x (List.mem_of_mem_take h)
  exact yr l r (k+1) x h
theorem sC(k0:Nat):∀(r:Nat)(m:List Int)(k2 k:Nat),(jJ k0 r m k2 k).1.length=m.length
 |0,_,_,_=>rfl
 |r+1,m,k2,k=>by
  unfold jJ;split
  .split
   .rw[sC k0 r,List.length_set]
   exact sC k0 r _ _ _
  rfl
theorem yt(l:List Int):∀(r k:Nat),(tK l r k).length<=l.length
 |0,_=>Nat.le_refl _
 |r+1,k=>by
  unfold tK;split
  .rw[List.length_take,sC];omega
  exact yt l r (k+1)
def LN(g:Nat)(l:List Int)(y:eG)(d:D)(bs:List af)(y':eG):Prop:=∃(k:Nat)(R:List (List D)),d=.sl 0 g 0 k/\bs=[.rows false g 1 R]/\k<=R.length/\R.take k=(jf l).map aC/\y'=y
theorem Sw(g:Nat)(l:List Int)(y:eG)(h2:l.length<=12):DY 91 [.sl 0 g 0 l.length] (iM g l) y (LN g l y):=by
 refine Un Tryz.func91 Tryz.call91 rfl rfl ?_;have same:jf l=l->∃d,some (D.sl 0 g 0 l.length)=some d/\LN g l y d (iM g l) y:=λe=>⟨_,rfl,l.length,l.map aC,rfl,rfl,by simp,by rw[e,List.take_of_length_le (by simp)],rfl⟩;refine⟨λh1=>?_,λh1=>?_⟩
 .have h1:(l.length:Int)<2:=of_decide_eq_true h1
  refine same ?_;unfold jf;rw[show l.length-1=0 by omega];rfl
 have h1:=of_decide_eq_false h1;refine⟨[0,3],1,[],λU=>∃k:Nat,1<=k/\k<=l.length/\jf l=tK l (l.length-k) k/\U=⟨[(0,.sl 0 g 0 l.length),(3,.int .i64 k)],iM g l,y⟩,
  λU=>(1000-aZ 3 U).toNat,rfl,⟨rfl,rfl⟩,⟨1,Nat.le_refl _,by omega,rfl,rfl⟩,?_⟩
 rintro U⟨k,xq,hk,hc,rfl⟩;refine⟨λh3=>?_,λh3=>?_⟩
 rotate_left
 .have h3:=of_decide_eq_false h3
  rw[show l.length-k=0 by omega]at hc;exact same hc
 have h3:=of_decide_eq_true h3;have less:(1000-((k:Int)+1)).toNat<(1000-(k:Int)).toNat:=by omega
 obtain⟨a,ha⟩:∃a,l[k]?=some a:=⟨_,List.getElem?_eq_getElem (by omega)⟩;obtain⟨b,hb⟩:∃b,l[k-1]?=some b:=⟨_,List.getElem?_eq_getElem (by omega)⟩;have NA:(l.map aC)[k]?=some [.int .i64 a]:=by rw[List.getElem?_map,ha];rfl
 have W7:(l.map aC)[k-1]?=some [.int .i64 b]:=by rw[List.getElem?_map,hb];rfl
 rw[show l.length-k=(l.length-(k+1))+1 by omega]at hc;have hc:jf l=if l[k]?=l[k-1]? then(jJ k (l.length-k-1) l 1 k).1.take (jJ k (l.length-k-1) l 1 k).2 else tK l (l.length-(k+1)) (k+1):=hc
 rw[ha,hb]at hc;have aaY:(k:Int)-1=((k-1:Nat):Int):=by omega
 refine Or.inl ⟨by kernel_rfl,?_⟩;refine cA (by rw[aG];rfl) ⟨by omega,by omega,k,Nat.zero_add _,?_⟩;refine cA (aG g) ⟨_,NA,?_⟩;refine⟨((k-1:Nat):Int),by rw[aaY];exact wrap64 (by omega) (by omega),?_⟩;refine cA (by rw[aG];rfl) ⟨by omega,by omega,k-1,Nat.zero_add _,?_⟩;refine cA (aG g) ⟨_,W7,?_⟩;refine⟨λh4=>?_,λh4=>?_⟩
 rotate_left
 .have h4:(a==b)=false:=h4
  rw[if_neg (by simpa using h4)]at hc;refine⟨(k:Int)+1,wrap64 (by omega) (by omega),?_⟩;exact⟨⟨rfl,rfl⟩,⟨k+1,by omega,by omega,hc,rfl⟩,less⟩
 have h4:(a==b)=true:=h4;rw[if_pos (by simpa using h4)]at hc;refine cA (by rw[aG];rfl) ⟨⟨by omega,by omega⟩,?_⟩;obtain⟨n,hn⟩:∃n,l.length=n:=⟨_,rfl⟩;have AN:n<=12:=by omega
 have YH:k<n:=by omega
 have fin:∀(m:List Int)(kk:Nat)(R:List (List D)),kk<=R.length->R.take kk=(m.take kk).map aC->jf l=m.take kk->∃d,some (D.sl 0 g 0 kk)=some d/\LN g l y d [.rows false g 1 R] y:=λm kk R q1 q2 q3=>⟨_,rfl,kk,R,rfl,rfl,q1,by rw[q2,q3],rfl⟩;rw[hn]at hc⊢;refine⟨[0,3,4,5],1,[],λU=>∃(r kk k2:Nat)(m:List Int),1<=k2/\k+k2+r=n/\kk<=k+k2-1/\m.length=n/\jJ k (n-k-1) l 1 k=jJ k r m k2 kk/\U=⟨[(0,.sl 0 g 0 n),(3,.int .i64 kk),(4,.sl 0 g (0+k) (n-k)),(5,.int .i64 k2)],iM g m,y⟩,
  λU=>(1000-aZ 5 U).toNat,rfl,⟨rfl,rfl⟩,⟨n-k-1,k,1,l,Nat.le_refl _,by omega,by omega,hn,rfl,rfl⟩,?_⟩
 rintro U⟨r,kk,k2,m,ze,hr,rI,hm,Oa,rfl⟩;refine⟨λh5=>?_,λh5=>?_⟩
 .have h5:=of_decide_eq_true h5
  have jI:(1000-((k2:Int)+1)).toNat<(1000-(k2:Int)).toNat:=by omega
  obtain⟨r,rfl⟩:∃q,r=q+1:=⟨r-1,by omega⟩;obtain⟨a2,Y9⟩:∃a,m[k+k2]?=some a:=⟨_,List.getElem?_eq_getElem (by omega)⟩;obtain⟨b2,jQ⟩:∃b,m[k+(k2-1)]?=some b:=⟨_,List.getElem?_eq_getElem (by omega)⟩;obtain⟨c2,Za⟩:∃c,m[kk]?=some c:=⟨_,List.getElem?_eq_getElem (by omega)⟩;have W9:(m.map aC)[k+k2]?=some [.int .i64 a2]:=by rw[List.getElem?_map,Y9];rfl
  have Sq:(m.map aC)[k+(k2-1)]?=some [.int .i64 b2]:=by rw[List.getElem?_map,jQ];rfl
  have HO:(m.map aC)[kk]?=some [.int .i64 c2]:=by rw[List.getElem?_map,Za];rfl
  have gH:jJ k (r+1) m k2 kk=if a2≠b2 then jJ k r (m.set kk a2) (k2+1) (kk+1)else jJ k r m (k2+1) kk:=by
   show(match m[k+k2]?,m[k+(k2-1)]? with|some a,some b=>_|_,_=>_)=_;rw[Y9,jQ]
  rw[gH]at Oa;have dE:(m.map aC).set kk [.int .i64 a2]=(m.set kk a2).map aC:=(List.map_set ..).symm;have Uc:(k2:Int)-1=((k2-1:Nat):Int):=by omega
  refine Or.inl ⟨by kernel_rfl,?_⟩;refine cA (by rw[aG];rfl) ⟨by omega,by omega,k+k2,by omega,?_⟩;refine cA (aG g) ⟨_,W9,?_⟩;refine⟨((k2-1:Nat):Int),by rw[Uc];exact wrap64 (by omega) (by omega),?_⟩;refine cA (by rw[aG];rfl) ⟨by omega,by omega,k+(k2-1),by omega,?_⟩;refine cA (aG g) ⟨_,Sq,?_⟩;refine⟨λh6=>?_,λh6=>?_⟩
  .have h6:(a2 !=b2)=true:=h6
   rw[if_pos (by simpa using h6)]at Oa;refine cA (by rw[aG];rfl) ⟨by omega,by omega,k+k2,by omega,?_⟩;refine cA (aG g) ⟨_,W9,?_⟩;refine cA (by rw[aG];rfl) ⟨by omega,by omega,kk,Nat.zero_add _,?_⟩;refine cA (by rw[aG];rfl) ⟨_,HO,Nat.le_refl 1,_,dE,?_⟩;refine⟨(kk:Int)+1,wrap64 (by omega) (by omega),?_⟩;refine⟨(k2:Int)+1,wrap64 (by omega) (by omega),?_⟩;exact⟨⟨rfl,rfl⟩,⟨r,kk+1,k2+1,m.set kk a2,by omega,by omega,by omega,by rw[List.length_set,hm],Oa,rfl⟩,jI⟩
  have h6:(a2 !=b2)=false:=h6;rw[if_neg (by simpa using h6)]at Oa;refine⟨(k2:Int)+1,wrap64 (by omega) (by omega),?_⟩;exact⟨⟨rfl,rfl⟩,⟨r,kk,k2+1,m,by omega,by omega,by omega,hm,Oa,rfl⟩,jI⟩
 have h5:=of_decide_eq_false h5;obtain rfl:r=0:=by omega
 have Oa:jJ k (n-k-1) l 1 k=(m,kk):=Oa;rw[Oa]at hc;have hc:jf l=m.take kk:=hc;refine cA (by rw[aG];rfl) ⟨⟨by omega,by omega⟩,?_⟩;refine⟨λhz=>?_,λhz=>?_⟩
 .refine cA (by rw[aG];rfl) ⟨⟨by omega,by omega⟩,?_⟩
  exact fin m kk (m.map aC) (by rw[List.length_map];omega) (List.map_take ..).symm hc
 refine cA (by rw[aG];rfl) ⟨_,rfl,?_⟩;refine cA (by rw[aG];rfl) ⟨⟨by omega,by omega⟩,?_⟩;refine fin m kk _ ?_ ?_ hc
 .unfold gn
  simp only[List.length_append,List.length_take,List.length_map];omega
 unfold gn;rw[List.take_append_of_le_length (by rw[List.length_take,List.length_map,toN];omega),List.take_take,List.map_take,toN,show min kk (0+kk)=kk by omega]
def sD(lo hi:Int)(x:Pt):Bool:=decide (lo<x.jE)&&decide (x.jE<hi)
def iE(lo hi:Int)(l:List Pt):List Int:=hi::(l.filter (sD lo hi)).map (·.jE)
def Xa:Int->List Int->List (Int×Int)
 |_,[]=>[]
 |a,b::r=>(a,b)::Xa b r
def pieces(ps:List Pt)(lo hi:Int):List (Int×Int):=Xa lo (jf (ru (iE lo hi ps)))
theorem LO{lo hi:Int}:∀(a:Int)(l:List Int),lo<=a/\a<=hi->(∀x∈l,lo<=x/\x<=hi)->∀p∈Xa a l,(lo<=p.1/\p.1<=hi)/\lo<=p.2/\p.2<=hi
 |_,[],_,_,p,h=>by cases h
 |a,b::r,ha,hl,p,h=>by
  rcases List.mem_cons.1 h with rfl|h2
  .exact⟨ha,hl b (by simp)⟩
  exact LO b r (hl b (by simp)) (λx hx=>hl x (by simp[hx])) p h2
theorem yu{ps:List Pt}{lo hi:Int}(h0:0<=lo)(h1:lo<=hi)(h2:hi<=1000):LL (pieces ps lo hi):=by
 intro p hp;have:=LO (lo:=lo) (hi:=hi) lo _ ⟨Int.le_refl _,h1⟩ (λx hx=>?_) p hp
 .omega
 have hx:=CI _ _ _ x (yr _ _ _ x hx);rcases List.mem_cons.1 hx with rfl|hx
 .exact⟨h1,Int.le_refl _⟩
 obtain⟨q,hq,rfl⟩:=List.mem_map.1 hx;have:=(List.mem_filter.1 hq).2;unfold sD at this;simp at this;omega
theorem tL{ps qs:List Pt}(lo hi:Int)(h:ps.map (·.jE)=qs.map (·.jE)):pieces ps lo hi=pieces qs lo hi:=by
 have e:∀l:List Pt,(l.filter (sD lo hi)).map (·.jE)=(l.map (·.jE)).filter λk=>decide (lo<k)&&decide (k<hi):=by
  intro l;rw[List.filter_map];rfl
 unfold pieces iE;rw[e,e,h]
theorem LP{n:Nat}{R:List (List D)}{l:List Int}(h1:n<=R.length)(h2:R.take n=l.map aC):n=l.length:=by
 have:=congrArg List.length h2;rw[List.length_take,List.length_map]at this;omega
theorem LQ{n i:Nat}{R:List (List D)}{l:List Int}{b:Int}(h2:R.take n=l.map aC)(hb:l[i]?=some b)(hi:i<n):R[i]?=some [.int .i64 b]:=by
 have:(R.take n)[i]?=some [.int .i64 b]:=by rw[h2,List.getElem?_map,hb];rfl
 rw[List.getElem?_take,if_pos hi]at this;exact this
theorem Sy(h:Hull)(ho:h.Ok)(lo hi:Int):IT 89 [.ro (iD lo hi),.ro h.enc] ((pieces h.parts lo hi).map Il):=by
 have uJ:=ho.uJ;have hlen:=bD Pt.enc h.parts;refine WM Tryz.func89 Tryz.call89 rfl rfl ?_;intro id;refine⟨[0,1,2,4,15,16,17],1,[],λU=>∃k g:Nat,k<=h.parts.length/\U=⟨[(0,.j8 id),(1,.ro (iD lo hi)),(2,.ro h.enc),(4,.sl 0 g 0 ((iE lo hi (h.parts.take k)).map aC).length),(15,.list 7 (h.parts.map Pt.enc)),(16,.int .i64 (h.parts.map Pt.enc).length),(17,.int .i64 k)],iM g (iE lo hi (h.parts.take k)),.rem id ((pieces h.parts lo hi).map Il)⟩,
  λU=>(1000-aZ 17 U).toNat,rfl,⟨rfl,rfl⟩,⟨0,0,Nat.zero_le _,rfl⟩,?_⟩
 rintro U⟨k,g,hk,rfl⟩;refine⟨λh1=>?_,λh1=>?_⟩
 .have h1:=of_decide_eq_true h1
  rw[hlen]at h1;have bF:k<h.parts.length:=by omega
  have less:(1000-((k:Int)+1)).toNat<(1000-(k:Int)).toNat:=by omega
  obtain⟨x,hx⟩:∃x,h.parts[k]?=some x:=⟨_,List.getElem?_eq_getElem bF⟩;have CJ:sD lo hi x=false->iE lo hi (h.parts.take (k+1))=iE lo hi (h.parts.take k):=λhb=>by
   unfold iE;rw[List.take_succ,hx];simp[hb]
  have p8:sD lo hi x=true->(iE lo hi (h.parts.take k)).map aC++[[.int .i64 x.jE]]=(iE lo hi (h.parts.take (k+1))).map aC:=λhb=>by
   unfold iE;rw[List.take_succ,hx];simp[hb,aC]
  have dN:(iE lo hi (h.parts.take k)).length<=12:=by
   unfold iE;have:=List.length_filter_le (sD lo hi) (h.parts.take k);rw[List.length_take]at this;simp only[List.length_cons,List.length_map];omega
  refine⟨by omega,_,aV hx,?_⟩;refine⟨λh2=>?_,λh2=>?_⟩
  .refine⟨λh3=>?_,λh3=>?_⟩
   .have hb:sD lo hi x=true:=by unfold sD;rw[h2,h3];rfl
    refine⟨trivial,cA (by rw[aG];rfl) ⟨Nat.le_of_eq (Nat.zero_add _),?_,_,ij rfl,_,p8 hb,?_⟩⟩
    .rw[List.length_map];show(_+1)*8<=ay;unfold ay;omega
    refine⟨(k:Int)+1,wrap64 (by omega) (by omega),?_⟩;exact⟨⟨rfl,rfl⟩,⟨k+1,g+1,bF,rfl⟩,less⟩
   have hb:sD lo hi x=false:=by unfold sD;rw[h3,Bool.and_false]
   refine⟨(k:Int)+1,wrap64 (by omega) (by omega),?_⟩;exact⟨⟨rfl,rfl⟩,⟨k+1,g,bF,by rw[CJ hb];rfl⟩,less⟩
  have hb:sD lo hi x=false:=by unfold sD;rw[h2,Bool.false_and]
  refine⟨(k:Int)+1,wrap64 (by omega) (by omega),?_⟩;exact⟨⟨rfl,rfl⟩,⟨k+1,g,bF,by rw[CJ hb];rfl⟩,less⟩
 have h1:=of_decide_eq_false h1;rw[hlen]at h1;obtain rfl:k=h.parts.length:=by omega
 rw[List.take_length];obtain⟨l,hl⟩:∃l,iE lo hi h.parts=l:=⟨_,rfl⟩;have hpc:pieces h.parts lo hi=Xa lo (jf (ru l)):=by unfold pieces;rw[hl]
 have uw:1<=l.length/\l.length<=12:=by
  have:=List.length_filter_le (sD lo hi) h.parts;rw[<-hl];unfold iE;simp only[List.length_cons,List.length_map];omega
 rw[hl,hpc];obtain⟨s,hs⟩:∃s,ru l=s:=⟨_,rfl⟩;have qo:s.length=l.length:=by rw[<-hs];exact CG _ _ _
 have SA:=λy=>Sv g l y uw.1 uw.2;have h91:=λy=>Sw g s y (by omega);rw[hs]at SA⊢;rw[qo]at h91;obtain⟨c,hc⟩:∃c,jf s=c:=⟨_,rfl⟩;have lL:c.length<=s.length:=by rw[<-hc];exact yt s _ _
 rw[hc];have hle:(l.map aC).length=l.length:=List.length_map ..;rw[<-hle]at SA h91;refine .inr ⟨[0],[.sl 0 g 0 (l.map aC).length],iM g l,_,rfl,rfl,rfl,rfl,SA _,⟨_,_,_,rfl,rfl,rfl⟩,?_⟩;rintro _ _ _⟨rfl,rfl,rfl⟩;refine⟨_,rfl,?_⟩;refine .inr ⟨[0],[.sl 0 g 0 (l.map aC).length],iM g s,_,rfl,rfl,rfl,rfl,h91 _,⟨_,_,_,c.length,c.map aC,rfl,rfl,by simp,by rw[hc,List.take_of_length_le (by simp)],rfl⟩,?_⟩;rintro _ _ _⟨k,R,rfl,rfl,hkR,hR,rfl⟩;rw[hc]at hR;refine⟨_,rfl,?_⟩;have hkc:=LP hkR hR;refine⟨[0,7,44,45,46],1,[],λU=>∃(i:Nat)(a:Int)(r:List Int),i<=k/\c.drop i=r/\U=⟨[(0,.j8 id),(7,.int .i64 a),(44,.sl 0 g 0 k),(45,.int .i64 k),(46,.int .i64 i)],[.rows false g 1 R],.rem id ((Xa a r).map Il)⟩,
  λU=>(1000+(aZ 45 U-aZ 46 U)).toNat,rfl,⟨rfl,rfl⟩,⟨0,lo,c,Nat.zero_le _,rfl,rfl⟩,?_⟩
 rintro U⟨i,a,r,bC,hr,rfl⟩;refine⟨λh2=>?_,λh2=>?_⟩
 .have h2:=of_decide_eq_true h2
  have HM:i<c.length:=by omega
  obtain⟨b,hb⟩:∃b,c[i]?=some b:=⟨_,List.getElem?_eq_getElem HM⟩;have aI:=LQ hR hb (by omega);obtain rfl:r=b::c.drop (i+1):=by rw[<-hr,List.drop_eq_getElem_cons HM,(List.getElem?_eq_some_iff.1 hb).2]
  refine cA (by rw[aG];rfl) ⟨by omega,by omega,i,by omega,?_⟩;refine cA (aG g) ⟨_,aI,?_⟩;refine⟨rfl,⟨_,rfl,rfl⟩,?_,?_⟩
  .refine⟨(i:Int)+1,wrap64 (by omega) (by omega),?_⟩
   refine⟨⟨rfl,rfl⟩,⟨i+1,b,_,by omega,rfl,rfl⟩,?_⟩;show(1000+((k:Int)-((i:Int)+1))).toNat<(1000+((k:Int)-(i:Int))).toNat;omega
  rfl
 have h2:=of_decide_eq_false h2;rw[List.drop_of_length_le (by omega)]at hr;subst hr;rfl
theorem P8(h:Hull)(ho:h.Ok)(lo hi:Int)(h0:0<=lo)(h1:lo<=hi)(h2:hi<=1000):DN 67 [.agg h.enc,.agg (iD lo hi)] (nj (dF h (pieces h.parts lo hi)).1 (dF h (pieces h.parts lo hi)).2 0):=
 W6 h ho lo hi h0 h1 h2 _ (yu h0 h1 h2) (Sy h ho lo hi)
def jF(h:Hull)(i:Nat)(w:Int):Int:=match i with|0=>least h 0 w-1|_=>least h i w
def Ar(w:Int):List (Nat×Int):=[(0,w),(1,w),(2,w)]
def pG(xs:List (Int×Int)):List (Nat×Int):=xs.flatMap λp=>Ar p.1++Ar p.2
def iN(h:Hull)(x:Pt):List (Nat×Int)->Int->Option Int
 |[],m=>some m
 |q::r,m=>if jF h q.1 q.2>=0 then iN h x r m else if arm h q.1 x=0 then none else iN h x r (max m ((arm h q.1 x-1-jF h q.1 q.2).tdiv (arm h q.1 x)))
def LR(o:Option Int):Int×Int:=match o with
 |none=>(0,9)
 |some m=>if m>1000000 then(0,9)else(m,0)
def aaZ(p:Int×Int):D:=.b9 [.int .i64 p.1,.int .i64 p.2]
theorem CK{h:Hull}(ho:h.Ok){w:Int}(h0:0<=w)(h1:w<=1000)(i:Nat):-300000000001<=jF h i w/\jF h i w<=300000000000:=by
 match i with
 |0=>have:=yp ho h0 h1 0;show _<=least h 0 w-1/\least h 0 w-1<=_;omega
 |i+1=>have:=yp ho h0 h1 (i+1);show _<=least h (i+1) w/\least h (i+1) w<=_;omega
theorem P9{h:Hull}(ho:h.Ok){w:Int}(h0:0<=w)(h1:w<=1000):IntKind.i64.wrap (least h 0 w-1)=jF h 0 w:=by
 have hb:_<=least h 0 w-1/\least h 0 w-1<=_:=CK ho h0 h1 0;exact wrap64 (by omega) (by omega)
def Qa(h:Hull)(w:Int):List D:=[.int .i64 (jF h 0 w),.int .i64 (jF h 1 w),.int .i64 (jF h 2 w)]
theorem Im{h:Hull}{w:Int}{i:Nat}(hi:i<3):(Qa h w)[i]?=some (.int .i64 (jF h i w)):=by
 obtain rfl|rfl|rfl:i=0\/i=1\/i=2:=by omega
 all_goals rfl
def SB(h:Hull)(x:Pt)(p lo hi m:Int)(E:List af):List af:=.flat false h.enc::.flat false [.int .i64 p]::.flat false (iD lo hi)::.flat false [.int .i64 0]::.flat false [.int .i64 0]::.rows false 0 1 [[.int .i64 p]]::.rows false 0 1 [[.int .i64 x.pos]]::.flat false h.enc::.flat false [.int .i64 m]::E
def wH(a b:Int)(L:List (Nat×Int))(j i:Nat):List (Nat×Int):=match j with
 |0=>(Ar a).drop i++(Ar b++L)
 |_=>(Ar b).drop i++L
theorem Ox{a b:Int}(h0:0<=a)(h1:0<b):0<=a.tdiv b/\a.tdiv b<=a:=by
 rw[Int.tdiv_eq_ediv_of_nonneg h0];exact⟨Int.ediv_nonneg h0 (by omega),Int.ediv_le_self _ h0⟩
theorem Io{n:Int}(h:(n==0)=true):n=0:=by simpa using h
theorem GG{n:Int}(h:(n==0)=false):n≠0:=by simpa using h
theorem Oy{a s m:Int}(h0:0<=a)(h1:a<=5000)(h2:-300000000001<=s)(h3:¬s>=0)(h4:a≠0)(hm:0<=m):
    IntKind.i64.wrap (a-1)=a-1/\IntKind.i64.wrap (a-1-s)=a-1-s/\IntKind.i64.wrap ((a-1-s).tdiv a)=(a-1-s).tdiv a/\0<=max m ((a-1-s).tdiv a):=by
  have hq:=Ox (a:=a-1-s) (b:=a) (by omega) (by omega);exact⟨wrap64 (by omega) (by omega),wrap64 (by omega) (by omega),wrap64 (by omega) (by omega),by omega⟩
theorem le3{i:Nat}(h:¬(i:Int)<3)(h2:i<=3):i=3:=by omega
theorem or3{i:Nat}(h:i<3):i=0\/i=1\/i=2:=by omega
def Xb(a b:Int):Nat->Int
 |0=>a
 |_=>b
theorem E8{a b:Int}{L:List (Nat×Int)}{j i:Nat}(hi:i<3):wH a b L j i=(i,Xb a b j)::wH a b L j (i+1):=by
 obtain rfl|rfl|rfl:i=0\/i=1\/i=2:=by omega
 all_goals cases j<;>rfl
theorem E9{h:Hull}{x:Pt}{i:Nat}{w m:Int}{r:List (Nat×Int)}:iN h x ((i,w)::r) m=if jF h i w>=0 then iN h x r m else if arm h i x=0 then none else iN h x r (max m ((arm h i x-1-jF h i w).tdiv (arm h i x))):=rfl
def Xc(a b:Int)(L:List (Nat×Int)):Nat->List (Nat×Int)
 |0=>wH a b L 0 0
 |1=>wH a b L 1 0
 |_=>L
theorem Iq{a b:Int}{L:List (Nat×Int)}{j:Nat}(hj:j<2):wH a b L j 3=Xc a b L (j+1):=by
 obtain rfl|rfl:j=0\/j=1:=by omega
 all_goals rfl
def Xd(h:Hull)(x:Pt)(res:Option Int)(p lo hi a b:Int)(L:List (Nat×Int))(j:Nat)(U:St):Prop:=∃(i:Nat)(m:Int),i<=3/\0<=m/\res=iN h x (wH a b L j i) m/\
 U=⟨[(3,.loc 0 0),(4,.loc 1 0),(6,.loc 3 0),(7,.loc 4 0),(11,.loc 7 0),(12,.loc 8 0),(16,.loc 11 0),(66,.sl 10 0 0 2),(67,.int .i64 2),(68,.int .i64 j),(80,.agg (Ot h)),(81,.int .i64 i)],SB h x p lo hi m [.flat false [.int .i64 a,.int .i64 b],.rows false 0 1 [[.int .i64 a],[.int .i64 b]],.flat false (Qa h (Xb a b j))],.aQ⟩
theorem GH{h:Hull}{x:Pt}(h3:kR h.mA h.fv x.pos=false)(i:Nat):0<=arm h i x:=by
 have:=E0 h3
 match i with
 |0=>show(0:Int)<=1;decide
 |1=>show 0<=x.pos-h.mA;omega
 |i+2=>show 0<=h.fv-x.pos;omega
theorem aa0(h:Hull)(ho:h.Ok)(k:Nat)(x:Pt)(hx:h.parts[k]?=some x)(lo hi:Int)(h0:0<=lo)(h1:lo<=hi)(h2:hi<=1000):
    DN 8 [.agg h.enc,.int .i64 k,.agg (iD lo hi)] (aaZ (if kR h.mA h.fv x.pos=true then(0,2)else LR (iN h x (pG (pieces h.parts lo hi)) 0))):=by
  have hlen:=bD Pt.enc h.parts;have uJ:=ho.uJ;have hk:=(List.getElem?_eq_some_iff.1 hx).1;have Ik:=ho.part x (List.mem_of_getElem? hx);have hpi:=yu (ps:=h.parts) h0 h1 h2;have hit:=Sy h ho lo hi;obtain⟨xs,rU⟩:∃xs,pieces h.parts lo hi=xs:=⟨_,rfl⟩;rw[rU]at hpi hit⊢;obtain⟨res,dZ⟩:∃r,iN h x (pG xs) 0=r:=⟨_,rfl⟩;rw[dZ];obtain⟨out,bp⟩:∃o,(if kR h.mA h.fv x.pos=true then(0,2)else LR res)=o:=⟨_,rfl⟩;rw[bp];have h18:=LA h.mA h.fv [x.pos] (by simp);rw[show[x.pos].any (kR h.mA h.fv)=kR h.mA h.fv x.pos by simp]at h18;refine mk Tryz.func8 Tryz.call8 rfl rfl ?_;refine⟨_,rfl,_,LI h ho,?_⟩;refine⟨λh=>absurd h (by decide),λ_=>?_⟩;refine⟨(h.parts.length:Int)-1,by rw[hlen];exact wrap64 (by omega) (by omega),?_⟩;refine⟨_,rfl,_,Oq (by omega) (by omega),?_⟩;refine⟨nt,λ_=>?_⟩;refine Or.inl ⟨by kernel_rfl,?_⟩;refine⟨by omega,_,aV hx,?_⟩;refine⟨_,rfl,_,h18,?_⟩;refine⟨λh3=>?_,λh3=>?_⟩
  .rw[if_pos h3]at bp
   subst bp;rfl
  rw[if_neg (by rw[h3];decide)]at bp;have Xe:res=none->out=(0,9):=λe=>by rw[<-bp,e];rfl
  refine⟨_,rfl,_,P5 lo hi h0 h1 h2,?_⟩;refine⟨λh=>absurd h (by decide),λ_=>?_⟩;refine⟨_,rfl,_,P7 h lo hi,?_⟩;refine⟨rfl,_,rfl,_,hit,9,[],λi bs y=>∃m:Int,0<=m/\res=iN h x (pG (xs.drop i)) m/\bs=SB h x k lo hi m []/\y=.aQ,rfl,rfl,rfl,⟨0,Int.le_refl _,dZ.symm,rfl,rfl⟩,?_,?_,?_⟩
  .rintro i q bs y bC⟨m,hm,hr,rfl,rfl⟩
   rw[List.getElem?_map]at bC;obtain⟨p,HC,rfl⟩:=Option.map_eq_some_iff.1 bC;obtain⟨a,b⟩:=p;have cG:=(List.getElem?_eq_some_iff.1 HC).1;have sZ:xs.drop i=(a,b)::xs.drop (i+1):=by rw[List.drop_eq_getElem_cons cG,(List.getElem?_eq_some_iff.1 HC).2]
   have dv:=hpi _ (List.mem_of_getElem? HC);have ha:0<=a/\a<=1000:=dv.1;have hb:0<=b/\b<=1000:=dv.2;have hwo:∀j,0<=Xb a b j/\Xb a b j<=1000:=λj=>by cases j<;>assumption
   rw[sZ]at hr;obtain⟨L,hL⟩:∃L,pG (xs.drop (i+1))=L:=⟨_,rfl⟩;have hr:res=iN h x (wH a b L 0 0) m:=by rw[hr,<-hL];show iN h x ((Ar a++Ar b)++pG (xs.drop (i+1))) m=_;rw[List.append_assoc];rfl
   refine⟨[3,4,6,7,11,12,66,67,68],11,[],λU=>∃(j:Nat)(m:Int),j<=2/\0<=m/\res=iN h x (Xc a b L j) m/\
    U=⟨[(3,.loc 0 0),(4,.loc 1 0),(6,.loc 3 0),(7,.loc 4 0),(11,.loc 7 0),(12,.loc 8 0),(66,.sl 10 0 0 2),(67,.int .i64 2),(68,.int .i64 j)],SB h x k lo hi m [.flat false [.int .i64 a,.int .i64 b],.rows false 0 1 [[.int .i64 a],[.int .i64 b]]],.aQ⟩,
    λU=>(1000-aZ 68 U).toNat,rfl,⟨rfl,rfl⟩,⟨0,m,by decide,hm,hr,rfl⟩,?_⟩
   rintro U⟨j,m,hj,hm,hr,rfl⟩;have Xf:(1000-((j:Int)+1)).toNat<(1000-(j:Int)).toNat:=by omega
   have nh:=λ(q:j<2)=>Iq (a:=a) (b:=b) (L:=L) q;have hjj:j<2->j+1<=2:=id;have hsw:=λi3=>CK ho (hwo j).1 (hwo j).2 i3;have aa1:=λi3(q:i3<3)=>Im (h:=h) (w:=Xb a b j) q;obtain rfl|rfl|rfl:j=0\/j=1\/j=2:=by omega
   rotate_right
   .refine⟨λh=>absurd h (by decide),λ_=>?_⟩
    exact⟨rfl,m,hm,by rw[hL];exact hr,rfl,rfl⟩
   all_goals
    refine⟨λ_=>?_,λh=>absurd h (by decide)⟩;refine⟨by decide,by decide,_,rfl,?_⟩;refine⟨_,rfl,?_⟩
    first
     |refine⟨_,rfl,_,yq h ho a ha.1 ha.2,?_⟩
     |refine⟨_,rfl,_,yq h ho b hb.1 hb.2,?_⟩
    refine⟨⟨by decide,by decide⟩,?_⟩
    first
     |refine⟨_,P9 ho ha.1 ha.2,?_⟩
     |refine⟨_,P9 ho hb.1 hb.2,?_⟩
    refine⟨⟨by decide,by decide⟩,?_⟩;refine⟨_,rfl,_,P6 h,?_⟩
    first
     |refine⟨[3,4,6,7,11,12,16,66,67,68,80,81],12,[],Xd h x res k lo hi a b L 0,λU=>(1000-aZ 81 U).toNat,rfl,⟨rfl,rfl⟩,⟨0,m,by decide,hm,hr,rfl⟩,?_⟩
     |refine⟨[3,4,6,7,11,12,16,66,67,68,80,81],12,[],Xd h x res k lo hi a b L 1,λU=>(1000-aZ 81 U).toNat,rfl,⟨rfl,rfl⟩,⟨0,m,by decide,hm,hr,rfl⟩,?_⟩
    rintro U⟨i3,m3,Uq,hm3,Dz,rfl⟩;have hb3:=hsw i3;refine⟨λh4=>?_,λh4=>?_⟩
    rotate_left
    .have h4:=of_decide_eq_false h4
     have e3:=le3 h4 Uq;subst e3;refine⟨_,wrap64 (by decide) (by decide),?_⟩;rw[nh (by decide)]at Dz;exact⟨⟨rfl,rfl⟩,⟨_,m3,hjj (by decide),hm3,Dz,rfl⟩,Xf⟩
    have h4:=of_decide_eq_true h4;have Ur:i3<3:=by omega
    rw[E8 Ur,E9]at Dz;have less:(1000-((i3:Int)+1)).toNat<(1000-(i3:Int)).toNat:=by omega
    have aa2:=GD h ho x Ik i3 Ur;have hap:=GH h3 i3;have FV:=uK ho Ik i3;have hsg:=aa1 i3 Ur;have e3:=or3 Ur;rcases e3 with rfl|rfl|rfl
    all_goals
     refine⟨⟨by decide,by decide⟩,_,rfl,rfl,?_⟩;refine Or.inl ⟨by kernel_rfl,?_⟩;refine⟨by omega,_,aV hx,?_⟩;refine⟨_,rfl,_,aa2,?_⟩;refine⟨⟨by decide,by decide⟩,_,rfl,?_⟩;refine⟨_,hsg,?_⟩;refine⟨λh5=>?_,λh5=>?_⟩
     .have h5:=of_decide_eq_true h5
      rw[if_pos h5]at Dz;refine⟨_,wrap64 (by decide) (by decide),?_⟩;exact⟨⟨rfl,rfl⟩,⟨_,m3,Ur,hm3,Dz,rfl⟩,less⟩
     have h5:=of_decide_eq_false h5;rw[if_neg h5]at Dz;refine⟨λh6=>?_,λh6=>?_⟩
     .rw[if_pos (Io h6)]at Dz
      have e9:=Xe Dz;subst e9;rfl
     have h6:=GG h6;rw[if_neg h6]at Dz;have hw:=Oy hap FV.2 hb3.1 h5 h6 hm3;refine Or.inl ⟨by kernel_rfl,?_⟩;refine⟨_,hw.1,?_⟩;refine⟨⟨by decide,by decide⟩,_,rfl,?_⟩;refine⟨_,hsg,?_⟩;refine⟨_,hw.2.1,?_⟩;refine⟨h6,_,hw.2.2.1,?_⟩;refine⟨_,wrap64 (by decide) (by decide),?_⟩;exact⟨⟨rfl,rfl⟩,⟨_,_,Ur,hw.2.2.2,Dz,rfl⟩,less⟩
  .intro q hq
   obtain⟨p,_,rfl⟩:=List.mem_map.1 hq;exact⟨rfl,rfl⟩
  rintro bs y⟨m,hm,hr,rfl,rfl⟩;rw[List.length_map,List.drop_length]at hr;have hr:res=some m:=hr;refine⟨λh4=>?_,λh4=>?_⟩
  .obtain rfl:out=(0,9):=by rw[<-bp,hr];exact if_pos (of_decide_eq_true h4)
   rfl
  obtain rfl:out=(m,0):=by rw[<-bp,hr];exact if_neg (of_decide_eq_false h4)
  rfl
theorem wI(n lo hi:Int):DN 105 [.int .i64 n,.int .i64 lo,.int .i64 hi] (.bool (qg n lo hi)):=by
 refine dX Tryz.func105 Tryz.call105 rfl rfl ?_;refine⟨λh=>?_,λh=>?_⟩
 .show some (D.bool _)=some (D.bool _)
  simp[qg,h]
 show some (D.bool _)=some (D.bool _);simp[qg,h]
theorem mB{n lo hi:Int}:qg n lo hi=true↔lo<=n/\n<=hi:=by simp[qg]
theorem rk{b:Bool}(h:(!b)=true):b=false:=by simpa using h
theorem qc{b:Bool}(h:(!b)=false):b=true:=by simpa using h
def dt(a b lo hi:Int):Int:=if qg a lo hi=true then(if qg b lo hi=true then(if a>b then 2 else 0)else 7)else 7
theorem oT{a b lo hi:Int}(h:dt a b lo hi=0):lo<=a/\a<=b/\b<=hi:=by
 unfold dt at h;split at h
 .rename_i h1
  split at h
  .rename_i h2
   rw[mB]at h1 h2;split at h
   .cases h
   omega
  cases h
 cases h
theorem SC(a b lo hi:Int):DN 256 [.list 2 [[.int .i64 a,.int .i64 b]],.int .i64 lo,.int .i64 hi] (.int .i64 (dt a b lo hi)):=by
 refine dX Tryz.func256 Tryz.call256 rfl rfl ?_;refine⟨[0,1,2,7,8],0,[],λU=>U=⟨[(0,.list 2 [[.int .i64 a,.int .i64 b]]),(1,.int .i64 lo),(2,.int .i64 hi),(7,.ff),(8,.int .i64 0)],[],.aQ⟩\/(qg a lo hi=true/\qg b lo hi=true/\U=⟨[(0,.list 2 [[.int .i64 a,.int .i64 b]]),(1,.int .i64 lo),(2,.int .i64 hi),(7,.bool (decide (a>b))),(8,.int .i64 1)],[],.aQ⟩),
  λU=>(1000-aZ 8 U).toNat,rfl,⟨rfl,rfl⟩,.inl rfl,?_⟩
 rintro U(rfl|⟨h1,h2,rfl⟩)
 .refine⟨λ_=>?_,λh=>tn (show true=false from h)⟩
  refine⟨by decide,_,rfl,?_⟩;refine⟨_,rfl,_,sw a lo hi,?_⟩;refine⟨λh=>?_,λh=>?_⟩
  .show some (D.int .i64 7)=some (D.int .i64 (dt a b lo hi))
   unfold dt;rw[rk h];rfl
  have h:=qc h;refine⟨by decide,_,rfl,?_⟩;refine⟨_,rfl,_,sw b lo hi,?_⟩;refine⟨λh2=>?_,λh2=>?_⟩
  .show some (D.int .i64 7)=some (D.int .i64 (dt a b lo hi))
   unfold dt;rw[h,rk h2];rfl
  have h2:=qc h2;refine Or.inl ⟨by kernel_rfl,?_⟩;refine⟨by decide,_,rfl,?_⟩;refine⟨by decide,_,rfl,?_⟩;refine⟨_,wrap64 (by decide) (by decide),?_⟩;exact⟨⟨rfl,rfl⟩,.inr ⟨h,h2,rfl⟩,(show(1000-(0+1:Int)).toNat<(1000-(0:Int)).toNat by decide)⟩
 refine⟨λh=>nt (show false=true from h),λ_=>?_⟩;refine⟨λh=>?_,λh=>?_⟩
 .show some (D.int .i64 2)=some (D.int .i64 (dt a b lo hi))
  unfold dt;rw[if_pos h1,if_pos h2,if_pos (of_decide_eq_true h)]
 show some (D.int .i64 0)=some (D.int .i64 (dt a b lo hi));unfold dt;rw[if_pos h1,if_pos h2,if_neg (of_decide_eq_false h)]
theorem As(a b lo hi:Int):DN 190 [.agg [.int .i64 a,.int .i64 b],.int .i64 lo,.int .i64 hi] (.int .i64 (dt a b lo hi)):=by
 refine dX Tryz.func190 Tryz.call190 rfl rfl ?_;exact⟨_,rfl,_,SC a b lo hi,rfl⟩
def og(x:Pt):Int:=if qg x.pos 0 5000=true/\qg x.jE 0 1000=true/\dt x.tI x.uH 0 1000000≠7/\dt x.Cu x.Al 0 5000≠7 then(if dt x.tI x.uH 0 1000000≠0 then dt x.tI x.uH 0 1000000 else dt x.Cu x.Al 0 5000)else 7
theorem LS{x:Pt}(h:og x=0):x.Ok:=by
 unfold og at h;split at h
 .rename_i h1
  obtain⟨h2,h3,-,-⟩:=h1;rw[mB]at h2 h3;split at h
  .rename_i h4;exact absurd h h4
  rename_i h4;have h5:=oT (by simpa using h4);have h6:=oT h;exact⟨h2.1,h2.2,h3.1,h3.2,h5.1,h5.2.1,h5.2.2,h6.1,h6.2.1,h6.2.2⟩
 cases h
theorem SD(x:Pt):DN 107 [.agg x.enc] (.int .i64 (og x)):=by
 refine dX Tryz.func107 Tryz.call107 rfl rfl ?_;refine Or.inl ⟨by kernel_rfl,?_⟩;have h1:=As x.tI x.uH 0 1000000;have h2:=As x.Cu x.Al 0 5000;obtain⟨a,ha⟩:∃a,dt x.tI x.uH 0 1000000=a:=⟨_,rfl⟩;obtain⟨b,hb⟩:∃b,dt x.Cu x.Al 0 5000=b:=⟨_,rfl⟩;have hE:og x=if qg x.pos 0 5000=true/\qg x.jE 0 1000=true/\a≠7/\b≠7 then(if a≠0 then a else b)else 7:=by unfold og;rw[ha,hb]
 rw[ha]at h1;rw[hb]at h2;refine⟨_,rfl,_,h1,?_⟩;refine⟨_,rfl,_,h2,?_⟩;refine⟨_,rfl,_,wI x.pos 0 5000,?_⟩;have bad:¬(qg x.pos 0 5000=true/\qg x.jE 0 1000=true/\a≠7/\b≠7)->some (D.int .i64 7)=some (D.int .i64 (og x)):=λh=>by rw[hE,if_neg h]
 refine⟨λh=>?_,λh=>?_⟩
 .exact bad λq=>by rw[rk h]at q;cases q.1
 have e1:=qc h;refine⟨_,rfl,_,wI x.jE 0 1000,?_⟩;refine⟨λh=>?_,λh=>?_⟩
 .exact bad λq=>by rw[rk h]at q;cases q.2.1
 have e2:=qc h;refine⟨λh=>?_,λh=>?_⟩
 .have h:(a==7)=true:=h
  exact bad λq=>q.2.2.1 (by simpa using h)
 have e3:(a==7)=false:=h;refine⟨λh=>?_,λh=>?_⟩
 .have h:(b==7)=true:=h
  exact bad λq=>q.2.2.2 (by simpa using h)
 have e4:(b==7)=false:=h;rw[if_pos ⟨e1,e2,by simpa using e3,by simpa using e4⟩]at hE;rw[hE];refine⟨λh=>?_,λh=>?_⟩
 .have h:(a !=0)=true:=h
  rw[if_pos (by simpa using h)];rfl
 have h:(a !=0)=false:=h;rw[if_neg (by simpa using h)];rfl
def gD(f:Nat->Int):Nat->Nat->Option (Nat×Int)
 |0,_=>none
 |r+1,i=>if f i=0 then gD f r (i+1)else some (i,f i)
theorem j5{f:Nat->Int}:∀{r i:Nat},gD f r i=none->∀j,i<=j->j<i+r->f j=0
 |0,i,_,j,h1,h2=>by omega
 |r+1,i,h,j,h1,h2=>by
  unfold gD at h;split at h
  .rename_i h3
   by_cases e:j=i
   .subst e;exact h3
   exact j5 h j (by omega) (by omega)
  cases h
theorem j6{f:Nat->Int}:∀{r i k:Nat}{e:Int},gD f r i=some (k,e)->e≠0
 |0,_,_,_,h=>by cases h
 |r+1,i,k,e,h=>by
  unfold gD at h;split at h
  .exact j6 h
  cases h;assumption
theorem lZ{f:Nat->Int}{n i:Nat}(h:i<n):gD f (n-i) i=if f i=0 then gD f (n-(i+1)) (i+1)else some (i,f i):=by
 rw[show n-i=(n-(i+1))+1 by omega];rfl
def CL(ps:List Pt)(i:Nat):Int:=match ps[i]? with
 |none=>0
 |some x=>if fH ((ps.take i).map (·.name)) x.name=0 then og x else fH ((ps.take i).map (·.name)) x.name
def mT(h:Hull):Int×Int×Int:=
 if qg h.parts.length 1 10=true then
  if qg h.mA 0 5000=true/\qg h.fv 0 5000=true then
   if h.mA>=h.fv then(1,0,2)else match gD (CL h.parts) h.parts.length 0 with
    |some (i,e)=>(2,i,e)
    |none=>(0,0,0)
  else(1,0,7)
 else(1,0,3)
theorem Fa{α:Type}{f:α->ByteArray}{l:List α}(h:∀i x,l[i]?=some x->fH ((l.take i).map f) (f x)=0):(∀x∈l,dH (f x)=true)/\l.Pairwise λa b=>bW (f a) (f b)=false:=by
 constructor
 .intro x hx
  obtain⟨i,hi⟩:=List.mem_iff_getElem?.1 hx;exact(sx (h i x hi)).1
 rw[List.pairwise_iff_getElem];intro i j hi hj Bh;have h2:=(sx (h j _ (List.getElem?_eq_getElem hj))).2;rw[List.any_eq_false]at h2;have h3:=h2 (f l[i]) (List.mem_map.2 ⟨l[i],List.mem_take_iff_getElem.2 ⟨i,by omega,rfl⟩,rfl⟩);simpa using h3
theorem CM{h:Hull}(h0:(mT h).2.2=0):h.Ok:=by
 unfold mT at h0;split at h0
 .rename_i h1
  rw[mB]at h1;split at h0
  .rename_i h2
   rw[mB,mB]at h2;split at h0
   .cases h0
   rename_i h3;cases hb:gD (CL h.parts) h.parts.length 0 with
   |some x=>obtain⟨i,e⟩:=x;rw[hb]at h0;exact absurd h0 (j6 hb)
   |none=>
    have hz:=j5 hb;have hx:∀i x,h.parts[i]?=some x->fH ((h.parts.take i).map (·.name)) x.name=0/\og x=0:=λi x hi=>by
     have h4:=hz i (Nat.zero_le _) (by have:=(List.getElem?_eq_some_iff.1 hi).1;omega);unfold CL at h4;rw[hi]at h4;simp only at h4;split at h4
     .exact⟨by assumption,h4⟩
     exact absurd h4 (by assumption)
    have hp:=Fa (f:=(·.name)) λi x hi=>(hx i x hi).1;refine⟨by omega,by omega,h2.1.1,by omega,h2.2.2,λx hm=>?_,hp.1,hp.2⟩;obtain⟨i,hi⟩:=List.mem_iff_getElem?.1 hm;exact LS (hx i x hi).2
  cases h0
 cases h0
theorem Qb(h:Hull)(hl:h.parts.length<9223372036854775808):DN 26 [.agg h.enc] (nj (mT h).1 (mT h).2.1 (mT h).2.2):=by
 have hlen:=bD Pt.enc h.parts;obtain⟨⟨o1,o2,o3⟩,bp⟩:∃o,mT h=o:=⟨_,rfl⟩;rw[bp];unfold mT at bp;have h1:=wI ((h.parts.map Pt.enc).length:Int) 1 10;rw[hlen]at h1;refine dX Tryz.func26 Tryz.call26 rfl rfl ?_;refine⟨_,rfl,_,(by rw[hlen];exact h1),?_⟩;refine⟨λq=>?_,λq=>?_⟩
 .rw[if_neg (by rw[rk q];decide)]at bp
  cases bp;rfl
 have q1:=qc q;rw[if_pos q1]at bp;rw[mB]at q1;have uJ:h.parts.length<=10:=by omega
 refine⟨_,rfl,_,wI h.mA 0 5000,?_⟩;refine⟨λq=>?_,λq=>?_⟩
 .rw[if_neg (λe=>by rw[rk q]at e;cases e.1)]at bp
  cases bp;rfl
 have q2:=qc q;refine⟨_,rfl,_,wI h.fv 0 5000,?_⟩;refine⟨λq=>?_,λq=>?_⟩
 .rw[if_neg (λe=>by rw[rk q]at e;cases e.2)]at bp
  cases bp;rfl
 have q3:=qc q;rw[if_pos ⟨q2,q3⟩]at bp;refine⟨λq=>?_,λq=>?_⟩
 .rw[if_pos (of_decide_eq_true q)]at bp
  cases bp;rfl
 rw[if_neg (of_decide_eq_false q)]at bp;refine⟨[1,5,6],1,[(.slot 5,1)],λU=>∃(i g:Nat),i<=h.parts.length/\gD (CL h.parts) h.parts.length 0=gD (CL h.parts) (h.parts.length-i) i/\
  U=⟨[(1,.loc 0 0),(5,.sl 1 g 0 (((h.parts.take i).map (·.name)).map eM).length),(6,.int .i64 i)],[.flat false h.enc,.rows false g 1 (((h.parts.take i).map (·.name)).map eM)],.aQ⟩,
  λU=>(1000-aZ 6 U).toNat,rfl,⟨rfl,rfl⟩,⟨0,0,Nat.zero_le _,rfl,rfl⟩,?_⟩
 rintro U⟨i,g,hi,hb,rfl⟩;refine⟨λh4=>?_,λh4=>?_⟩
 .have h4:=of_decide_eq_true h4
  rw[hlen]at h4;have bC:i<h.parts.length:=by omega
  obtain⟨x,hx⟩:∃x,h.parts[i]?=some x:=⟨_,List.getElem?_eq_getElem bC⟩;have aI:=aV (e:=Pt.enc) hx;have less:(1000-((i:Int)+1)).toNat<(1000-(i:Int)).toNat:=by omega
  rw[lZ bC]at hb;have Xg:=LF ((h.parts.take i).map (·.name)) x.name (by rw[List.length_map,List.length_take];omega);have p8:((h.parts.take i).map (·.name)).map eM++[[D.str x.name]]=((h.parts.take (i+1)).map (·.name)).map eM:=by
   rw[List.take_succ,hx];simp[eM]
  have hl:(((h.parts.take i).map (·.name)).map eM).length=i:=by simp;omega
  have hE:CL h.parts i=if fH ((h.parts.take i).map (·.name)) x.name=0 then og x else fH ((h.parts.take i).map (·.name)) x.name:=by unfold CL;rw[hx]
  obtain⟨e,he⟩:∃e,fH ((h.parts.take i).map (·.name)) x.name=e:=⟨_,rfl⟩;rw[he]at hE Xg;refine⟨by omega,_,aI,?_⟩;refine⟨_,ag rfl (ag (ga rfl rfl) rfl),_,Xg,?_⟩;refine⟨by omega,_,aI,?_⟩;refine⟨trivial,cA (by rw[aG];rfl) ⟨Nat.le_of_eq (Nat.zero_add _),?_,_,ij rfl,_,p8,?_⟩⟩
  .rw[hl];show(i+1)*16<=ay;unfold ay;omega
  have bad:∀v:Int,CL h.parts i=v->v≠0->some (nj 2 i v)=some (nj o1 o2 o3):=λv hv h0=>by
   rw[if_neg (by rw[hv];exact h0),hv]at hb;rw[hb]at bp;cases bp;rfl
  refine⟨λh5=>?_,λh5=>?_⟩
  .have h5:=Io h5
   rw[if_pos h5]at hE;refine⟨by omega,_,aI,?_⟩;refine⟨_,rfl,_,SD x,?_⟩;refine⟨λh6=>?_,λh6=>?_⟩
   .have h6:(og x !=0)=true:=h6
    exact bad _ hE (by simpa using h6)
   have h6:(og x !=0)=false:=h6;rw[if_pos (by rw[hE];simpa using h6)]at hb;refine⟨(i:Int)+1,wrap64 (by omega) (by omega),?_⟩;exact⟨⟨rfl,rfl⟩,⟨i+1,g+1,bC,hb,rfl⟩,less⟩
  have h5:=GG h5;rw[if_neg h5]at hE;refine⟨λh6=>?_,λh6=>?_⟩
  .exact bad _ hE h5
  have h6:(e !=0)=false:=h6;exact absurd (by simpa using h6) h5
 have h4:=of_decide_eq_false h4;rw[hlen]at h4;rw[show h.parts.length-i=0 by omega]at hb;rw[hb]at bp;cases bp;rfl
abbrev wr(n:Int):Int:=IntKind.i64.wrap n
def Fb(u v w k:Int):Int:=wr (u-wr (v*max 0 (wr (w-k))))
def Qc(h:Hull)(w u v:Int)(x:Pt)(s:Int×Int×Int):Int×Int×Int:=
 (wr (s.1+Fb u v w x.jE),wr (s.2.1+wr (Fb u v w x.jE*wr (x.pos-h.mA))),wr (s.2.2+wr (Fb u v w x.jE*wr (h.fv-x.pos))))
def wF(h:Hull)(ws ls:List Int)(w:Int):Nat->Int×Int×Int
 |0=>(0,0,0)
 |k+1=>match h.parts[k]?,ws[k]?,ls[k]? with
  |some x,some u,some v=>Qc h w u v x (wF h ws ls w k)
  |_,_,_=>(0,0,0)
def tri(s:Int×Int×Int):List D:=[.int .i64 s.1,.int .i64 s.2.1,.int .i64 s.2.2]
theorem SE(h:Hull)(uJ:h.parts.length<=10)(ws ls:List Int)(h1:ws.length=h.parts.length)(h2:ls.length=h.parts.length)(w:Int):DN 257 [.agg h.enc,.agg [.list 1 (ws.map aC),.list 1 (ls.map aC)],.int .i64 w] (.agg (tri (wF h ws ls w h.parts.length))):=by
 have hlen:=bD Pt.enc h.parts;refine dX Tryz.func257 Tryz.call257 rfl rfl ?_;refine⟨[2,3,4,6,7,8],4,[],λU=>∃i:Nat,i<=h.parts.length/\U=⟨[(2,.int .i64 w),(3,.loc 0 0),(4,.loc 1 0),(6,.loc 2 0),(7,.loc 3 0),(8,.int .i64 i)],[.flat false h.enc,.flat false [.list 1 (ws.map aC),.list 1 (ls.map aC)],.flat false (tri (0,0,0)),.flat false (tri (wF h ws ls w i))],.aQ⟩,
  λU=>(1000-aZ 8 U).toNat,rfl,⟨rfl,rfl⟩,⟨0,Nat.zero_le _,rfl⟩,?_⟩
 rintro U⟨i,hi,rfl⟩;refine⟨λh4=>?_,λh4=>?_⟩
 rotate_left
 .have h4:=of_decide_eq_false h4
  rw[hlen]at h4;have e:i=h.parts.length:=by omega
  subst e;rfl
 have h4:=of_decide_eq_true h4;rw[hlen]at h4;have bC:i<h.parts.length:=by omega
 have less:(1000-((i:Int)+1)).toNat<(1000-(i:Int)).toNat:=by omega
 obtain⟨x,hx⟩:∃x,h.parts[i]?=some x:=⟨_,List.getElem?_eq_getElem bC⟩;obtain⟨u,hu⟩:∃x,ws[i]?=some x:=⟨_,List.getElem?_eq_getElem (by omega)⟩;obtain⟨v,hv⟩:∃x,ls[i]?=some x:=⟨_,List.getElem?_eq_getElem (by omega)⟩;have hs:wF h ws ls w (i+1)=Qc h w u v x (wF h ws ls w i):=by
  show(match h.parts[i]?,ws[i]?,ls[i]? with|some x,some u,some v=>_|_,_,_=>_)=_;rw[hx,hu,hv]
 have hw:=wrap64 (n:=(i:Int)+1) (by omega) (by omega);have h0:(0:Int)<=i:=Int.natCast_nonneg i;refine⟨h0,_,aV hx,?_⟩;refine Or.inl ⟨by kernel_rfl,?_⟩;refine⟨h0,_,aV (e:=aC) hu,?_⟩;refine⟨h0,_,aV (e:=aC) hv,?_⟩;refine⟨_,rfl,?_⟩;refine⟨_,rfl,?_⟩;refine⟨_,rfl,?_⟩;refine⟨_,rfl,?_⟩;refine⟨_,rfl,?_⟩;refine⟨_,rfl,?_⟩;refine⟨_,rfl,?_⟩;refine⟨_,rfl,?_⟩;refine⟨_,rfl,?_⟩;refine⟨_,rfl,?_⟩;refine⟨_,hw,?_⟩;exact⟨⟨rfl,rfl⟩,⟨i+1,bC,by rw[hs];rfl⟩,less⟩
def om(h:Hull)(q:Int)(x:Pt):Bool:=q==0||q==1||(q==2&&decide (x.pos>=h.mA))||(q==3&&decide (x.pos<=h.fv))
def LU(h:Hull)(q:Int)(x:Pt):Int:=if om h q x=true then x.tI else x.uH
def Fc(h:Hull)(q:Int)(x:Pt):Int:=if om h q x=true then x.Al else x.Cu
theorem Fe(h:Hull)(uJ:h.parts.length<=10)(q:Int)(hq:q=1\/q=2\/q=3):DN 258 [.agg h.enc,.int .i64 q] (.agg [.list 1 ((h.parts.map (LU h q)).map aC),.list 1 ((h.parts.map (Fc h q)).map aC)]):=by
 have hlen:=bD Pt.enc h.parts;refine dX Tryz.func258 Tryz.call258 rfl rfl ?_;refine⟨[1,2,4,5,6],3,[(.cell 2 0,1),(.cell 2 1,1)],λU=>∃i g1 g2:Nat,i<=h.parts.length/\U=⟨[(1,.int .i64 q),(2,.loc 0 0),(4,.loc 1 0),(5,.loc 2 0),(6,.int .i64 i)],[.flat false h.enc,.flat false [.ao,.ao],.flat false [.sl 3 g1 0 (((h.parts.take i).map (LU h q)).map aC).length,.sl 4 g2 0 (((h.parts.take i).map (Fc h q)).map aC).length],.rows false g1 1 (((h.parts.take i).map (LU h q)).map aC),.rows false g2 1 (((h.parts.take i).map (Fc h q)).map aC)],.aQ⟩,
  λU=>(1000-aZ 6 U).toNat,rfl,⟨rfl,rfl⟩,⟨0,0,0,Nat.zero_le _,rfl⟩,?_⟩
 rintro U⟨i,g1,g2,hi,rfl⟩;refine⟨λh4=>?_,λh4=>?_⟩
 rotate_left
 .have h4:=of_decide_eq_false h4
  rw[hlen]at h4;have e:h.parts.take i=h.parts:=List.take_of_length_le (by omega);rw[e];exact ej (ag (ga rfl rfl) (ag (ga rfl rfl) rfl))
 have h4:=of_decide_eq_true h4;rw[hlen]at h4;have bC:i<h.parts.length:=by omega
 have less:(1000-((i:Int)+1)).toNat<(1000-(i:Int)).toNat:=by omega
 obtain⟨x,hx⟩:∃x,h.parts[i]?=some x:=⟨_,List.getElem?_eq_getElem bC⟩;have hw:=wrap64 (n:=(i:Int)+1) (by omega) (by omega);have h0:(0:Int)<=i:=Int.natCast_nonneg i;have c1:∀f:Pt->Int,(((h.parts.take i).map f).map aC)++[[.int .i64 (f x)]]=((h.parts.take (i+1)).map f).map aC:=λf=>by
  rw[List.take_succ,hx];simp[aC]
 have c2:∀f:Pt->Int,((((h.parts.take i).map f).map aC).length+1)*8<=ay:=λf=>by
  simp only[List.length_map,List.length_take];unfold ay;omega
 have lw:om h q x=true->LU h q x=x.tI/\Fc h q x=x.Al:=λe=>by unfold LU Fc;rw[if_pos e,if_pos e];exact⟨rfl,rfl⟩
 have hv:om h q x=false->LU h q x=x.uH/\Fc h q x=x.Cu:=λe=>by unfold LU Fc;rw[e];exact⟨rfl,rfl⟩
 have cw:=c1 (LU h q);have cl:=c1 (Fc h q);have bw:=c2 (LU h q);have bl:=c2 (Fc h q);refine⟨h0,_,aV hx,?_⟩;have e2:om h 2 x=decide (x.pos>=h.mA):=by simp[om]
 have e3:om h 3 x=decide (x.pos<=h.fv):=by simp[om]
 rcases hq with rfl|rfl|rfl
 all_goals (repeat first|refine⟨λh=>absurd h (by decide),λ_=>?_⟩|refine⟨λ_=>?_,λh=>absurd h (by decide)⟩)
 rotate_left 2
 refine⟨λg=>?_,λg=>?_⟩;have e:=lw (e3.trans g)
 rotate_left 1
 have e:=hv (e3.trans g)
 rotate_left 1
 have e:=lw rfl
 rotate_left 1
 refine⟨λg=>?_,λg=>?_⟩;have e:=lw (e2.trans g)
 rotate_left 1
 have e:=hv (e2.trans g)
 all_goals
  rw[e.1]at cw;rw[e.2]at cl
  (repeat first|refine⟨λh=>absurd h (by decide),λ_=>?_⟩|refine⟨λ_=>?_,λh=>absurd h (by decide)⟩)
  refine Or.inr (Or.inr (Or.inl ⟨[0,1,2,3,4,5,7,8,9,10,11,12,6,14,13,15,16,17],12,[7,11,10,9,13,8,6],by kernel_rfl,?_⟩));refine⟨trivial,cA (by rw[aG];rfl) ⟨Nat.le_of_eq (Nat.zero_add _),bw,_,ij rfl,_,cw,?_⟩⟩;refine⟨(by repeat' first|exact trivial|rfl|exact⟨_,rfl,rfl⟩|refine⟨?_,?_⟩),?_⟩
  refine⟨(by repeat' first|exact trivial|rfl|exact⟨_,rfl,rfl⟩|refine⟨?_,?_⟩),?_⟩
  refine⟨trivial,cA (by rw[aG];rfl) ⟨Nat.le_of_eq (Nat.zero_add _),bl,_,ij rfl,_,cl,?_⟩⟩;refine⟨(by repeat' first|exact trivial|rfl|exact⟨_,rfl,rfl⟩|refine⟨?_,?_⟩),?_⟩
  refine⟨(by repeat' first|exact trivial|rfl|exact⟨_,rfl,rfl⟩|refine⟨?_,?_⟩),?_⟩
  refine⟨(by repeat' first|exact trivial|rfl|exact⟨_,rfl,rfl⟩|refine⟨?_,?_⟩),?_⟩
  refine⟨(by repeat' first|exact trivial|rfl|exact⟨_,rfl,rfl⟩|refine⟨?_,?_⟩),?_⟩
  refine⟨_,hw,?_⟩;exact⟨⟨rfl,rfl⟩,⟨i+1,g1+1,g2+1,bC,rfl⟩,less⟩
theorem SF(a b c:Int):DN 196 [.agg [.int .i64 a,.int .i64 b,.int .i64 c]] (.int .i64 (CB a b c)):=by
 refine dX Tryz.func196 Tryz.call196 rfl rfl ?_;unfold CB;refine⟨λh=>?_,λh=>?_⟩
 .rw[if_pos (of_decide_eq_true h)];rfl
 rw[if_neg (of_decide_eq_false h)];refine⟨λh=>?_,λh=>?_⟩
 .rw[if_pos (of_decide_eq_true h)];rfl
 rw[if_neg (of_decide_eq_false h)];refine⟨λh=>?_,λh=>?_⟩
 .rw[if_pos (of_decide_eq_true h)];rfl
 rw[if_neg (of_decide_eq_false h)];rfl
def sE(h:Hull)(q:Int)(w:Int):Int×Int×Int:=wF h (h.parts.map (LU h q)) (h.parts.map (Fc h q)) w h.parts.length
theorem SG(h:Hull)(uJ:h.parts.length<=10)(w:Int):DN 197 [.agg h.enc,.int .i64 w] (.agg [.int .i64 (sE h 1 w).1,.int .i64 (sE h 2 w).2.1,.int .i64 (sE h 3 w).2.2]):=by
 have h2:=λq=>SE h uJ (h.parts.map (LU h q)) (h.parts.map (Fc h q)) (List.length_map ..) (List.length_map ..) w;refine dX Tryz.func197 Tryz.call197 rfl rfl ?_;refine Or.inl ⟨by kernel_rfl,?_⟩;refine⟨_,rfl,_,Fe h uJ 1 (.inl rfl),?_⟩;refine⟨_,rfl,_,h2 1,?_⟩;refine⟨_,rfl,_,Fe h uJ 2 (.inr (.inl rfl)),?_⟩;refine⟨_,rfl,_,h2 2,?_⟩;refine⟨_,rfl,_,Fe h uJ 3 (.inr (.inr rfl)),?_⟩;refine⟨_,rfl,_,h2 3,?_⟩;rfl
def Ff(h:Hull)(w:Int):Int:=CB (sE h 1 w).1 (sE h 2 w).2.1 (sE h 3 w).2.2
def lK(h:Hull)(hi:Int):Nat->Int->Int×Int
 |0,_=>(0,0)
 |f+1,w=>if w<=hi then(if Ff h w≠0 then(Ff h w,w)else lK h hi f (w+1))else(0,0)
theorem SH(h:Hull)(uJ:h.parts.length<=10)(lo hi:Int)(h0:0<=lo)(h2:hi<=1000):DN 109 [.agg h.enc,.agg (iD lo hi)] (.b9 [.int .i64 (lK h hi 2000 lo).1,.int .i64 (lK h hi 2000 lo).2]):=by
 refine dX Tryz.func109 Tryz.call109 rfl rfl ?_;refine⟨[2,3,6],2,[],λU=>∃(f:Nat)(w:Int),0<=w/\hi-w<f/\lK h hi 2000 lo=lK h hi f w/\U=⟨[(2,.loc 0 0),(3,.loc 1 0),(6,.int .i64 w)],[.flat false h.enc,.flat false (iD lo hi)],.aQ⟩,
  λU=>(2000-aZ 6 U).toNat,rfl,⟨rfl,rfl⟩,⟨2000,lo,h0,by omega,rfl,rfl⟩,?_⟩
 rintro U⟨f,w,hw,hf,hr,rfl⟩;refine⟨λh3=>?_,λh3=>?_⟩
 rotate_left
 .have h3:=of_decide_eq_false h3
  have e:lK h hi 2000 lo=(0,0):=by
   rw[hr];cases f with
   |zero=>rfl
   |succ f=>show(if w<=hi then _ else((0:Int),(0:Int)))=_;rw[if_neg h3]
  rw[e];rfl
 have h3:=of_decide_eq_true h3;obtain⟨g,rfl⟩:∃g,f=g+1:=⟨f-1,by omega⟩;have hr:lK h hi 2000 lo=if w<=hi then(if Ff h w≠0 then(Ff h w,w)else lK h hi g (w+1))else(0,0):=hr
 rw[if_pos h3]at hr;refine⟨_,rfl,_,SG h uJ w,?_⟩;refine⟨_,rfl,_,(show DN 196 _ (.int .i64 (Ff h w))from SF _ _ _),?_⟩;refine⟨λh4=>?_,λh4=>?_⟩
 .have h4:(Ff h w !=0)=true:=h4
  rw[if_pos (by simpa using h4)]at hr;rw[hr];rfl
 have h4:(Ff h w !=0)=false:=h4;rw[if_neg (by simpa using h4)]at hr;refine⟨w+1,wrap64 (by omega) (by omega),?_⟩;refine⟨⟨rfl,rfl⟩,⟨g,w+1,by omega,by omega,hr,rfl⟩,?_⟩;show(2000-(w+1)).toNat<(2000-w).toNat;omega
theorem SI(e lo hi:Int):DN 108 [.int .i64 e,.agg (iD lo hi)] (.int .i64 (if e=0 then dt lo hi 0 1000 else e)):=by
 refine dX Tryz.func108 Tryz.call108 rfl rfl ?_;refine⟨λh=>?_,λh=>?_⟩
 .rw[if_pos (Io h)]
  exact⟨_,rfl,_,As lo hi 0 1000,rfl⟩
 rw[if_neg (GG h)];rfl
theorem Xh(h:Hull)(hl:h.parts.length<9223372036854775808)(lo hi:Int):∃a b e,DN 27 [.agg h.enc,.agg (iD lo hi)] (nj a b e)/\(e=0->h.Ok/\0<=lo/\lo<=hi/\hi<=1000):=by
 have h1:=Qb h hl;obtain⟨⟨o1,o2,o3⟩,ho⟩:∃o,mT h=o:=⟨_,rfl⟩;rw[ho]at h1;have h2:=SI o3 lo hi;by_cases he:(if o3=0 then dt lo hi 0 1000 else o3)=0
 · have h3:o3=0:=by
     split at he
     .assumption
     exact he
   rw[if_pos h3]at he;have du:h.Ok:=CM (by rw[ho];exact h3);have hr:=oT he;refine⟨(lK h hi 2000 lo).1,(lK h hi 2000 lo).2,0,?_,λ_=>⟨du,hr.1,hr.2.1,hr.2.2⟩⟩;refine dX Tryz.func27 Tryz.call27 rfl rfl ?_;rw[if_pos h3,he]at h2;refine⟨_,rfl,_,h1,?_⟩;refine⟨_,rfl,_,h2,?_⟩;refine⟨λh=>absurd h (by decide),λ_=>?_⟩;refine⟨_,rfl,_,SH h du.uJ lo hi hr.1 hr.2.2,?_⟩;rfl
 .refine⟨0,0,_,?_,λh=>absurd h he⟩
  refine dX Tryz.func27 Tryz.call27 rfl rfl ?_;refine⟨_,rfl,_,h1,?_⟩;refine⟨_,rfl,_,h2,?_⟩;obtain⟨v,hv⟩:∃v,(if o3=0 then dt lo hi 0 1000 else o3)=v:=⟨_,rfl⟩;rw[hv]at he⊢;refine⟨λ_=>rfl,λh=>?_⟩;have h:(v !=0)=false:=h;exact absurd (by simpa using h) he
def eQ(s:ByteArray)(x:Hp):Bool:=bW x.name s
theorem Fg(l:List Hp)(s:ByteArray)(hl:l.length<9223372036854775808):DN 189 [.list 7 (l.map Hp.enc),.str s] (.int .i64 (aY (eQ s) l 0)):=by
 refine dX Tryz.func189 Tryz.call189 rfl rfl ?_;have hlen:=bD Hp.enc l;refine⟨[0,1,5],0,[],λU=>∃i:Nat,i<=l.length/\aY (eQ s) l 0=aY (eQ s) (l.drop i) i/\U=⟨[(0,.list 7 (l.map Hp.enc)),(1,.str s),(5,.int .i64 i)],[],.aQ⟩,λU=>((l.length:Int)-aZ 5 U).toNat,rfl,⟨rfl,rfl⟩,⟨0,Nat.zero_le _,rfl,rfl⟩,?_⟩;rintro U⟨i,hi,hf,rfl⟩;refine⟨λh1=>?_,λh1=>?_⟩
 .have h1:=of_decide_eq_true h1
  rw[hlen]at h1;have bC:i<l.length:=by omega
  have aI:=aV (e:=Hp.enc) (List.getElem?_eq_getElem bC);have ea:l.drop i=l[i]::l.drop (i+1):=List.drop_eq_getElem_cons bC;rw[ea,aY]at hf;refine⟨by omega,_,aI,?_⟩;refine⟨λh2=>?_,λh2=>?_⟩
  .have h2:eQ s l[i]=true:=h2
   rw[h2]at hf;show some (D.int .i64 (i:Int))=some (D.int .i64 _);rw[hf]
  have h2:eQ s l[i]=false:=h2;rw[h2]at hf;refine⟨_,wrap64 (by omega) (by omega),?_⟩;refine⟨⟨rfl,rfl⟩,⟨i+1,bC,hf,rfl⟩,?_⟩;show((l.length:Int)-((i:Int)+1)).toNat<((l.length:Int)-(i:Int)).toNat;omega
 have h1:=of_decide_eq_false h1;rw[hlen]at h1;show some (D.int .i64 (-1))=some (D.int .i64 _);rw[hf,List.drop_of_length_le (by omega)];rfl
theorem mC{α:Type}(p:α->Bool):∀(l:List α)(k:Int),(aY p l k=-1/\l.any p=false)\/∃(j:Nat)(x:α),aY p l k=k+j/\l[j]?=some x/\p x=true/\(l.take j).any p=false
 |[],_=>.inl ⟨rfl,rfl⟩
 |x::r,k=>by
  unfold aY;cases hx:p x with
  |true=>exact .inr ⟨0,x,by simp,rfl,hx,rfl⟩
  |false=>
   rcases mC p r (k+1)with⟨h1,h2⟩|⟨j,y,h1,h2,h3,h4⟩
   .exact .inl ⟨h1,by simp[hx,h2]⟩
   exact .inr ⟨j+1,y,(show aY p r (k+1)=k+((j+1:Nat):Int)by rw[h1];omega),h2,h3,by simp[hx,h4]⟩
theorem Ir{α:Type}(p:α->Bool)(l:List α):-1<=aY p l 0/\aY p l 0<l.length:=by
 rcases mC p l 0 with⟨h1,_⟩|⟨j,x,h1,h2,_,_⟩
 .rw[h1];omega
 have:=(List.getElem?_eq_some_iff.1 h2).1;rw[h1];omega
def wJ(x y:Hp):Bool:=decide (max x.first y.first<=min x.last y.last)
theorem SJ(x y:Hp):DN 192 [.agg x.enc,.agg y.enc] (.bool (wJ x y)):=by
 refine dX Tryz.func192 Tryz.call192 rfl rfl ?_;rfl
def rv(f:Nat->Bool):Nat->Nat->Bool
 |0,_=>false
 |r+1,i=>f i||rv f r (i+1)
theorem sF{f:Nat->Bool}{n i:Nat}(h:i<n):rv f (n-i) i=(f i||rv f (n-(i+1)) (i+1)):=by
 rw[show n-i=(n-(i+1))+1 by omega];rfl
theorem mD{f:Nat->Bool}:∀{r i:Nat},rv f r i=false->∀j,i<=j->j<i+r->f j=false
 |0,i,_,j,h1,h2=>by omega
 |r+1,i,h,j,h1,h2=>by
  unfold rv at h;rw[Bool.or_eq_false_iff]at h;by_cases e:j=i
  .subst e;exact h.1
  exact mD h.2 j (by omega) (by omega)
def ry(b:List Hp)(on:List ByteArray)(i:Nat):Bool:=match on[i]? with|some s=>decide (aY (eQ s) b 0<0)|none=>false
def sG(on:List ByteArray)(i:Nat):Bool:=match on[i]? with|some s=>decide (aY (λx=>bW x s) (on.take i) 0>=0)|none=>false
def sH(b:List Hp)(x:Hp)(i:Nat):Bool:=match x.on[i]? with
 |some s=>(match b[(aY (eQ s) b 0).toNat]? with|some y=>!(wJ x y)|none=>true)
 |none=>false
def onE(b:List Hp)(x:Hp):Int:=if rv (ry b x.on) x.on.length 0=true then 4 else if rv (sG x.on) x.on.length 0=true then 5 else if rv (sH b x) x.on.length 0=true then 9 else 0
def tM(b:List Hp)(x:Hp):Int:=
 if dH x.name=true then
  if aY (eQ x.name) b 0>=0 then 5 else
   if qg x.kind 1 5=true/\qg x.first 0 40=true/\qg x.last 0 40=true/\dt x.tI x.uH 1 1000000≠7 then
    if x.first>x.last\/dt x.tI x.uH 1 1000000≠0 then 2 else onE b x
   else 7
 else 6
theorem SK(b:List Hp)(x:Hp)(hb:b.length<9223372036854775808)(hx:x.on.length<9223372036854775808):DN 101 [.agg x.enc,.list 7 (b.map Hp.enc),.list 7 (b.map Hp.enc)] (.int .i64 (tM b x)):=by
 have hlen:=bD eM x.on;obtain⟨out,bp⟩:∃o,tM b x=o:=⟨_,rfl⟩;rw[bp];unfold tM at bp;refine dX Tryz.func101 Tryz.call101 rfl rfl ?_;refine⟨_,rfl,_,E3 x.name,?_⟩;refine⟨λq=>?_,λq=>?_⟩
 .rw[if_neg (by rw[rk q];decide)]at bp
  subst bp;rfl
 rw[if_pos (qc q)]at bp;refine⟨_,rfl,_,Fg b x.name hb,?_⟩;refine⟨λq=>?_,λq=>?_⟩
 .rw[if_pos (of_decide_eq_true q)]at bp
  subst bp;rfl
 rw[if_neg (of_decide_eq_false q)]at bp;have Xi:=As x.tI x.uH 1 1000000;obtain⟨rg,hrg⟩:∃a,dt x.tI x.uH 1 1000000=a:=⟨_,rfl⟩;rw[hrg]at bp Xi;refine⟨_,rfl,_,Xi,?_⟩;have bad:¬(qg x.kind 1 5=true/\qg x.first 0 40=true/\qg x.last 0 40=true/\rg≠7)->some (D.int .i64 7)=some (D.int .i64 out):=λh=>by rw[if_neg h]at bp;rw[bp]
 refine⟨_,rfl,_,sw x.kind 1 5,?_⟩;refine⟨λh=>?_,λh=>?_⟩
 .exact bad λq=>by rw[rk h]at q;cases q.1
 have e1:=qc h;refine⟨_,rfl,_,sw x.first 0 40,?_⟩;refine⟨λh=>?_,λh=>?_⟩
 .exact bad λq=>by rw[rk h]at q;cases q.2.1
 have e2:=qc h;refine⟨_,rfl,_,sw x.last 0 40,?_⟩;refine⟨λh=>?_,λh=>?_⟩
 .exact bad λq=>by rw[rk h]at q;cases q.2.2.1
 have e3:=qc h;refine⟨λh=>?_,λh=>?_⟩
 .have h:(rg==7)=true:=h
  exact bad λq=>q.2.2.2 (by simpa using h)
 have e4:(rg==7)=false:=h;rw[if_pos ⟨e1,e2,e3,by simpa using e4⟩]at bp;have Xj:x.first>x.last\/rg≠0->some (D.int .i64 2)=some (D.int .i64 out):=λh=>by rw[if_pos h]at bp;rw[bp]
 refine⟨λh=>?_,λh=>?_⟩
 .exact Xj (.inl (of_decide_eq_true h))
 have e5:=of_decide_eq_false h;refine⟨λh=>?_,λh=>?_⟩
 .have h:(rg !=0)=true:=h
  exact Xj (.inr (by simpa using h))
 have e6:(rg !=0)=false:=h;rw[if_neg (λh=>h.elim e5 (by simpa using e6))]at bp;unfold onE at bp;refine⟨[1,3,8],1,[],λU=>∃i:Nat,i<=x.on.length/\rv (ry b x.on) x.on.length 0=rv (ry b x.on) (x.on.length-i) i/\(∀j,j<i->ry b x.on j=false)/\U=⟨[(1,.list 7 (b.map Hp.enc)),(3,.loc 0 0),(8,.int .i64 i)],[.flat false x.enc],.aQ⟩,
  λU=>((x.on.length:Int)-aZ 8 U).toNat,rfl,⟨rfl,rfl⟩,⟨0,Nat.zero_le _,rfl,λj h=>absurd h (Nat.not_lt_zero j),rfl⟩,?_⟩
 rintro U⟨i,hi,ha,Dx,rfl⟩;refine⟨λh4=>?_,λh4=>?_⟩
 .have h4:=of_decide_eq_true h4
  rw[hlen]at h4;have bC:i<x.on.length:=by omega
  obtain⟨s,hs⟩:∃s,x.on[i]?=some s:=⟨_,List.getElem?_eq_getElem bC⟩;have less:((x.on.length:Int)-((i:Int)+1)).toNat<((x.on.length:Int)-(i:Int)).toNat:=by omega
  rw[sF bC]at ha;have hL:ry b x.on i=decide (aY (eQ s) b 0<0):=by unfold ry;rw[hs]
  refine⟨by omega,_,aV (e:=eM) hs,?_⟩;refine⟨_,rfl,_,Fg b s hb,?_⟩;refine⟨λh5=>?_,λh5=>?_⟩
  .rw[hL,h5,Bool.true_or]at ha
   rw[if_pos ha]at bp;subst bp;rfl
  rw[hL,h5,Bool.false_or]at ha;refine⟨(i:Int)+1,wrap64 (by omega) (by omega),?_⟩;refine⟨⟨rfl,rfl⟩,⟨i+1,bC,ha,λj hj=>?_,rfl⟩,less⟩;by_cases e:j=i
  .subst e;rw[hL,h5]
  exact Dx j (by omega)
 have h4:=of_decide_eq_false h4;rw[hlen]at h4;rw[show x.on.length-i=0 by omega]at ha;rw[if_neg (λe=>by rw[ha]at e;exact nt e)]at bp;replace Dx:∀j,j<x.on.length->ry b x.on j=false:=λj hj=>Dx j (by omega);clear ha h4 hi;refine⟨[1,3,9],1,[],λU=>∃i:Nat,i<=x.on.length/\rv (sG x.on) x.on.length 0=rv (sG x.on) (x.on.length-i) i/\U=⟨[(1,.list 7 (b.map Hp.enc)),(3,.loc 0 0),(9,.int .i64 i)],[.flat false x.enc],.aQ⟩,
  λU=>((x.on.length:Int)-aZ 9 U).toNat,rfl,⟨rfl,rfl⟩,⟨0,Nat.zero_le _,rfl,rfl⟩,?_⟩
 rintro U⟨i,hi,ha,rfl⟩;refine⟨λh4=>?_,λh4=>?_⟩
 .have h4:=of_decide_eq_true h4
  rw[hlen]at h4;have bC:i<x.on.length:=by omega
  obtain⟨s,hs⟩:∃s,x.on[i]?=some s:=⟨_,List.getElem?_eq_getElem bC⟩;have less:((x.on.length:Int)-((i:Int)+1)).toNat<((x.on.length:Int)-(i:Int)).toNat:=by omega
  rw[sF bC]at ha;have hL:sG x.on i=decide (aY (λx=>bW x s) (x.on.take i) 0>=0):=by unfold sG;rw[hs]
  refine Or.inl ⟨by kernel_rfl,?_⟩;refine⟨⟨by omega,by rw[hlen];omega⟩,_,(List.map_take ..).symm,?_⟩;refine⟨by omega,_,aV (e:=eM) hs,?_⟩;refine⟨_,rfl,_,LD (x.on.take i) s (by rw[List.length_take];omega),?_⟩;refine⟨λh5=>?_,λh5=>?_⟩
  .rw[hL,h5,Bool.true_or]at ha
   rw[if_pos ha]at bp;subst bp;rfl
  rw[hL,h5,Bool.false_or]at ha;refine⟨(i:Int)+1,wrap64 (by omega) (by omega),?_⟩;exact⟨⟨rfl,rfl⟩,⟨i+1,bC,ha,rfl⟩,less⟩
 have h4:=of_decide_eq_false h4;rw[hlen]at h4;rw[show x.on.length-i=0 by omega]at ha;rw[if_neg (λe=>by rw[ha]at e;exact nt e)]at bp;clear ha h4 hi;refine⟨[1,3,10],1,[],λU=>∃i:Nat,i<=x.on.length/\rv (sH b x) x.on.length 0=rv (sH b x) (x.on.length-i) i/\U=⟨[(1,.list 7 (b.map Hp.enc)),(3,.loc 0 0),(10,.int .i64 i)],[.flat false x.enc],.aQ⟩,
  λU=>((x.on.length:Int)-aZ 10 U).toNat,rfl,⟨rfl,rfl⟩,⟨0,Nat.zero_le _,rfl,rfl⟩,?_⟩
 rintro U⟨i,hi,ha,rfl⟩;refine⟨λh4=>?_,λh4=>?_⟩
 .have h4:=of_decide_eq_true h4
  rw[hlen]at h4;have bC:i<x.on.length:=by omega
  obtain⟨s,hs⟩:∃s,x.on[i]?=some s:=⟨_,List.getElem?_eq_getElem bC⟩;have less:((x.on.length:Int)-((i:Int)+1)).toNat<((x.on.length:Int)-(i:Int)).toNat:=by omega
  rw[sF bC]at ha;have hk:=Dx i bC;unfold ry at hk;rw[hs]at hk;have hk:0<=aY (eQ s) b 0:=by have:=of_decide_eq_false hk;omega
  have hbn:=(Ir (eQ s) b).2;have Xk:=Fg b s hb;obtain⟨k,rI⟩:∃k:Nat,aY (eQ s) b 0=k:=⟨(aY (eQ s) b 0).toNat,by omega⟩;obtain⟨y,hy⟩:∃y,b[k]?=some y:=⟨_,List.getElem?_eq_getElem (by omega)⟩;have hL:sH b x i=!(wJ x y):=by unfold sH;rw[hs];simp only[rI,toN,hy]
  rw[rI]at Xk;refine Or.inl ⟨by kernel_rfl,?_⟩;refine⟨by omega,_,aV (e:=eM) hs,?_⟩;refine⟨_,rfl,_,Xk,?_⟩;refine⟨by omega,_,aV (e:=Hp.enc) hy,?_⟩;refine⟨_,rfl,_,SJ x y,?_⟩;refine⟨λh5=>?_,λh5=>?_⟩
  .have h5:(!(wJ x y))=true:=h5
   rw[hL,h5,Bool.true_or]at ha;rw[if_pos ha]at bp;subst bp;rfl
  have h5:(!(wJ x y))=false:=h5;rw[hL,h5,Bool.false_or]at ha;refine⟨(i:Int)+1,wrap64 (by omega) (by omega),?_⟩;exact⟨⟨rfl,rfl⟩,⟨i+1,bC,ha,rfl⟩,less⟩
 have h4:=of_decide_eq_false h4;rw[hlen]at h4;rw[show x.on.length-i=0 by omega]at ha;rw[if_neg (λe=>by rw[ha]at e;exact nt e)]at bp;subst bp;rfl
def Au(ps:List Hp)(i:Nat):Int:=match ps[i]? with
 |none=>0
 |some x=>tM (ps.take i) x
def mU(ps:List Hp):Int×Int×Int:=if(ps.length:Int)>12 then(1,0,3)else match gD (Au ps) ps.length 0 with
 |some (i,e)=>(1,i,e)
 |none=>(0,0,0)
structure sJ(ps:List Hp):Prop where
 Xl:ps.length<=12
 part:∀i x,ps[i]?=some x->tM (ps.take i) x=0
theorem LV{ps:List Hp}(h:(mU ps).2.2=0):sJ ps:=by
 unfold mU at h;split at h
 .cases h
 rename_i h1;cases hb:gD (Au ps) ps.length 0 with
 |some x=>obtain⟨i,e⟩:=x;rw[hb]at h;exact absurd h (j6 hb)
 |none=>
  refine⟨by omega,λi x hi=>?_⟩;have:=j5 hb i (Nat.zero_le _) (by have:=(List.getElem?_eq_some_iff.1 hi).1;omega);unfold Au at this;rw[hi]at this;exact this
theorem Xm(ps:List Hp)(hl:ps.length<9223372036854775808)(ho:∀x∈ps,x.on.length<9223372036854775808):DN 25 [.agg [.list 7 (ps.map Hp.enc),.list 0 []]] (nj (mU ps).1 (mU ps).2.1 (mU ps).2.2):=by
 have hlen:=bD Hp.enc ps;obtain⟨⟨o1,o2,o3⟩,bp⟩:∃o,mU ps=o:=⟨_,rfl⟩;rw[bp];unfold mU at bp;refine dX Tryz.func25 Tryz.call25 rfl rfl ?_;refine⟨λq=>?_,λq=>?_⟩
 .have q:=of_decide_eq_true q
  rw[hlen]at q;rw[if_pos q]at bp;cases bp;rfl
 have q:=of_decide_eq_false q;rw[hlen]at q;rw[if_neg q]at bp;refine⟨[1,5,6],1,[],λU=>∃i:Nat,i<=ps.length/\gD (Au ps) ps.length 0=gD (Au ps) (ps.length-i) i/\
  U=⟨[(1,.loc 0 0),(5,.list 7 (ps.map Hp.enc)),(6,.int .i64 i)],[.flat false [.list 7 (ps.map Hp.enc),.list 0 []]],.aQ⟩,
  λU=>(1000-aZ 6 U).toNat,rfl,⟨rfl,rfl⟩,⟨0,Nat.zero_le _,rfl,rfl⟩,?_⟩
 rintro U⟨i,hi,hb,rfl⟩;refine⟨λh4=>?_,λh4=>?_⟩
 .have h4:=of_decide_eq_true h4
  rw[hlen]at h4;have bC:i<ps.length:=by omega
  obtain⟨x,hx⟩:∃x,ps[i]?=some x:=⟨_,List.getElem?_eq_getElem bC⟩;have less:(1000-((i:Int)+1)).toNat<(1000-(i:Int)).toNat:=by omega
  rw[lZ bC]at hb;have hE:Au ps i=tM (ps.take i) x:=by unfold Au;rw[hx]
  have Xn:=SK (ps.take i) x (by rw[List.length_take];omega) (ho x (List.mem_of_getElem? hx));have mf:(ps.map Hp.enc).take ((i:Int)).toNat=(ps.take i).map Hp.enc:=(List.map_take ..).symm;rw[<-hE]at Xn;refine Or.inl ⟨by kernel_rfl,?_⟩;refine⟨by omega,_,aV (e:=Hp.enc) hx,?_⟩;refine⟨⟨by omega,by rw[hlen];omega⟩,_,mf,?_⟩;refine⟨⟨by omega,by rw[hlen];omega⟩,_,mf,?_⟩;refine⟨_,rfl,_,Xn,?_⟩;refine⟨λh6=>?_,λh6=>?_⟩
  .have h6:(Au ps i !=0)=true:=h6
   rw[if_neg (by simpa using h6)]at hb;rw[hb]at bp;cases bp;rfl
  have h6:(Au ps i !=0)=false:=h6;rw[if_pos (by simpa using h6)]at hb;refine⟨(i:Int)+1,wrap64 (by omega) (by omega),?_⟩;exact⟨⟨rfl,rfl⟩,⟨i+1,bC,hb,rfl⟩,less⟩
 have h4:=of_decide_eq_false h4;rw[hlen]at h4;rw[show ps.length-i=0 by omega]at hb;rw[hb]at bp;cases bp;refine⟨λh=>absurd h (by decide),λ_=>?_⟩;refine⟨[1,9],1,[],λU=>U=⟨[(1,.loc 0 0),(9,.int .i64 0)],[.flat false [.list 7 (ps.map Hp.enc),.list 0 []]],.aQ⟩,λ_=>0,rfl,⟨rfl,rfl⟩,rfl,?_⟩;rintro U rfl;exact⟨λh=>absurd h (by decide),λ_=>rfl⟩
theorem SL(x:Hp)(s:ByteArray):DN 204 [.agg x.enc,.ro [.str s]] (.bool (eQ s x)):=by
 refine dX Tryz.func204 Tryz.call204 rfl rfl ?_;rfl
theorem Fh(ps:List Hp)(s:ByteArray)(hl:ps.length<9223372036854775808):DN 117 [.ro [.list 7 (ps.map Hp.enc)],.str s] (.int .i64 (aY (eQ s) ps 0)):=by
 refine dX Tryz.func117 Tryz.call117 rfl rfl ?_;exact⟨_,rfl,_,Lz ⟨λ_=>rfl,λ_=>rfl,λ_=>rfl⟩ (eQ s) ps hl λx _=>SL x s,rfl⟩
theorem SM(y x:Hp):DN 288 [.agg y.enc,.ro x.enc] (.bool (eQ x.name y)):=by
 refine dX Tryz.func288 Tryz.call288 rfl rfl ?_;rfl
theorem SN(b:List Hp)(s:ByteArray)(hl:b.length<9223372036854775808):DN 289 [.str s,.ro [.list 7 (b.map Hp.enc)]] (.bool (decide (aY (eQ s) b 0<0))):=by
 refine dX Tryz.func289 Tryz.call289 rfl rfl ?_;exact⟨_,rfl,_,Fh b s hl,rfl⟩
theorem SO(x y:Hp):DN 292 [.agg x.enc,.agg y.enc] (.bool (decide (x.first<=y.last)&&decide (y.first<=x.last))):=by
 refine dX Tryz.func292 Tryz.call292 rfl rfl ?_;refine⟨λh=>?_,λh=>?_⟩
 .show some (D.bool _)=some (D.bool _)
  rw[h,Bool.true_and]
 show some (D.bool _)=some (D.bool _);rw[h];rfl
theorem SP(l:List ByteArray)(s:ByteArray)(hl:l.length<9223372036854775808):DN 220 [.list 1 (l.map eM),.str s] (.int .i64 (aY (λx=>bW s x) l 0)):=by
 refine dX Tryz.func220 Tryz.call220 rfl rfl ?_;have hlen:=bD eM l;refine⟨[0,1,7,8],0,[],λU=>∃i:Nat,i<=l.length/\aY (λx=>bW s x) l 0=aY (λx=>bW s x) (l.drop i) i/\U=⟨[(0,.list 1 (l.map eM)),(1,.str s),(7,.int .i64 (l.map eM).length),(8,.int .i64 i)],[],.aQ⟩,λU=>((l.length:Int)-aZ 8 U).toNat,rfl,⟨rfl,rfl⟩,⟨0,Nat.zero_le _,rfl,rfl⟩,?_⟩;rintro U⟨i,bC,hf,rfl⟩;refine⟨λh1=>?_,λh1=>?_⟩
 .have h1:=of_decide_eq_true h1
  rw[hlen]at h1;have bC:i<l.length:=by omega
  have aI:=aV (e:=eM) (List.getElem?_eq_getElem bC);have ea:l.drop i=l[i]::l.drop (i+1):=List.drop_eq_getElem_cons bC;rw[ea,aY]at hf;refine⟨by omega,_,aI,?_⟩;refine⟨λh2=>?_,λh2=>?_⟩
  .have h2:bW s l[i]=true:=h2
   rw[h2]at hf;show some (D.int .i64 (i:Int))=some (D.int .i64 _);rw[hf]
  have h2:bW s l[i]=false:=h2;rw[h2]at hf;refine⟨_,wrap64 (by omega) (by omega),?_⟩;refine⟨⟨rfl,rfl⟩,⟨i+1,bC,hf,rfl⟩,?_⟩;show((l.length:Int)-((i:Int)+1)).toNat<((l.length:Int)-(i:Int)).toNat;omega
 have h1:=of_decide_eq_false h1;rw[hlen]at h1;show some (D.int .i64 (-1))=some (D.int .i64 _);rw[hf,List.drop_of_length_le (by omega)];rfl
theorem LW(l:List ByteArray)(s:ByteArray)(hl:l.length<9223372036854775808):DN 181 [.list 1 (l.map eM),.str s] (.bool (l.any λx=>bW s x)):=by
 refine dX Tryz.func181 Tryz.call181 rfl rfl ?_;refine⟨_,rfl,_,SP l s hl,?_⟩;show some (D.bool _)=some (D.bool _);rw[<-eP (λx=>bW s x) l 0 (Int.le_refl 0)]
structure SQ(b:List Hp)(x:Hp):Prop where
 name:dH x.name=true
 fresh:b.any (eQ x.name)=false
 k0:1<=x.kind
 k1:x.kind<=5
 f0:0<=x.first
 f1:x.first<=40
 t0:0<=x.last
 t1:x.last<=40
 fl:x.first<=x.last
 w0:1<=x.tI
 w:x.tI<=x.uH
 w1:x.uH<=1000000
 on:∀s∈x.on,∃(k:Nat)(y:Hp),aY (eQ s) b 0=k/\b[k]?=some y/\wJ x y=true
 once:∀i s,x.on[i]?=some s->((x.on.take i).any λx=>bW x s)=false
theorem LX{b:List Hp}{x:Hp}(h:tM b x=0):SQ b x:=by
 unfold tM at h;split at h
 .rename_i h1
  split at h
  .cases h
  rename_i h2;split at h
  .rename_i h3
   obtain⟨a1,a2,a3,a4⟩:=h3;rw[mB]at a1 a2 a3;split at h
   .cases h
   rename_i h4;have hr:=oT (Decidable.byContradiction λe=>h4 (.inr e));have dN:¬x.first>x.last:=λe=>h4 (.inl e);unfold onE at h;split at h
   .cases h
   rename_i l1;split at h
   .cases h
   rename_i l2;split at h
   .cases h
   rename_i l3;have m1:=mD (Bool.eq_false_iff.2 l1);have m2:=mD (Bool.eq_false_iff.2 l2);have m3:=mD (Bool.eq_false_iff.2 l3);refine⟨h1,?_,a1.1,a1.2,a2.1,a2.2,a3.1,a3.2,by omega,hr.1,hr.2.1,hr.2.2,?_,?_⟩
   .have:=eP (eQ x.name) b 0 (Int.le_refl 0)
    rw[<-this];exact decide_eq_false h2
   .intro s hs
    obtain⟨i,hi⟩:=List.mem_iff_getElem?.1 hs;have hl:=(List.getElem?_eq_some_iff.1 hi).1;have q1:=m1 i (Nat.zero_le _) (by omega);have q3:=m3 i (Nat.zero_le _) (by omega);unfold ry at q1;unfold sH at q3;rw[hi]at q1 q3;have q1:=of_decide_eq_false q1;rcases mC (eQ s) b 0 with⟨e,_⟩|⟨k,y,e1,e2,-,-⟩
    .omega
    rw[Int.zero_add]at e1;simp only[e1,toN,e2]at q3;exact⟨k,y,e1,e2,by simpa using q3⟩
   intro i s hi;have hl:=(List.getElem?_eq_some_iff.1 hi).1;have q2:=m2 i (Nat.zero_le _) (by omega);unfold sG at q2;rw[hi]at q2;have:=eP (λx=>bW x s) (x.on.take i) 0 (Int.le_refl 0);rw[<-this];exact q2
  cases h
 cases h
theorem Xo{lo hi a:Int}(h0:lo<=a)(h1:a<=hi):DN 116 [.int .i64 lo,.int .i64 hi,.list 1 [[.int .i64 a]]] (.bool false):=by
 have:=LB lo hi [a] (by simp);rw[WW h0 h1]at this;exact this
theorem LY{lo hi a b:Int}(h0:lo<=a)(h1:a<=hi)(h2:lo<=b)(h3:b<=hi):DN 116 [.int .i64 lo,.int .i64 hi,.list 1 [[.int .i64 a],[.int .i64 b]]] (.bool false):=by
 have:=LB lo hi [a,b] (by simp);rw[WX h0 h1 h2 h3]at this;exact this
theorem SR(l:List ByteArray)(hl:l.length<9223372036854775808)(h:∀i s,l[i]?=some s->((l.take i).any λx=>bW x s)=false):DN 290 [.list 1 (l.map eM)] (.bool false):=by
 have hlen:=bD eM l;refine dX Tryz.func290 Tryz.call290 rfl rfl ?_;refine⟨[0,5,6,7],0,[],λU=>∃i:Nat,i<=l.length/\U=⟨[(0,.list 1 (l.map eM)),(5,.list 1 (l.map eM)),(6,.int .i64 (l.map eM).length),(7,.int .i64 i)],[],.aQ⟩,λU=>((l.length:Int)-aZ 7 U).toNat,rfl,⟨rfl,rfl⟩,⟨0,Nat.zero_le _,rfl⟩,?_⟩;rintro U⟨i,hi,rfl⟩;refine⟨λh1=>?_,λh1=>rfl⟩;have h1:=of_decide_eq_true h1;rw[hlen]at h1;obtain⟨s,hs⟩:∃s,l[i]?=some s:=⟨_,List.getElem?_eq_getElem (by omega)⟩;have Xp:=LW (l.take i) s (by rw[List.length_take];omega);have hc:((l.take i).any λx=>bW s x)=false:=by
  rw[<-h i s hs];congr 1;funext x;exact E5 s x
 rw[hc]at Xp;refine⟨by omega,_,aV (e:=eM) hs,?_⟩;refine⟨⟨by omega,by rw[hlen];omega⟩,_,(List.map_take ..).symm,?_⟩;refine⟨_,rfl,_,Xp,?_⟩;refine⟨nt,λ_=>?_⟩;refine⟨(i:Int)+1,wrap64 (by omega) (by omega),?_⟩;refine⟨⟨rfl,rfl⟩,⟨i+1,by omega,rfl⟩,?_⟩;show((l.length:Int)-((i:Int)+1)).toNat<((l.length:Int)-(i:Int)).toNat;omega
theorem SS(b:List Hp)(x:Hp)(s:ByteArray)(hl:b.length<9223372036854775808){k:Nat}{y:Hp}(hk:aY (eQ s) b 0=k)(hy:b[k]?=some y)(hm:wJ x y=true):DN 291 [.str s,.ro x.enc,.ro [.list 7 (b.map Hp.enc)]] (.bool false):=by
 have Is:=Fh b s hl;rw[hk]at Is;have Xq:=SO x y;have hm:=of_decide_eq_true hm;rw[decide_eq_true (by omega:x.first<=y.last),decide_eq_true (by omega:y.first<=x.last)]at Xq;refine dX Tryz.func291 Tryz.call291 rfl rfl ?_;refine Or.inl ⟨by kernel_rfl,?_⟩;refine⟨_,rfl,_,Is,?_⟩;refine⟨by omega,_,aV (e:=Hp.enc) hy,?_⟩;refine⟨_,rfl,_,Xq,?_⟩;rfl
theorem SU(ps:List Hp)(hp:sJ ps)(i:Nat)(x:Hp)(hx:ps[i]?=some x)(ho:x.on.length<9223372036854775808):DN 260 [.ro [.list 7 (ps.map Hp.enc)],.agg x.enc,.int .i64 i,.list 0 []] (.int .i64 0):=by
 have hlen:=bD Hp.enc ps;have Xl:=hp.Xl;have hi:=(List.getElem?_eq_some_iff.1 hx).1;have po:=LX (hp.part i x hx);have mO:(ps.take i).length<9223372036854775808:=by rw[List.length_take];omega
 have P4:=GB x.name;rw[po.name]at P4;have Is:=Fh ps x.name (by omega);obtain⟨k,hk,HM⟩:∃k:Nat,aY (eQ x.name) ps 0=k/\i<=k:=by
  rcases mC (eQ x.name) ps 0 with⟨_,e⟩|⟨j,y,e1,e2,e3,-⟩
  .rw[List.any_eq_false]at e
   have:=e x (List.mem_of_getElem? hx);simp[eQ,bW]at this
  refine⟨j,by rw[e1];omega,Nat.le_of_not_lt λhj=>?_⟩;have h1:=po.fresh;rw[List.any_eq_false]at h1;have h2:=h1 y (List.mem_iff_getElem?.2 ⟨j,by rw[List.getElem?_take,if_pos hj];exact e2⟩);exact h2 e3
 rw[hk]at Is;have aa3:DN 287 [.list 0 [],.bR (.func 288) [] [.ro x.enc]] (.bool false):=(Sa (k:=288) (cap:=[.ro x.enc]) ⟨λ_=>rfl,λ_=>rfl,λ_=>rfl⟩ (eQ x.name) [] (by decide) (λy _=>SM y x)).args (.u6 (.nil 0 7) (.u6 (.refl _) .Qs));have Xr:=Ly (k:=289) (cap:=[.ro [.list 7 ((ps.take i).map Hp.enc)]]) ⟨λ_=>rfl,λ_=>rfl,λ_=>rfl⟩ (λ_=>false) x.on ho (λs hs=>by
  have:=SN (ps.take i) s mO;obtain⟨k,y,h1,_,_⟩:=po.on s hs;rw[h1,decide_eq_false (by omega)]at this;exact this)
 have Qd:=Ly (k:=291) (cap:=[.ro x.enc,.ro [.list 7 ((ps.take i).map Hp.enc)]]) ⟨λ_=>rfl,λ_=>rfl,λ_=>rfl⟩ (λ_=>false) x.on ho (λs hs=>by
  obtain⟨k,y,h1,h2,h3⟩:=po.on s hs;exact SS (ps.take i) x s mO h1 h2 h3)
 have vM:(x.on.any λ_=>false)=false:=by rw[List.any_eq_false];intro s _;decide
 rw[vM]at Xr Qd;have mf:(ps.map Hp.enc).take ((i:Int)).toNat=(ps.take i).map Hp.enc:=(List.map_take ..).symm;have a1:=po.k0;have a2:=po.w;have a3:=po.fl;have a4:=po.w0;have a5:=po.w1;refine dX Tryz.func260 Tryz.call260 rfl rfl ?_;refine⟨_,rfl,_,P4,?_⟩;refine⟨nt,λ_=>?_⟩;refine⟨_,rfl,_,Is,?_⟩;refine⟨λ_=>?_,λq=>absurd (of_decide_eq_false q) (by omega)⟩;refine⟨_,rfl,_,Is,?_⟩;refine⟨λq=>absurd (of_decide_eq_true q) (by omega),λ_=>?_⟩;refine⟨_,rfl,_,aa3,?_⟩;refine⟨nt,λ_=>?_⟩;refine⟨_,rfl,_,Xo po.k0 po.k1,?_⟩;refine⟨nt,λ_=>?_⟩;refine⟨_,rfl,_,LY po.f0 po.f1 po.t0 po.t1,?_⟩;refine⟨nt,λ_=>?_⟩;refine⟨_,rfl,_,LY (by omega) (by omega) (by omega) (by omega),?_⟩;refine⟨nt,λ_=>?_⟩;refine⟨λq=>absurd (of_decide_eq_true q) (by omega),λ_=>?_⟩;refine⟨λq=>absurd (of_decide_eq_true q) (by omega),λ_=>?_⟩;refine⟨⟨by omega,by rw[hlen];omega⟩,_,mf,?_⟩;refine⟨_,rfl,_,Xr,?_⟩;refine⟨nt,λ_=>?_⟩;refine⟨_,rfl,_,SR x.on ho po.once,?_⟩;refine⟨nt,λ_=>?_⟩;refine⟨_,rfl,_,Qd,?_⟩;refine⟨nt,λ_=>?_⟩;rfl
def SV:D:=.nk [.int .i64 1,.int .i64 2,.int .i64 3] [.agg [bR 293,bR 294],.agg [bR 295,bR 296],.agg [bR 297,bR 298]]
theorem SW:DN 261 [] SV:=by
 refine dX Tryz.func261 Tryz.call261 rfl rfl ?_;refine⟨none,rfl,_,_,⟨rfl,rfl⟩,?_⟩;refine⟨none,rfl,_,_,⟨rfl,rfl⟩,?_⟩;refine⟨none,rfl,_,_,⟨rfl,rfl⟩,?_⟩;rfl
theorem SX(ps:List Hp)(hp:sJ ps)(ho:∀x∈ps,x.on.length<9223372036854775808):DN 200 [.agg [.list 7 (ps.map Hp.enc),.list 0 []],.int .i64 0] (.b9 [.agg [.list 7 (ps.map Hp.enc)],.int .i64 0,.int .i64 0,.int .i64 0]):=by
 have hlen:=bD Hp.enc ps;have Xl:=hp.Xl;refine dX Tryz.func200 Tryz.call200 rfl rfl ?_;refine⟨λq=>absurd (of_decide_eq_true q) (by rw[hlen];omega),λ_=>?_⟩;refine⟨[1,2,4,8,28,29,30],3,[],λU=>∃i:Nat,i<=ps.length/\U=⟨[(1,.int .i64 0),(2,.loc 0 0),(4,.loc 1 0),(8,.loc 2 0),(28,.list 7 (ps.map Hp.enc)),(29,.int .i64 (ps.map Hp.enc).length),(30,.int .i64 i)],[.flat false [.list 7 (ps.map Hp.enc),.list 0 []],.flat false [.ao],.flat false [.list 7 (ps.map Hp.enc)]],.aQ⟩,
  λU=>(1000-aZ 30 U).toNat,rfl,⟨rfl,rfl⟩,⟨0,Nat.zero_le _,rfl⟩,?_⟩
 rintro U⟨i,hi,rfl⟩;refine⟨λh4=>?_,λh4=>?_⟩
 .have h4:=of_decide_eq_true h4
  rw[hlen]at h4;obtain⟨x,hx⟩:∃x,ps[i]?=some x:=⟨_,List.getElem?_eq_getElem (by omega)⟩;have less:(1000-((i:Int)+1)).toNat<(1000-(i:Int)).toNat:=by omega
  refine⟨by omega,_,aV (e:=Hp.enc) hx,?_⟩;refine⟨_,rfl,_,SU ps hp i x hx (ho x (List.mem_of_getElem? hx)),?_⟩;refine⟨λh=>absurd h (by decide),λ_=>?_⟩;refine⟨(i:Int)+1,wrap64 (by omega) (by omega),?_⟩;exact⟨⟨rfl,rfl⟩,⟨i+1,by omega,rfl⟩,less⟩
 refine⟨λh=>absurd h (by decide),λ_=>?_⟩;refine⟨_,rfl,_,SW,?_⟩;refine⟨[4,53,54],3,[],λU=>U=⟨[(4,.loc 1 0),(53,.int .i64 0),(54,.int .i64 0)],[.flat false [.list 7 (ps.map Hp.enc),.list 0 []],.flat false [.list 7 (ps.map Hp.enc)],.flat false [.list 7 (ps.map Hp.enc)]],.aQ⟩,λ_=>0,rfl,⟨rfl,rfl⟩,rfl,?_⟩;rintro U rfl;exact⟨λh=>absurd h (by decide),λ_=>rfl⟩
theorem SY(ps:List Hp)(hp:sJ ps)(ho:∀x∈ps,x.on.length<9223372036854775808):DN 122 [.agg [.list 7 (ps.map Hp.enc),.list 0 []]] (nj 0 0 0):=by
 refine dX Tryz.func122 Tryz.call122 rfl rfl ?_;refine⟨_,rfl,_,SX ps hp ho,?_⟩;rfl
def tz1(x:Int):Int:=IntKind.u64.wrap (0-x)
def tz2(x:Int):Int:=bits .and .u64 x (tz1 x)
def tz3(x:Int):Int:=IntKind.u64.wrap (tz2 x*285870213051353865)
def Zc(x:Int):Int:=(tz3 x).fdiv (2^(min (58:Int).toNat IntKind.u64.bits))
def tz(x:Nat):Nat:=if x.testBit 0 then 0 else if x.testBit 1 then 1 else if x.testBit 2 then 2 else if x.testBit 3 then 3 else if x.testBit 4 then 4 else if x.testBit 5 then 5 else 6
theorem Xt:∀x:Nat,x<128->0<x->(0<=Zc x/\Zc x<64)/\tz x<7/\Ct[(Zc x).toNat]?=some (tz x:Int):=by decide+kernel
theorem SZ(x:Nat)(hx:x<128)(h0:0<x):DN 322 [.int .u64 x] (.int .i64 (tz x)):=by
 refine dX Tryz.func322 Tryz.call322 rfl rfl ?_;obtain⟨h1,h3,h2⟩:=Xt x hx h0;obtain⟨r1,e1⟩:∃r,tz1 x=r:=⟨_,rfl⟩;obtain⟨r2,e2⟩:∃r,tz2 x=r:=⟨_,rfl⟩;obtain⟨r3,e3⟩:∃r,tz3 x=r:=⟨_,rfl⟩;obtain⟨r4,e4⟩:∃r,Zc x=r:=⟨_,rfl⟩;have f2:bits .and .u64 (x:Int) r1=r2:=by rw[<-e1,<-e2];rfl
 have f3:IntKind.u64.wrap (r2*285870213051353865)=r3:=by rw[<-e2,<-e3];rfl
 have f4:r3.fdiv (2^(min (58:Int).toNat IntKind.u64.bits))=r4:=by rw[<-e3,<-e4];rfl
 have f1:IntKind.u64.wrap (0-(x:Int))=r1:=e1;rw[e4]at h1 h2;clear e1 e2 e3 e4;refine⟨λh=>?_,λ_=>?_⟩
 .have h:=Io h
  omega
 refine⟨r1,f1,?_⟩;refine⟨r2,f2,?_⟩;refine⟨r3,f3,?_⟩;refine⟨by decide,r4,f4,?_⟩;refine⟨h1,r4.toNat,Nat.mul_one _,?_⟩;refine⟨.u8,tz x,?_,?_⟩
 .show(match Ct[0+r4.toNat]? with|some n=>some (IntKind.u8,n)|none=>none)=_
  rw[Nat.zero_add,h2]
 exact⟨_,wrap64 (by omega) (by omega),rfl⟩
theorem S0(x:Nat)(h0:0<x)(hx:x<128):DN 280 [.int .u64 x] (.int .i64 (tz x)):=by
 refine dX Tryz.func280 Tryz.call280 rfl rfl ?_;exact⟨_,rfl,_,SZ x hx h0,rfl⟩
def GI:Nat->Nat->List Nat
 |0,_=>[]
 |f+1,x=>match Nat.beq x 0 with
  |true=>[]
  |false=>tz x::GI f (x&&&(x-1))
theorem yv:∀(f x:Nat),rp tz f x=(GI f x).map l9
 |0,_=>rfl
 |f+1,x=>by
  unfold rp GI;cases Nat.beq x 0 with
  |true=>rfl
  |false=>simp only[yv f,List.map_cons];rfl
def elems(n:Nat):List Nat:=(List.range 7).filter λi=>n.testBit i
theorem CN:∀n:Nat,n<128->GI n n=elems n:=by decide+kernel
theorem Fi(n:Nat)(hn:n<128):IT 279 [.ro [.int .i64 n]] ((elems n).map l9):=by
 have h:=WN tz S0 n hn;rw[yv,CN n hn]at h;exact h
def Av(n:Int)(i:Nat):Bool:=bits .and .i64 (n.fdiv (2^(min (i:Int).toNat IntKind.i64.bits))) 1==1
theorem LZ(n:Int)(i:Nat):DN 255 [.int .i64 n,.int .i64 i] (.bool (Av n i)):=by
 refine dX Tryz.func255 Tryz.call255 rfl rfl ?_;exact⟨by omega,_,rfl,_,rfl,rfl⟩
theorem L2:∀m:Nat,m<8->∀g:Nat,g<m->Av ((2^m-1:Nat):Int) g=true:=by decide+kernel
structure Rp where
 fr:Int
 to:Int
 gE:Bool
def Rp.enc(p:Rp):List D:=[.int .i64 p.fr,.int .i64 p.to,.bool p.gE]
structure Nt where
 ad:List Tk
 ai:List Rp
def Nt.enc(n:Nt):List D:=[.list 2 (n.ad.map Tk.enc),.list 3 (n.ai.map Rp.enc)]
structure Vs where
 eR:Int
 off:Bool
def Vs.enc(x:Vs):List D:=[.int .i64 x.eR,.bool x.off]
structure Task where
 ar:List Hp
 hull:Hull
 lo:Int
 hi:Int
 net:Nt
 blanks:List Int
 steps:List Vs
 ad:List (List Int)
def qh(l:List Int):List D:=[.list 1 (l.map aC)]
def Task.enc(t:Task):List D:=[.list 7 (t.ar.map Hp.enc),.list 7 (t.hull.parts.map Pt.enc),.int .i64 t.hull.mA,.int .i64 t.hull.fv,.int .i64 t.lo,.int .i64 t.hi,.list 2 (t.net.ad.map Tk.enc),.list 3 (t.net.ai.map Rp.enc),.list 1 (t.blanks.map aC),.list 2 (t.steps.map Vs.enc),.list 1 (t.ad.map qh)]
def jK(t:Task)(above:List Int)(gas:Int)(c:Nat):List D:=t.enc++[.list 1 (above.map aC),.int .i64 gas,.dY c]
theorem Xu(t:Task)(above:List Int)(gas:Int)(c:Nat)(h:above.length<=7):DN 99 [.ro (jK t above gas c)] (.int .i64 ((2^above.length-1:Nat):Int)):=by
 have hlen:=bD aC above;refine dX Tryz.func99 Tryz.call99 rfl rfl ?_;have h1:=R6 above.length (by omega);have h2:2^above.length<2^61:=Nat.pow_lt_pow_right (by decide) (by omega);have h3:1<=2^above.length:=Nat.one_le_two_pow;refine⟨by omega,((2^above.length:Nat):Int),(by rw[hlen];exact h1),?_⟩;refine⟨((2^above.length-1:Nat):Int),(by rw[Int.natCast_sub h3];exact wrap64 (by omega) (by omega)),?_⟩;rfl
theorem S3(S:List D)(n:Int)(i:Nat):DN 184 [.ro S,.int .i64 n,.int .i64 i] (.bool (!(Av n i))):=by
 refine dX Tryz.func184 Tryz.call184 rfl rfl ?_;exact⟨_,rfl,_,LZ n i,rfl⟩
theorem S4(t:Task)(above:List Int)(gas:Int)(c:Nat)(n i:Nat)(a:Int)(ha:above[i]?=some a):DN 185 [.ro (jK t above gas c),.int .i64 n,.int .i64 i] (.bool (bits .and .i64 n a !=0)):=by
 refine dX Tryz.func185 Tryz.call185 rfl rfl ?_;refine⟨by omega,_,aV (e:=aC) ha,?_⟩;exact⟨_,rfl,rfl⟩
theorem S5(t:Task)(above:List Int)(gas:Int)(c:Nat)(n:Int)(i:Nat):DN 186 [.ro (jK t above gas c),.int .i64 n,.int .i64 i] (.bool (Av gas i)):=by
 refine dX Tryz.func186 Tryz.call186 rfl rfl ?_;exact⟨_,rfl,_,LZ gas i,rfl⟩
def iO(m g:Nat):Nat:=hY (2^m-1) (2^g)
def Hull.less(h:Hull)(g:Nat):Hull:=⟨h.parts.eraseIdx g,h.mA,h.fv⟩
def pick(ps:List Pt)(l:List Nat):List Pt:=l.filterMap (ps[·]?)
theorem CO:∀m:Nat,m<8->2<=m->∀g:Nat,g<m->iO m g≠0/\iO m g<128/\∀i∈elems (iO m g),i<m:=by decide+kernel
theorem Fj:∀m:Nat,m<8->∀g:Nat,g<m->elems (iO m g)=(List.range m).eraseIdx g:=by decide+kernel
theorem Iu(ps:List Pt)(g:Nat)(h7:ps.length<=7)(hg:g<ps.length):pick ps (elems (iO ps.length g))=ps.eraseIdx g:=by
 rw[Fj _ (by omega) g hg]
 match ps,h7,hg with
 |[],_,hg=>exact absurd hg (Nat.not_lt_zero _)
 |[_],_,hg=>match g,hg with|0,_=>rfl
 |[_,_],_,hg=>match g,hg with|0,_=>rfl|1,_=>rfl
 |[_,_,_],_,hg=>match g,hg with|0,_=>rfl|1,_=>rfl|2,_=>rfl
 |[_,_,_,_],_,hg=>match g,hg with|0,_=>rfl|1,_=>rfl|2,_=>rfl|3,_=>rfl
 |[_,_,_,_,_],_,hg=>match g,hg with|0,_=>rfl|1,_=>rfl|2,_=>rfl|3,_=>rfl|4,_=>rfl
 |[_,_,_,_,_,_],_,hg=>match g,hg with|0,_=>rfl|1,_=>rfl|2,_=>rfl|3,_=>rfl|4,_=>rfl|5,_=>rfl
 |[_,_,_,_,_,_,_],_,hg=>match g,hg with|0,_=>rfl|1,_=>rfl|2,_=>rfl|3,_=>rfl|4,_=>rfl|5,_=>rfl|6,_=>rfl
theorem GJ{h:Hull}(ho:h.Ok){g:Nat}(h2:2<=h.parts.length)(hg:g<h.parts.length):(h.less g).Ok:=by
 have hl:(h.parts.eraseIdx g).length=h.parts.length-1:=by rw[List.length_eraseIdx,if_pos hg]
 have hs:(h.parts.eraseIdx g).Sublist h.parts:=List.eraseIdx_sublist ..;have uJ:=ho.uJ;exact⟨by show 1<=(h.parts.eraseIdx g).length;omega,by show(h.parts.eraseIdx g).length<=10;omega,ho.Sh,ho.lt,ho.LG,λx hx=>ho.part x (hs.subset hx),λx hx=>ho.name x (hs.subset hx),ho.diff.sublist hs⟩
def Task.dm(t:Task)(g:Nat):Int:=(dF (t.hull.less g) (pieces (t.hull.less g).parts t.lo t.hi)).1
structure Task.Std(t:Task):Prop where
 hull:t.hull.Ok
 n2:2<=t.hull.parts.length
 n7:t.hull.parts.length<=7
 lo0:0<=t.lo
 le:t.lo<=t.hi
 Ud:t.hi<=1000
theorem Qe{i:Nat}(h:i<=60):IntKind.i64.wrap (1*2^(min (i:Int).toNat IntKind.i64.bits))=((2^i:Nat):Int):=R6 i h
theorem Iv{ps:List Pt}{l:List Nat}{i e:Nat}{x:Pt}(hi:l[i]?=some e)(hx:ps[e]?=some x):(pick ps (l.take i)).map Pt.enc++[x.enc]=(pick ps (l.take (i+1))).map Pt.enc:=by
 unfold pick;rw[List.take_succ,hi];simp[hx]
theorem L3(ps:List Pt)(l:List Nat):(pick ps l).length<=l.length:=List.length_filterMap_le ..
theorem Iw(n:Nat):(elems n).length<=7:=by
 unfold elems;exact Nat.le_trans (List.length_filter_le ..) (by simp)
theorem S6(t:Task)(hs:t.Std)(above:List Int)(gas:Int)(c g:Nat)(hg:g<t.hull.parts.length)(hc:pP c (iO t.hull.parts.length g)=t.dm g):
    DN 187 [.ro (jK t above gas c),.int .i64 ((2^t.hull.parts.length-1:Nat):Int),.int .i64 g] (.bool (t.dm g !=0)):=by
  have n2:=hs.n2;have n7:=hs.n7;have hr:=CO t.hull.parts.length (by omega) n2 g hg;have QX:=Iu t.hull.parts g n7 hg;have hit:=Fi (iO t.hull.parts.length g) hr.2.1;have cY:=GJ hs.hull n2 hg;have Zd:=P8 (t.hull.less g) cY t.lo t.hi hs.lo0 hs.le hs.Ud;obtain⟨m,hm⟩:∃m,t.hull.parts.length=m:=⟨_,rfl⟩;rw[hm]at hr QX hit hc hg n2 n7⊢;obtain⟨v,hv⟩:∃v,t.dm g=v:=⟨_,rfl⟩;have Pq:(dF (t.hull.less g) (pieces (t.hull.less g).parts t.lo t.hi)).1=v:=hv;obtain⟨u,hu⟩:∃u,(dF (t.hull.less g) (pieces (t.hull.less g).parts t.lo t.hi)).2=u:=⟨_,rfl⟩;rw[Pq,hu]at Zd;rw[hv]at hc⊢;have hb:2^m-1<2^62:=Nat.lt_of_le_of_lt (Nat.sub_le _ _) (Nat.pow_lt_pow_right (by decide) (by omega));have jQ:2^g<2^62:=Nat.pow_lt_pow_right (by decide) (by omega);refine dX Tryz.func187 Tryz.call187 rfl rfl ?_;refine⟨by omega,((2^g:Nat):Int),Qe (by omega),?_⟩;refine⟨((iO m g:Nat):Int),mz hb jQ,?_⟩;obtain⟨r,hrr⟩:∃r,iO m g=r:=⟨_,rfl⟩;rw[hrr]at hr QX hit hc⊢;refine⟨λq=>absurd (Io q) (by omega),λ_=>?_⟩;refine⟨?_,?_⟩
  .show some (D.bool (pP c r !=0))=some (D.bool (v !=0))
   rw[hc]
  refine⟨_,rfl,_,Lw r,?_⟩;refine⟨rfl,_,rfl,_,hit,2,[(1,0,7)],λi bs y=>∃gg:Nat,bs=[.flat false [.ro (jK t above gas c)],.flat false [.sl 2 gg 0 ((pick t.hull.parts ((elems r).take i)).map Pt.enc).length,.int .i64 t.hull.mA,.int .i64 t.hull.fv],.rows false gg 7 ((pick t.hull.parts ((elems r).take i)).map Pt.enc)]/\y=.aQ,rfl,rfl,rfl,⟨0,rfl,rfl⟩,?_,?_,?_⟩
  .rintro i q bs y bC⟨gg,rfl,rfl⟩
   rw[List.getElem?_map]at bC;obtain⟨e,he,rfl⟩:=Option.map_eq_some_iff.1 bC;have Kk:=hr.2.2 e (List.mem_of_getElem? he);obtain⟨x,hx⟩:∃x,t.hull.parts[e]?=some x:=⟨_,List.getElem?_eq_getElem (by omega)⟩;have QS:=Iv he hx;have kj:=Nat.le_trans (L3 t.hull.parts ((elems r).take i)) (Nat.le_trans (List.length_take_le' ..) (Iw r));refine Or.inl ⟨by kernel_rfl,?_⟩;refine⟨by omega,_,aV (e:=Pt.enc) hx,?_⟩;refine⟨trivial,cA (by rw[aG];rfl) ⟨Nat.le_of_eq (Nat.zero_add _),?_,_,ij rfl,_,QS,?_⟩⟩
   .rw[List.length_map];show(_+1)*64<=ay;unfold ay;omega
   exact⟨rfl,gg+1,rfl,rfl⟩
  .intro q hq
   obtain⟨p,_,rfl⟩:=List.mem_map.1 hq;exact⟨rfl,rfl⟩
  rintro bs y⟨gg,rfl,rfl⟩;have e:(elems r).take ((elems r).map l9).length=elems r:=List.take_of_length_le (by simp);rw[e,QX];refine Or.inl ⟨by kernel_rfl,?_⟩;refine⟨_,ag (ej (ag (ga rfl rfl) (ag rfl (ag rfl rfl)))) (ag rfl rfl),_,Zd,?_⟩;refine⟨hc.symm,?_⟩;rfl
def wK(a b c d:Bool):Int:=if a=true then 1 else if b=true then 2 else if c=true then 3 else if d=true then 4 else 0
theorem S7(t:Task)(hs:t.Std)(above:List Int)(gas:Int)(c g:Nat)(hg:g<t.hull.parts.length)(a:Int)(ha:above[g]?=some a)(hc:pP c (iO t.hull.parts.length g)=t.dm g):
    DN 100 [.ro (jK t above gas c),.int .i64 ((2^t.hull.parts.length-1:Nat):Int),.int .i64 g] (.int .i64 (wK false (bits .and .i64 ((2^t.hull.parts.length-1:Nat):Int) a !=0) (Av gas g) (t.dm g !=0))):=by
  have n7:=hs.n7;have h1:=S3 (jK t above gas c) ((2^t.hull.parts.length-1:Nat):Int) g;rw[L2 _ (by omega) g hg]at h1;have h2:=S4 t above gas c (2^t.hull.parts.length-1) g a ha;have h3:=S5 t above gas c ((2^t.hull.parts.length-1:Nat):Int) g;have h4:=S6 t hs above gas c g hg hc;obtain⟨b1,e1⟩:∃b,(bits .and .i64 ((2^t.hull.parts.length-1:Nat):Int) a !=0)=b:=⟨_,rfl⟩;obtain⟨b2,e2⟩:∃b,Av gas g=b:=⟨_,rfl⟩;obtain⟨b3,e3⟩:∃b,(t.dm g !=0)=b:=⟨_,rfl⟩;rw[e1]at h2⊢;rw[e2]at h3⊢;rw[e3]at h4⊢;obtain⟨N,hN⟩:∃N:Int,((2^t.hull.parts.length-1:Nat):Int)=N:=⟨_,rfl⟩;obtain⟨S,hS⟩:∃S,jK t above gas c=S:=⟨_,rfl⟩;rw[hN,hS]at h1 h2 h3 h4⊢;refine dX Tryz.func100 Tryz.call100 rfl rfl ?_;refine⟨[1,2,17,18],0,[],λU=>∃k:Nat,(k<=4/\(2<=k->b1=false)/\(3<=k->b2=false)/\(4<=k->b3=false))/\U=⟨[(1,.int .i64 N),(2,.int .i64 g),(17,.agg [.bR (.func 184) [.ro S] [],.bR (.func 185) [.ro S] [],.bR (.func 186) [.ro S] [],.bR (.func 187) [.ro S] []]),(18,.int .i64 k)],[],.aQ⟩,
   λU=>(1000-aZ 18 U).toNat,rfl,⟨rfl,rfl⟩,⟨0,⟨by decide,λh=>absurd h (by decide),λh=>absurd h (by decide),λh=>absurd h (by decide)⟩,rfl⟩,?_⟩
  rintro U⟨k,⟨hk,k2,k3,k4⟩,rfl⟩;have less:(1000-((k:Int)+1)).toNat<(1000-(k:Int)).toNat:=by omega
  have rI:k=0\/k=1\/k=2\/k=3\/k=4:=by omega
  rcases rI with rfl|rfl|rfl|rfl|rfl
  .refine⟨λ_=>?_,λq=>absurd q (by decide)⟩
   refine⟨⟨by decide,by decide⟩,_,rfl,?_⟩;refine⟨_,rfl,_,h1,?_⟩;refine⟨λq=>nt (show false=true from q),λ_=>?_⟩;refine⟨_,wrap64 (by decide) (by decide),?_⟩;exact⟨⟨rfl,rfl⟩,⟨1,⟨by decide,λh=>absurd h (by decide),λh=>absurd h (by decide),λh=>absurd h (by decide)⟩,rfl⟩,less⟩
  .refine⟨λ_=>?_,λq=>absurd q (by decide)⟩
   refine⟨⟨by decide,by decide⟩,_,rfl,?_⟩;refine⟨_,rfl,_,h2,?_⟩;refine⟨λq=>?_,λq=>?_⟩
   .refine⟨_,wrap64 (by decide) (by decide),?_⟩
    rw[q];rfl
   refine⟨_,wrap64 (by decide) (by decide),?_⟩;exact⟨⟨rfl,rfl⟩,⟨2,⟨by decide,λ_=>q,λh=>absurd h (by decide),λh=>absurd h (by decide)⟩,rfl⟩,less⟩
  .refine⟨λ_=>?_,λq=>absurd q (by decide)⟩
   refine⟨⟨by decide,by decide⟩,_,rfl,?_⟩;refine⟨_,rfl,_,h3,?_⟩;have k2:=k2 (by decide);refine⟨λq=>?_,λq=>?_⟩
   .refine⟨_,wrap64 (by decide) (by decide),?_⟩
    rw[k2,q];rfl
   refine⟨_,wrap64 (by decide) (by decide),?_⟩;exact⟨⟨rfl,rfl⟩,⟨3,⟨by decide,λ_=>k2,λ_=>q,λh=>absurd h (by decide)⟩,rfl⟩,less⟩
  .refine⟨λ_=>?_,λq=>absurd q (by decide)⟩
   refine⟨⟨by decide,by decide⟩,_,rfl,?_⟩;refine⟨_,rfl,_,h4,?_⟩;have k2:=k2 (by decide);have k3:=k3 (by decide);refine⟨λq=>?_,λq=>?_⟩
   .refine⟨_,wrap64 (by decide) (by decide),?_⟩
    rw[k2,k3,q];rfl
   refine⟨_,wrap64 (by decide) (by decide),?_⟩;exact⟨⟨rfl,rfl⟩,⟨4,⟨by decide,λ_=>k2,λ_=>k3,λ_=>q⟩,rfl⟩,less⟩
  refine⟨λq=>absurd q (by decide),λ_=>?_⟩;rw[k2 (by decide),k3 (by decide),k4 (by decide)];rfl
def GK(w N:Int)(r:Nat):D:=if w=0 then .b9 [.int .i64 (-1),.int .i64 0,.int .i64 r]else .b9 [.int .i64 0,.int .i64 w,.int .i64 N]
theorem Xv(t:Task)(hs:t.Std)(above:List Int)(FV:above.length=t.hull.parts.length)(gas:Int)(c g:Nat)(hg:g<t.hull.parts.length)(w:Int)
    (L4:DN 100 [.ro (jK t above gas c),.int .i64 ((2^t.hull.parts.length-1:Nat):Int),.int .i64 g] (.int .i64 w)):
    DN 24 [.ro (jK t above gas c),.list 1 [[.int .i64 g]]] (GK w ((2^t.hull.parts.length-1:Nat):Int) (iO t.hull.parts.length g)):=by
  have n7:=hs.n7;have Oz:=Xu t above gas c (by omega);have hb:2^t.hull.parts.length-1<2^62:=Nat.lt_of_le_of_lt (Nat.sub_le _ _) (Nat.pow_lt_pow_right (by decide) (by omega));have jQ:2^g<2^62:=Nat.pow_lt_pow_right (by decide) (by omega);have hand:=mz hb jQ;have dZ:hY (2^t.hull.parts.length-1) (2^g)=iO t.hull.parts.length g:=rfl;rw[dZ]at hand;rw[FV]at Oz;obtain⟨r,hr⟩:∃r,iO t.hull.parts.length g=r:=⟨_,rfl⟩;rw[hr]at hand⊢;obtain⟨N,hN⟩:∃N:Int,((2^t.hull.parts.length-1:Nat):Int)=N:=⟨_,rfl⟩;obtain⟨S,hS⟩:∃S,jK t above gas c=S:=⟨_,rfl⟩;rw[hN]at Oz L4 hand⊢;rw[hS]at Oz L4⊢;refine dX Tryz.func24 Tryz.call24 rfl rfl ?_;refine⟨_,rfl,_,Oz,?_⟩;refine⟨[0,6,12,13,14],0,[],λU=>U=⟨[(0,.ro S),(6,.int .i64 N),(12,.list 1 [[.int .i64 g]]),(13,.int .i64 1),(14,.int .i64 0)],[],.aQ⟩\/(w=0/\U=⟨[(0,.ro S),(6,.int .i64 r),(12,.list 1 [[.int .i64 g]]),(13,.int .i64 1),(14,.int .i64 1)],[],.aQ⟩),
   λU=>(1000-aZ 14 U).toNat,rfl,⟨rfl,rfl⟩,.inl rfl,?_⟩
  rintro U(rfl|⟨hw,rfl⟩)
  .refine⟨λ_=>?_,λh=>absurd h (by decide)⟩
   refine⟨by decide,_,rfl,?_⟩;refine⟨_,rfl,_,L4,?_⟩;refine⟨λq=>?_,λq=>?_⟩
   .have q:(w !=0)=true:=q
    unfold GK;rw[if_neg (by simpa using q)];rfl
   have q:(w !=0)=false:=q;refine⟨by omega,((2^g:Nat):Int),Qe (by omega),?_⟩;refine⟨(r:Int),hand,?_⟩;refine⟨_,wrap64 (by decide) (by decide),?_⟩;exact⟨⟨rfl,rfl⟩,.inr ⟨by simpa using q,rfl⟩,(show(1000-(0+1:Int)).toNat<(1000-(0:Int)).toNat by decide)⟩
  refine⟨λh=>absurd h (by decide),λ_=>?_⟩;unfold GK;rw[if_pos hw];rfl
def dB(l:List Int)(v:Int):Bool:=l.any λx=>v==x
theorem S8(l:List Int)(v:Int)(hl:l.length<9223372036854775808):DN 231 [.list 1 (l.map aC),.int .i64 v] (.int .i64 (aY (λx=>v==x) l 0)):=by
 refine dX Tryz.func231 Tryz.call231 rfl rfl ?_;have hlen:=bD aC l;refine⟨[0,1,7,8],0,[],λU=>∃i:Nat,i<=l.length/\aY (λx=>v==x) l 0=aY (λx=>v==x) (l.drop i) i/\U=⟨[(0,.list 1 (l.map aC)),(1,.int .i64 v),(7,.int .i64 (l.map aC).length),(8,.int .i64 i)],[],.aQ⟩,λU=>((l.length:Int)-aZ 8 U).toNat,rfl,⟨rfl,rfl⟩,⟨0,Nat.zero_le _,rfl,rfl⟩,?_⟩;rintro U⟨i,bC,hf,rfl⟩;refine⟨λh1=>?_,λh1=>?_⟩
 .have h1:=of_decide_eq_true h1
  rw[hlen]at h1;have bC:i<l.length:=by omega
  have ea:l.drop i=l[i]::l.drop (i+1):=List.drop_eq_getElem_cons bC;rw[ea,aY]at hf;refine⟨by omega,_,rn bC,?_⟩;refine⟨λh2=>?_,λh2=>?_⟩
  .have h2:(v==l[i])=true:=h2
   rw[h2]at hf;show some (D.int .i64 (i:Int))=some (D.int .i64 _);rw[hf]
  have h2:(v==l[i])=false:=h2;rw[h2]at hf;refine⟨_,wrap64 (by omega) (by omega),?_⟩;refine⟨⟨rfl,rfl⟩,⟨i+1,bC,hf,rfl⟩,?_⟩;show((l.length:Int)-((i:Int)+1)).toNat<((l.length:Int)-(i:Int)).toNat;omega
 have h1:=of_decide_eq_false h1;rw[hlen]at h1;show some (D.int .i64 (-1))=some (D.int .i64 _);rw[hf,List.drop_of_length_le (by omega)];rfl
theorem L5(l:List Int)(v:Int)(hl:l.length<9223372036854775808):DN 175 [.list 1 (l.map aC),.int .i64 v] (.bool (dB l v)):=by
 refine dX Tryz.func175 Tryz.call175 rfl rfl ?_;refine⟨_,rfl,_,S8 l v hl,?_⟩;show some (D.bool _)=some (D.bool _);unfold dB;rw[<-eP (λx=>v==x) l 0 (Int.le_refl 0)]
def Us(free js:List Int):List D:=[.list 1 (free.map aC),.list 1 (js.map aC)]
theorem S9(free js:List Int)(v:Int)(hl:free.length<9223372036854775808):DN 182 [.int .i64 v,.ro (Us free js)] (.bool (!(dB free v))):=by
 refine dX Tryz.func182 Tryz.call182 rfl rfl ?_;exact⟨_,rfl,_,L5 free v hl,rfl⟩
def OA(i:Nat):Int:=IntKind.i64.wrap (1*2^(min (i:Int).toNat IntKind.i64.bits))
def mE(ps:List Hp)(nm:ByteArray):Nat->Int
 |0=>0
 |k+1=>match ps[k]? with
  |some y=>if(y.on.any λq=>bW nm q)=true then bits .or .i64 (mE ps nm k) (OA k)else mE ps nm k
  |none=>mE ps nm k
def AQ(ps:List Hp)(i:Nat):ByteArray:=match ps[i]? with|some x=>x.name|none=>⟨#[]⟩
def o5(ps:List Hp)(i k j:Nat):Int:=if j<i then mE ps (AQ ps j) ps.length else if j=i then mE ps (AQ ps i) k else 0
def ic(ps:List Hp)(i k:Nat):List Int:=(List.range ps.length).map (o5 ps i k)
theorem CP(ps:List Hp)(i k:Nat):(ic ps i k).length=ps.length:=by simp[ic]
theorem Ix(ps:List Hp):List.replicate ps.length [D.int .i64 0]=(ic ps 0 0).map aC:=by
 unfold ic;rw[List.map_map];apply List.ext_getElem?;intro j;simp only[List.getElem?_replicate,List.getElem?_map,List.getElem?_range'];by_cases h:j<ps.length
 .rw[if_pos h,List.getElem?_range h]
  show some [D.int .i64 0]=some (aC (o5 ps 0 0 j));have:o5 ps 0 0 j=0:=by unfold o5;rw[if_neg (Nat.not_lt_zero j)];split<;>rfl
  rw[this];rfl
 rw[if_neg h];simp[h]
theorem CQ{ps:List Hp}{i k:Nat}(h:i<ps.length):((ic ps i k).map aC)[i]?=some [.int .i64 (mE ps (AQ ps i) k)]:=by
 unfold ic;rw[List.getElem?_map,List.getElem?_map,List.getElem?_range h];have:o5 ps i k i=mE ps (AQ ps i) k:=by unfold o5;rw[if_neg (Nat.lt_irrefl _),if_pos rfl]
 show some (aC (o5 ps i k i))=_;rw[this];rfl
theorem L6{ps:List Hp}{i k:Nat}{v:Int}(hv:mE ps (AQ ps i) (k+1)=v):((ic ps i k).map aC).set i [.int .i64 v]=(ic ps i (k+1)).map aC:=by
 subst hv;have:((ic ps i k).map aC).set i [.int .i64 (mE ps (AQ ps i) (k+1))]=((ic ps i k).set i (mE ps (AQ ps i) (k+1))).map aC:=(List.map_set ..).symm;rw[this];congr 1;unfold ic;apply List.ext_getElem?;intro j;rw[List.getElem?_set];simp only[List.getElem?_map,List.length_map,List.length_range];by_cases e:i=j
 .subst e
  rw[if_pos rfl];by_cases h:i<ps.length
  .rw[if_pos h,List.getElem?_range h]
   show _=some (o5 ps i (k+1) i);simp only[o5,Nat.lt_irrefl,if_false,if_true]
  rw[if_neg h];simp[h]
 rw[if_neg e];by_cases h:j<ps.length
 .rw[List.getElem?_range h]
  show some (o5 ps i k j)=some (o5 ps i (k+1) j);have e2:¬j=i:=λq=>e q.symm;simp only[o5,e2,if_false]
 simp[h]
theorem Iy{ps:List Hp}{i k:Nat}(hv:mE ps (AQ ps i) (k+1)=mE ps (AQ ps i) k):ic ps i (k+1)=ic ps i k:=by
 unfold ic;congr 1;funext j;unfold o5;rw[hv]
theorem Iz(ps:List Hp)(i:Nat):ic ps i ps.length=ic ps (i+1) 0:=by
 unfold ic;congr 1;funext j;unfold o5;by_cases h1:j<i
 .rw[if_pos h1,if_pos (by omega)]
 rw[if_neg h1];by_cases h2:j=i
 .rw[if_pos h2,if_pos (by omega),h2]
 rw[if_neg h2,if_neg (by omega)];split<;>rfl
def oo(ad:List (List Int))(free:List Int):Nat->Int
 |0=>0
 |i+1=>match ad[i]? with
  |some l=>if(l.any λv=>!(dB free v))=true then bits .or .i64 (oo ad free i) (OA i)else oo ad free i
  |none=>oo ad free i
theorem mkC(c:Nat){f:FuncId}{fn:Func}(hf:Tryz.prog.funcs[f]?=some fn)(he:Enters Tryz.prog f)(hb:gB fn=true){args:List D}{d:D}(hn:Nat.ble args.length fn.ntmps=true)(h:Body Tryz.tt (CD Tryz.prog ⟨λ_=>false,λ_=>false,some c⟩) (nc Tryz.prog Ak) fn args d):DN f args d:=
 zE Tryz.tok Tryz.mixed hf he hb hn h
def L7(t:Task)(ab:List Int)(gas:Int)(c:Nat)(free js:List Int)(E:List af):List af:=.flat false t.enc::.rows false 0 1 (ab.map aC)::.flat false (t.enc++[.sl 1 0 0 t.ar.length,.int .i64 gas,.dY c])::.flat false (Us free js)::E
theorem Fk{bs:List af}{n:Nat}(t:Task)(ab:List Int)(gas:Int)(c:Nat)(hb:bs[1]?=some (.rows false 0 1 (ab.map aC)))(hl:t.ar.length=(ab.map aC).length):bY (reify bs (n+1)) ((t.enc++[D.sl 1 0 0 t.ar.length,D.int .i64 gas,D.dY c]).drop 0)=some (jK t ab gas c):=by
 show bY (reify bs (n+1)) (.list 7 (t.ar.map Hp.enc)::.list 7 (t.hull.parts.map Pt.enc)::.int .i64 t.hull.mA::.int .i64 t.hull.fv::.int .i64 t.lo::.int .i64 t.hi::.list 2 (t.net.ad.map Tk.enc)::.list 3 (t.net.ai.map Rp.enc)::.list 1 (t.blanks.map aC)::.list 2 (t.steps.map Vs.enc)::.list 1 (t.ad.map qh)::.sl 1 0 0 t.ar.length::.int .i64 gas::.dY c::[])=_;exact ag rfl (ag rfl (ag rfl (ag rfl (ag rfl (ag rfl (ag rfl (ag rfl (ag rfl (ag rfl (ag rfl (ag (ga hb hl) (ag rfl (ag rfl rfl)))))))))))))
theorem Xw(t:Task)(Ta:DN 180 [.agg t.enc] (nj 0 0 0))(Xl:t.ar.length<=12)(NT:∀x∈t.ar,x.on.length<9223372036854775808)(nn:t.ad.length=t.ar.length)(mf:∀l∈t.ad,l.length<9223372036854775808)(free js:List Int)(dN:free.length<9223372036854775808)
    (h51:DN 51 [.agg t.net.enc,.list 1 (t.blanks.map aC),.list 2 (t.steps.map Vs.enc)] (.b9 [.agg (Us free js),.int .i64 0]))(c:Nat):
    DN 97 [.agg t.enc] (.b9 [.ro (jK t (ic t.ar t.ar.length 0) (oo t.ad free t.ar.length) c),.int .i64 0]):=by
  have hlen:=bD Hp.enc t.ar;refine mkC c Tryz.func97 Tryz.call97 rfl rfl ?_;refine⟨_,rfl,_,Ta,?_⟩;refine⟨λh=>absurd h (by decide),λ_=>?_⟩;refine Or.inl ⟨by kernel_rfl,?_⟩;refine⟨Int.natCast_nonneg _,rfl,by rw[hlen];show(8:Int)*_<=((ay:Nat):Int);unfold ay;omega,t.ar.length,by rw[hlen];exact toN _,_,Ix t.ar,?_⟩;refine⟨_,rfl,_,h51,?_⟩;refine⟨[1,7,8,44,45,46],4,[],λU=>∃i:Nat,i<=t.ar.length/\U=⟨[(1,.loc 0 0),(7,.loc 2 0),(8,.loc 3 0),(44,.list 7 (t.ar.map Hp.enc)),(45,.int .i64 (t.ar.map Hp.enc).length),(46,.int .i64 i)],L7 t (ic t.ar i 0) (oo t.ad free i) c free js [],.aQ⟩,
   λU=>(1000-aZ 46 U).toNat,rfl,⟨rfl,rfl⟩,⟨0,Nat.zero_le _,rfl⟩,?_⟩
  rintro U⟨i,hi,rfl⟩;refine⟨λh4=>?_,λh4=>?_⟩
  .have h4:=of_decide_eq_true h4
   rw[hlen]at h4;have bC:i<t.ar.length:=by omega
   obtain⟨x,hx⟩:∃x,t.ar[i]?=some x:=⟨_,List.getElem?_eq_getElem bC⟩;have D4:AQ t.ar i=x.name:=by unfold AQ;rw[hx]
   have less:(1000-((i:Int)+1)).toNat<(1000-(i:Int)).toNat:=by omega
   have h0:(0:Int)<=i:=Int.natCast_nonneg i;have F7:=wrap64 (n:=(i:Int)+1) (by omega) (by omega);refine⟨h0,_,aV (e:=Hp.enc) hx,?_⟩;refine⟨[1,7,8,10,11,44,45,46,53,54,55],5,[],λU=>∃k:Nat,k<=t.ar.length/\U=⟨[(1,.loc 0 0),(7,.loc 2 0),(8,.loc 3 0),(10,.int .i64 i),(11,.loc 4 0),(44,.list 7 (t.ar.map Hp.enc)),(45,.int .i64 (t.ar.map Hp.enc).length),(46,.int .i64 i),(53,.list 7 (t.ar.map Hp.enc)),(54,.int .i64 (t.ar.map Hp.enc).length),(55,.int .i64 k)],L7 t (ic t.ar i k) (oo t.ad free i) c free js [.flat false x.enc],.aQ⟩,
    λU=>(1000-aZ 55 U).toNat,rfl,⟨rfl,rfl⟩,⟨0,Nat.zero_le _,rfl⟩,?_⟩
   rintro U⟨k,hk,rfl⟩;refine⟨λh5=>?_,λh5=>?_⟩
   .have h5:=of_decide_eq_true h5
    rw[hlen]at h5;have bF:k<t.ar.length:=by omega
    obtain⟨y,hy⟩:∃y,t.ar[k]?=some y:=⟨_,List.getElem?_eq_getElem bF⟩;have jI:(1000-((k:Int)+1)).toNat<(1000-(k:Int)).toNat:=by omega
    have qn:(0:Int)<=k:=Int.natCast_nonneg k;have Na:=wrap64 (n:=(k:Int)+1) (by omega) (by omega);have cH:mE t.ar (AQ t.ar i) (k+1)=if(y.on.any λq=>bW x.name q)=true then bits .or .i64 (mE t.ar (AQ t.ar i) k) (OA k)else mE t.ar (AQ t.ar i) k:=by
     show(match t.ar[k]? with|some y=>_|none=>_)=_;rw[hy,D4]
    have cG:(i:Int)<t.ar.length:=by omega
    have hz:0+((i:Int)).toNat=i:=by omega
    refine⟨qn,_,aV (e:=Hp.enc) hy,?_⟩;refine⟨_,rfl,_,LW y.on x.name (NT y (List.mem_of_getElem? hy)),?_⟩;refine⟨λh6=>?_,λh6=>?_⟩
    .rw[if_pos h6]at cH
     refine Or.inl ⟨by kernel_rfl,?_⟩;refine⟨h0,cG,i,hz,?_⟩;refine⟨_,CQ bC,?_⟩;refine⟨qn,_,rfl,?_⟩;refine⟨_,rfl,?_⟩;refine⟨h0,cG,i,hz,?_⟩;refine⟨_,CQ bC,Nat.le_refl 1,_,L6 cH,?_⟩;refine⟨_,Na,?_⟩;exact⟨⟨rfl,rfl⟩,⟨k+1,bF,rfl⟩,jI⟩
    rw[h6,if_neg (by decide)]at cH;refine⟨_,Na,?_⟩;exact⟨⟨rfl,rfl⟩,⟨k+1,bF,by rw[Iy cH];rfl⟩,jI⟩
   have h5:=of_decide_eq_false h5;rw[hlen]at h5;have e:k=t.ar.length:=by omega
   subst e;rw[Iz];obtain⟨l,hl⟩:∃l,t.ad[i]?=some l:=⟨_,List.getElem?_eq_getElem (by omega)⟩;have h87:=Cv (k:=182) (cap:=[.ro (Us free js)]) ⟨λ_=>rfl,λ_=>rfl,λ_=>rfl⟩ (λv=>!(dB free v)) l (mf l (List.mem_of_getElem? hl)) (λv _=>S9 free js v dN);have cH:oo t.ad free (i+1)=if(l.any λv=>!(dB free v))=true then bits .or .i64 (oo t.ad free i) (OA i)else oo t.ad free i:=by
    show(match t.ad[i]? with|some y=>_|none=>_)=_;rw[hl]
   refine⟨h0,_,aV (e:=qh) hl,?_⟩;refine⟨_,rfl,_,h87,?_⟩;refine⟨λh6=>?_,λh6=>?_⟩
   .rw[if_pos h6]at cH
    refine Or.inl ⟨by kernel_rfl,?_⟩;refine⟨h0,_,rfl,?_⟩;refine⟨_,rfl,?_⟩;refine⟨_,F7,?_⟩;exact⟨⟨rfl,rfl⟩,⟨i+1,bC,by rw[cH];rfl⟩,less⟩
   rw[h6,if_neg (by decide)]at cH;refine⟨_,F7,?_⟩;exact⟨⟨rfl,rfl⟩,⟨i+1,bC,by rw[cH];rfl⟩,less⟩
  have h4:=of_decide_eq_false h4;rw[hlen]at h4;have e:i=t.ar.length:=by omega
  subst e;have Hn:t.ar.length=((ic t.ar t.ar.length 0).map aC).length:=by rw[List.length_map,CP]
  have hr:∀bs,bs=L7 t (ic t.ar t.ar.length 0) (oo t.ad free t.ar.length) c free js []->reify bs 8 (.b9 [.loc 2 0,.int .i64 0])=some (.b9 [.ro (jK t (ic t.ar t.ar.length 0) (oo t.ad free t.ar.length) c),.int .i64 0]):=by
   rintro _ rfl;exact x7 (ag (x8 rfl (Fk t _ _ c rfl Hn)) (ag rfl rfl))
  exact hr _ rfl
theorem L8(ds:List D):NY Tryz.prog 253 ds (λ_=>True) λ_ _ _=>False:=by
 refine⟨Tryz.call253,λcx U β I S N a w vs ak hs r _=>?_,λ_ _ _ _ _ _ _ _ _ _ _ _ _ _ _ h=>h.elim⟩;refine callsDIn_of_wpSIn Tryz.func253 rfl trivial λc₀ cs hu=>?_;have h5:5<vs.size+(16-vs.size):=by omega
 have h3:3<vs.size+(16-vs.size):=by omega
 have h6:6<vs.size+(16-vs.size):=by omega
 have h7:7<vs.size+(16-vs.size):=by omega
 apply wpSIn_seq;apply wpSIn_region;simp[wpOpsSIn,go_sem,recoverD,hu,Exit.thenS,h5];refine⟨λ_ _=>trivial,λ_ _=>trivial,?_⟩;apply wpSIn_seq;apply wpSIn_region;simp[wpOpsSIn,go_sem,Exit.thenS,h3,h5,h6,h7];refine⟨λ_ _=>trivial,λ_ _=>trivial,?_⟩;refine wpSIn_cond (t:=false) ?_ ?_
 .simp[Act.eval,h3,h5,h6,h7]
 simp only[Bool.false_eq_true,if_false];refine wpSIn_of_wpIn rfl (wpIn_skip ?_);refine⟨rfl,FrameMode.returning,?_,?_⟩
 .cases c₀;simp_all
 exact⟨.tuple #[],by simp[results,Tryz.f253],⟨_,rfl⟩,rfl,rfl⟩
theorem Fl(ds:List D):NY Tryz.prog 224 ds (λ_=>True) λ_ _ _=>False:=by
 refine⟨Tryz.call224,λcx U β I S N a w vs ak hs r _=>?_,λ_ _ _ _ _ _ _ _ _ _ _ _ _ _ _ h=>h.elim⟩;refine callsDIn_of_wpSIn Tryz.func224 rfl trivial λc₀ cs hu=>?_;have h5:3<vs.size+(8-vs.size):=by omega
 have h3:2<vs.size+(8-vs.size):=by omega
 have h6:4<vs.size+(8-vs.size):=by omega
 have h7:5<vs.size+(8-vs.size):=by omega
 apply wpSIn_seq;apply wpSIn_region;simp[wpOpsSIn,go_sem,recoverD,hu,Exit.thenS,h5];refine⟨λ_ _=>trivial,λ_ _=>trivial,?_⟩;apply wpSIn_seq;apply wpSIn_region;simp[wpOpsSIn,go_sem,Exit.thenS,h3,h5,h6,h7];refine⟨λ_ _=>trivial,λ_ _=>trivial,?_⟩;refine wpSIn_cond (t:=false) ?_ ?_
 .simp[Act.eval,h3,h5,h6,h7]
 simp only[Bool.false_eq_true,if_false];refine wpSIn_of_wpIn rfl (wpIn_skip ?_);refine⟨rfl,FrameMode.returning,?_,?_⟩
 .cases c₀;simp_all
 exact⟨.tuple #[],by simp[results,Tryz.f224],⟨_,rfl⟩,rfl,rfl⟩
theorem Tb(ds:List D):NY Tryz.prog 134 ds (λ_=>True) λ_ _ _=>False:=by
 refine⟨Tryz.call134,λcx U β I S N a w vs ak hs r _=>?_,λ_ _ _ _ _ _ _ _ _ _ _ _ _ _ _ h=>h.elim⟩;refine callsDIn_of_wpSIn Tryz.func134 rfl trivial λc₀ cs hu=>?_;have h5:3<vs.size+(9-vs.size):=by omega
 have h3:2<vs.size+(9-vs.size):=by omega
 have h6:4<vs.size+(9-vs.size):=by omega
 have h7:5<vs.size+(9-vs.size):=by omega
 apply wpSIn_seq;apply wpSIn_region;simp[wpOpsSIn,go_sem,recoverD,hu,Exit.thenS,h5];refine⟨λ_ _=>trivial,λ_ _=>trivial,?_⟩;apply wpSIn_seq;apply wpSIn_region;simp[wpOpsSIn,go_sem,Exit.thenS,h3,h5,h6,h7];refine⟨λ_ _=>trivial,λ_ _=>trivial,?_⟩;refine wpSIn_cond (t:=false) ?_ ?_
 .simp[Act.eval,h3,h5,h6,h7]
 simp only[Bool.false_eq_true,if_false];refine wpSIn_of_wpIn rfl (wpIn_skip ?_);refine⟨rfl,FrameMode.returning,?_,?_⟩
 .cases c₀;simp_all
 exact⟨.tuple #[],by simp[results,Tryz.f134],⟨_,rfl⟩,rfl,rfl⟩
structure Task.Ok(t:Task)(free js:List Int):Prop where
 ar:sJ t.ar
 Fm:t.Std
 len:t.hull.parts.length=t.ar.length
 name:∀(i:Nat)(x:Hp)(p:Pt),t.ar[i]?=some x->t.hull.parts[i]?=some p->bW p.name x.name=true
 vent:DN 51 [.agg t.net.enc,.list 1 (t.blanks.map aC),.list 2 (t.steps.map Vs.enc)] (.b9 [.agg (Us free js),.int .i64 0])
 ad:t.ad.length=t.ar.length
 eR:∀l∈t.ad,∀(k:Nat)(v:Int),l[k]?=some v->(0<=v/\v<t.net.ad.length)/\∀u:Int,0<k->l[k-1]?=some u->u<v
structure Task.Fit(t:Task)(free:List Int):Prop where
 on:∀x∈t.ar,x.on.length<9223372036854775808
 eR:∀l∈t.ad,l.length<9223372036854775808
 free:free.length<9223372036854775808
theorem Aw(a b:Int):DN 254 [.int .i64 a,.int .i64 b,.int .i64 0] (.b9 []):=by
 refine dX Tryz.func254 Tryz.call254 rfl rfl ?_;exact⟨λh=>absurd h (by decide),λ_=>rfl⟩
theorem Xx{many a:Int}(h0:0<=a)(h1:a<many):DN 98 [.int .i64 many,.list 1 [[.int .i64 a]]] (.bool false):=by
 have:=WV [a] many (by simp);rw[show[a].any (cP many)=false by simp[uI h0 h1]]at this;exact this
theorem wL{l:List Int}{k:Nat}(h6:(k:Int)>0)(hk:k<l.length)(hl:l.length<9223372036854775808):∃u,l[k-1]?=some u/\IntKind.i64.wrap ((k:Int)-1)=((k-1:Nat):Int)/\0<k:=by
 refine⟨_,List.getElem?_eq_getElem (by omega),?_,by omega⟩;rw[show(k:Int)-1=((k-1:Nat):Int)by omega];exact wrap64 (by omega) (by omega)
theorem Tc(t:Task){free js:List Int}(ho:t.Ok free js)(hf:t.Fit free):DN 180 [.agg t.enc] (nj 0 0 0):=by
 have hlen:=bD Hp.enc t.ar;have kj:=bD Pt.enc t.hull.parts;have nn:=bD qh t.ad;have mf:=bD Tk.enc t.net.ad;have n7:=ho.Fm.n7;have hl:=ho.len;have aa4:=SY t.ar ho.ar hf.on;have h17:=LI t.hull ho.Fm.hull;have Zd:=P8 t.hull ho.Fm.hull t.lo t.hi ho.Fm.lo0 ho.Fm.le ho.Fm.Ud;have h51:=ho.vent;refine iV (sh:=shN) (ish:=Ak) (np:=1) (t3:=12) (k:=253) Tryz.tok Tryz.mixed Tryz.func180 rfl Tryz.call180 (by rfl) (by exact(show 1<=Tryz.f180.ntmps by decide)) (by rfl) rfl rfl rfl rfl rfl rfl rfl rfl (by decide) ?_;refine⟨_,rfl,rfl,_,_,L8 _,?_⟩;refine⟨_,rfl,_,aa4,?_⟩;refine⟨_,rfl,_,Aw 1 0,?_⟩;refine⟨_,rfl,_,h17,?_⟩;refine⟨_,rfl,_,Aw 2 0,?_⟩;have eh:(((t.hull.parts.map Pt.enc).length:Int) !=((t.ar.map Hp.enc).length:Int))=false:=by rw[kj,hlen,hl];simp
 have aa5:(((t.ad.map qh).length:Int) !=((t.ar.map Hp.enc).length:Int))=false:=by rw[nn,hlen,ho.ad];simp
 refine⟨λq=>nt (eh.symm.trans q),λ_=>?_⟩;refine⟨λq=>absurd (of_decide_eq_true q) (by rw[hlen];omega),λ_=>?_⟩;refine⟨[1,2,3,4,5,50,51,52],4,[],λU=>∃i:Nat,i<=t.ar.length/\U=⟨[(1,.loc 0 0),(2,.loc 1 0),(3,.loc 2 0),(4,.loc 3 0),(5,.int .i64 (t.ar.map Hp.enc).length),(50,.list 7 (t.ar.map Hp.enc)),(51,.int .i64 (t.ar.map Hp.enc).length),(52,.int .i64 i)],[.flat false t.enc,.flat false [.int .i64 0],.flat false [.int .i64 0],.flat false [.int .i64 0]],.aQ⟩,
  λU=>(1000-aZ 52 U).toNat,rfl,⟨rfl,rfl⟩,⟨0,Nat.zero_le _,rfl⟩,?_⟩
 rintro U⟨i,hi,rfl⟩;refine⟨λh4=>?_,λh4=>?_⟩
 .have h4:=of_decide_eq_true h4
  rw[hlen]at h4;have bC:i<t.ar.length:=by omega
  obtain⟨x,hx⟩:∃x,t.ar[i]?=some x:=⟨_,List.getElem?_eq_getElem bC⟩;obtain⟨p,hp⟩:∃x,t.hull.parts[i]?=some x:=⟨_,List.getElem?_eq_getElem (by omega)⟩;have D4:=ho.name i x p hx hp;have less:(1000-((i:Int)+1)).toNat<(1000-(i:Int)).toNat:=by omega
  have h0:(0:Int)<=i:=Int.natCast_nonneg i;refine⟨h0,_,aV (e:=Hp.enc) hx,?_⟩;refine Or.inl ⟨by kernel_rfl,?_⟩;refine⟨h0,_,aV (e:=Pt.enc) hp,?_⟩;refine⟨λq=>?_,λ_=>?_⟩
  .have q:(!(bW p.name x.name))=true:=q
   rw[D4]at q;cases q
  refine⟨(i:Int)+1,wrap64 (by omega) (by omega),?_⟩;exact⟨⟨rfl,rfl⟩,⟨i+1,bC,rfl⟩,less⟩
 clear h4 hi;refine⟨_,rfl,_,Zd,?_⟩;refine⟨_,rfl,_,Aw 3 0,?_⟩;refine⟨_,rfl,_,h51,?_⟩;refine⟨_,rfl,_,Aw 4 0,?_⟩;refine⟨λq=>nt (aa5.symm.trans q),λ_=>?_⟩;refine⟨[1,2,3,4,100,101,102],4,[],λU=>∃i:Nat,i<=t.ad.length/\U=⟨[(1,.loc 0 0),(2,.loc 1 0),(3,.loc 2 0),(4,.loc 3 0),(100,.list 1 (t.ad.map qh)),(101,.int .i64 (t.ad.map qh).length),(102,.int .i64 i)],[.flat false t.enc,.flat false [.int .i64 0],.flat false [.int .i64 0],.flat false [.int .i64 0]],.aQ⟩,
  λU=>(1000-aZ 102 U).toNat,rfl,⟨rfl,rfl⟩,⟨0,Nat.zero_le _,rfl⟩,?_⟩
 rintro U⟨i,hi,rfl⟩;refine⟨λh4=>?_,λh4=>⟨trivial,rfl⟩⟩;have h4:=of_decide_eq_true h4;rw[nn]at h4;have bC:i<t.ad.length:=by omega
 have hq:=ho.ad;obtain⟨l,Hn⟩:∃l,t.ad[i]?=some l:=⟨_,List.getElem?_eq_getElem bC⟩;have Xy:=ho.eR l (List.mem_of_getElem? Hn);have y8:=hf.eR l (List.mem_of_getElem? Hn);have GL:=bD aC l;have less:(1000-((i:Int)+1)).toNat<(1000-(i:Int)).toNat:=by omega
 have F7:=wrap64 (n:=(i:Int)+1) (by omega) (by omega);refine⟨Int.natCast_nonneg i,_,aV (e:=qh) Hn,?_⟩;refine⟨[1,2,3,4,8,9,100,101,102,107,108,109],4,[],λU=>∃k:Nat,k<=l.length/\U=⟨[(1,.loc 0 0),(2,.loc 1 0),(3,.loc 2 0),(4,.loc 3 0),(8,.int .i64 i),(9,.list 1 (l.map aC)),(100,.list 1 (t.ad.map qh)),(101,.int .i64 (t.ad.map qh).length),(102,.int .i64 i),(107,.list 1 (l.map aC)),(108,.int .i64 (l.map aC).length),(109,.int .i64 k)],[.flat false t.enc,.flat false [.int .i64 0],.flat false [.int .i64 0],.flat false [.int .i64 0]],.aQ⟩,
  λU=>((l.length:Int)-aZ 109 U).toNat,rfl,⟨rfl,rfl⟩,⟨0,Nat.zero_le _,rfl⟩,?_⟩
 rintro U⟨k,hk,rfl⟩;refine⟨λh5=>?_,λh5=>?_⟩
 rotate_left
 .refine⟨_,F7,?_⟩
  exact⟨⟨rfl,rfl⟩,⟨i+1,bC,rfl⟩,less⟩
 have h5:=of_decide_eq_true h5;rw[GL]at h5;have bF:k<l.length:=by omega
 obtain⟨v,hv⟩:∃v,l[k]?=some v:=⟨_,List.getElem?_eq_getElem bF⟩;have hvt:=Xy k v hv;have jI:((l.length:Int)-((k:Int)+1)).toNat<((l.length:Int)-(k:Int)).toNat:=by omega
 have Na:=wrap64 (n:=(k:Int)+1) (by omega) (by omega);have Ut:DN 98 [.int .i64 (t.net.ad.map Tk.enc).length,.list 1 [[.int .i64 v]]] (.bool false):=Xx hvt.1.1 (by rw[mf];exact hvt.1.2);refine⟨Int.natCast_nonneg k,_,aV (e:=aC) hv,?_⟩;refine⟨_,rfl,_,Ut,?_⟩;refine⟨nt,λ_=>?_⟩;refine⟨λh6=>?_,λh6=>?_⟩
 .have h6:(k:Int)>0:=of_decide_eq_true h6
  have Rj:=wL h6 bF y8;rcases Rj with⟨u,hu,hw,qn⟩
  have JK:=Int.not_le.2 (hvt.2 u qn hu);refine⟨((k-1:Nat):Int),hw,?_⟩;refine⟨Int.natCast_nonneg _,_,aV (e:=aC) hu,?_⟩;refine⟨λq=>absurd (of_decide_eq_true q) JK,λ_=>?_⟩;refine⟨_,Na,?_⟩;exact⟨⟨rfl,rfl⟩,⟨k+1,bF,rfl⟩,jI⟩
 refine⟨_,Na,?_⟩;exact⟨⟨rfl,rfl⟩,⟨k+1,bF,rfl⟩,jI⟩
def Task.bad(t:Task)(free:List Int)(g:Nat):Int:=wK false (bits .and .i64 ((2^t.hull.parts.length-1:Nat):Int) (mE t.ar (AQ t.ar g) t.ar.length) !=0) (Av (oo t.ad free t.ar.length) g) (t.dm g !=0)
theorem Fo(t:Task)(g:Nat):0<=t.dm g/\t.dm g<16:=by
 have hw:∀h:Hull,∀w,0<=h.o7 w/\h.o7 w<16:=λh w=>by unfold Hull.o7 CB;split<;>(try split)<;>(try split)<;>decide
 unfold Task.dm;have:∀(h:Hull)(xs:List (Int×Int)),0<=(dF h xs).1/\(dF h xs).1<16:=by
  intro h xs
  induction xs with
  |nil=>exact(show(0:Int)<=0/\(0:Int)<16 by decide)
  |cons p r ih=>
   unfold dF;split
   .exact hw h _
   split
   .exact ih
   exact hw h _
 exact this _ _
theorem OB(k:Nat)(v:Int)(h0:0<=v)(h1:v<16):∃c:Nat,pP c k=v:=by
 refine⟨Nat.shiftLeft v.toNat (4*k),?_⟩;unfold pP;rw[toN];have:Nat.shiftRight (Nat.shiftLeft v.toNat (4*k)) (4*k)=v.toNat:=Nat.shiftLeft_shiftRight ..;rw[this,Nat.mod_eq_of_lt (by omega)];omega
theorem OC{ps:List Hp}{g:Nat}(hg:g<ps.length):(ic ps ps.length 0)[g]?=some (mE ps (AQ ps g) ps.length):=by
 unfold ic;rw[List.getElem?_map,List.getElem?_range hg];show some (o5 ps ps.length 0 g)=_;unfold o5;rw[if_pos hg]
theorem Xz(t:Task){free js:List Int}(ho:t.Ok free js)(hf:t.Fit free)(g:Nat)(hg:g<t.ar.length):
    ∃a:Int,DN 9 [.agg t.enc,.list 1 [[.int .i64 g]]] (nj a (t.bad free g) 0):=by
  have hl:=ho.len;have n7:=ho.Fm.n7;have Ta:=Tc t ho hf;have hwl:=Fo t g;obtain⟨c,hc⟩:=OB (iO t.hull.parts.length g) (t.dm g) hwl.1 hwl.2;have h97:=Xw t Ta (by omega) hf.on ho.ad hf.eR free js hf.free ho.vent c;have FV:=CP t.ar t.ar.length 0;have L4:=S7 t ho.Fm (ic t.ar t.ar.length 0) (oo t.ad free t.ar.length) c g (by omega) _ (OC hg) hc;have Td:=Xv t ho.Fm _ (by rw[FV,hl]) _ c g (by omega) _ L4;have Ao:wK false (bits .and .i64 ((2^t.hull.parts.length-1:Nat):Int) (mE t.ar (AQ t.ar g) t.ar.length) !=0) (Av (oo t.ad free t.ar.length) g) (t.dm g !=0)=t.bad free g:=rfl;rw[Ao]at Td;obtain⟨S,hS⟩:∃S,jK t (ic t.ar t.ar.length 0) (oo t.ad free t.ar.length) c=S:=⟨_,rfl⟩;have XA:((ic t.ar t.ar.length 0).map aC).length=t.ar.length:=by rw[List.length_map,FV]
  have h23:DN 23 [.agg t.enc,.list 1 [[.int .i64 g]]] (.b9 [.ro (jK t (ic t.ar t.ar.length 0) (oo t.ad free t.ar.length) c),.int .i64 0]):=by
   refine dX Tryz.func23 Tryz.call23 rfl rfl ?_;refine⟨_,rfl,_,h97,?_⟩;refine⟨λ_=>?_,λh=>absurd h (by decide)⟩;refine⟨_,rfl,_,(Xx (by omega) (by rw[XA];omega):DN 98 [.int .i64 ((ic t.ar t.ar.length 0).map aC).length,.list 1 [[.int .i64 g]]] (.bool false)),?_⟩;refine⟨nt,λ_=>?_⟩;rfl
  rw[hS]at Td h23;unfold GK at Td;by_cases hw:t.bad free g=0
  .rw[if_pos hw]at Td
   refine⟨-1,?_⟩;rw[hw];refine dX Tryz.func9 Tryz.call9 rfl rfl ?_;refine⟨_,rfl,_,h23,?_⟩;refine⟨λh=>absurd h (by decide),λ_=>?_⟩;refine⟨_,rfl,_,Td,?_⟩;rfl
  rw[if_neg hw]at Td;refine⟨0,?_⟩;refine dX Tryz.func9 Tryz.call9 rfl rfl ?_;refine⟨_,rfl,_,h23,?_⟩;refine⟨λh=>absurd h (by decide),λ_=>?_⟩;refine⟨_,rfl,_,Td,?_⟩;rfl
theorem XB(n many:Int):DN 29 [.int .i64 n,.int .i64 many] (.bool (!(cP many n))):=by
 refine dX Tryz.func29 Tryz.call29 rfl rfl ?_;refine⟨λh=>?_,λh=>?_⟩
 .have h:n>=0:=of_decide_eq_true h
  show some (D.bool (decide (n<many)))=some (D.bool _);congr 2;unfold cP;apply Bool.eq_iff_iff.2;simp;omega
 have h:¬n>=0:=of_decide_eq_false h;show some (D.bool false)=some (D.bool _);congr 2;unfold cP;apply Bool.eq_iff_iff.2;simp;omega
def rz(t:Task)(i:Nat):Int:=match t.hull.parts[i]?,t.ar[i]? with
 |some p,some x=>if bW p.name x.name=true then 0 else 4
 |_,_=>0
def rA(many:Int)(l:List Int)(k:Nat):Int:=match l[k]? with
 |none=>0
 |some v=>if cP many v=true then 4 else if k>0 then(match l[k-1]? with|some u=>if v<=u then 2 else 0|none=>0)else 0
def DM:Option (Nat×Int)->Int
 |none=>0
 |some x=>x.2
def CR(many:Int)(l:List Int):Int:=DM (gD (rA many l) l.length 0)
def oq(t:Task)(i:Nat):Int:=match t.ad[i]? with|none=>0|some l=>CR t.net.ad.length l
def wM(t:Task)(e3 e4:Int):Int×Int×Int:=
 if(mU t.ar).2.2≠0 then(1,(mU t.ar).2.1,(mU t.ar).2.2)
 else if(mT t.hull).2.2≠0 then(2,0,(mT t.hull).2.2)
 else if t.hull.parts.length≠t.ar.length then(2,0,3)
 else if t.ar.length>7 then(2,0,3)
 else match gD (rz t) t.ar.length 0 with
  |some (i,e)=>(2,i,e)
  |none=>if e3≠0 then(3,0,e3)else if e4≠0 then(4,0,e4)else if t.ad.length≠t.ar.length then(5,0,3)else match gD (oq t) t.ar.length 0 with
   |some (i,e)=>(5,i,e)
   |none=>(0,0,0)
theorem OD{many:Int}{l:List Int}(h:CR many l=0)(k:Nat)(v:Int)(hv:l[k]?=some v):(0<=v/\v<many)/\∀u:Int,0<k->l[k-1]?=some u->u<v:=by
 unfold CR at h;cases hf:gD (rA many l) l.length 0 with
 |some x=>obtain⟨i,e⟩:=x;rw[hf]at h;exact absurd h (j6 hf)
 |none=>
  have:=j5 hf k (Nat.zero_le _) (by have:=(List.getElem?_eq_some_iff.1 hv).1;omega);unfold rA at this;rw[hv]at this;simp only at this;split at this
  .cases this
  rename_i h1;refine⟨kJ (by simpa using h1),λu h0 hu=>?_⟩;rw[if_pos h0,hu]at this;simp only at this;split at this
  .cases this
  omega
theorem L9{t:Task}{e3 e4:Int}(h:(wM t e3 e4).2.2=0):sJ t.ar/\t.hull.Ok/\t.hull.parts.length=t.ar.length/\t.ar.length<=7/\(∀(i:Nat)(x:Hp)(p:Pt),t.ar[i]?=some x->t.hull.parts[i]?=some p->bW p.name x.name=true)/\e3=0/\e4=0/\t.ad.length=t.ar.length/\
    ∀l∈t.ad,∀(k:Nat)(v:Int),l[k]?=some v->(0<=v/\v<t.net.ad.length)/\∀u:Int,0<k->l[k-1]?=some u->u<v:=by
  unfold wM at h;by_cases q1:(mU t.ar).2.2≠0
  .rw[if_pos q1]at h;exact absurd h q1
  rw[if_neg q1]at h;by_cases q2:(mT t.hull).2.2≠0
  .rw[if_pos q2]at h;exact absurd h q2
  rw[if_neg q2]at h;by_cases q3:t.hull.parts.length≠t.ar.length
  .rw[if_pos q3]at h;cases h
  rw[if_neg q3]at h;by_cases q4:t.ar.length>7
  .rw[if_pos q4]at h;cases h
  rw[if_neg q4]at h;cases q5:gD (rz t) t.ar.length 0 with
  |some x=>obtain⟨i,e⟩:=x;rw[q5]at h;exact absurd h (j6 q5)
  |none=>
  rw[q5]at h;simp only at h;by_cases q6:e3≠0
  .rw[if_pos q6]at h;exact absurd h q6
  rw[if_neg q6]at h;by_cases q7:e4≠0
  .rw[if_pos q7]at h;exact absurd h q7
  rw[if_neg q7]at h;by_cases q8:t.ad.length≠t.ar.length
  .rw[if_pos q8]at h;cases h
  rw[if_neg q8]at h;cases q9:gD (oq t) t.ar.length 0 with
  |some x=>obtain⟨i,e⟩:=x;rw[q9]at h;exact absurd h (j6 q9)
  |none=>
  refine⟨LV (by simpa using q1),CM (by simpa using q2),by simpa using q3,by omega,λi x p hx hp=>?_,by simpa using q6,by simpa using q7,by simpa using q8,λl hl=>?_⟩
  .have:=j5 q5 i (Nat.zero_le _) (by have:=(List.getElem?_eq_some_iff.1 hx).1;omega)
   unfold rz at this;rw[hx,hp]at this;simp only at this;split at this
   .assumption
   cases this
  obtain⟨i,hi⟩:=List.mem_iff_getElem?.1 hl;have:=j5 q9 i (Nat.zero_le _) (by have:=(List.getElem?_eq_some_iff.1 hi).1;omega);unfold oq at this;rw[hi]at this;exact OD this
theorem aa6{n k:Nat}(h:¬(k:Int)<n)(h2:k<=n):n-k=0:=by omega
theorem Ma{n k:Nat}(h:k<n):((n:Int)-((k:Int)+1)).toNat<((n:Int)-(k:Int)).toNat:=by omega
theorem Mb{n k:Nat}(h:k<n)(hn:n<9223372036854775808):IntKind.i64.wrap ((k:Int)+1)=(k:Int)+1:=wrap64 (by omega) (by omega)
structure Task.Sz(t:Task):Prop where
 ar:t.ar.length<9223372036854775808
 parts:t.hull.parts.length<9223372036854775808
 ad:t.ad.length<9223372036854775808
 on:∀x∈t.ar,x.on.length<9223372036854775808
 eR:∀l∈t.ad,l.length<9223372036854775808
theorem XC(t:Task)(hs:t.Sz)(a3 b3 e3:Int)(h27:DN 27 [.agg t.hull.enc,.agg (iD t.lo t.hi)] (nj a3 b3 e3))(e4:Int)(h28:DN 28 [.agg t.net.enc,.list 1 (t.blanks.map aC),.list 2 (t.steps.map Vs.enc)] (.b9 [.eL,.int .i64 e4])):
    DN 11 [.agg t.enc] (nj (wM t e3 e4).1 (wM t e3 e4).2.1 (wM t e3 e4).2.2):=by
  have hlen:=bD Hp.enc t.ar;have kj:=bD Pt.enc t.hull.parts;have nn:=bD qh t.ad;have mf:=bD Tk.enc t.net.ad;have h25:=Xm t.ar hs.ar hs.on;have h26:=Qb t.hull hs.parts;obtain⟨⟨o1,o2,o3⟩,bp⟩:∃o,wM t e3 e4=o:=⟨_,rfl⟩;rw[bp];unfold wM at bp;obtain⟨⟨s1,s2,s3⟩,YC⟩:∃o,mU t.ar=o:=⟨_,rfl⟩;obtain⟨⟨u1,u2,u3⟩,huc⟩:∃o,mT t.hull=o:=⟨_,rfl⟩;rw[YC]at h25 bp;rw[huc]at h26 bp;have bp:(if s3≠0 then((1:Int),s2,s3)else if u3≠0 then(2,0,u3)else if t.hull.parts.length≠t.ar.length then(2,0,3)else if t.ar.length>7 then(2,0,3)
   else match gD (rz t) t.ar.length 0 with
   |some (i,e)=>(2,(i:Int),e)
   |none=>if e3≠0 then(3,0,e3)else if e4≠0 then(4,0,e4)else if t.ad.length≠t.ar.length then(5,0,3)else match gD (oq t) t.ar.length 0 with
    |some (i,e)=>(5,(i:Int),e)
    |none=>(0,0,0))=(o1,o2,o3):=bp
  refine dX Tryz.func11 Tryz.call11 rfl rfl ?_;refine⟨_,rfl,_,h25,?_⟩;refine⟨λq=>?_,λq=>?_⟩
  .have q:(s3 !=0)=true:=q
   rw[if_pos (by simpa using q)]at bp;cases bp;rfl
  have q:(s3 !=0)=false:=q;rw[if_neg (by simpa using q)]at bp;refine⟨_,rfl,_,h26,?_⟩;refine⟨λq=>?_,λq=>?_⟩
  .have q:(u3 !=0)=true:=q
   rw[if_pos (by simpa using q)]at bp;cases bp;rfl
  have q:(u3 !=0)=false:=q;rw[if_neg (by simpa using q)]at bp;refine⟨λq=>?_,λq=>?_⟩
  .have q:(((t.hull.parts.map Pt.enc).length:Int) !=((t.ar.map Hp.enc).length:Int))=true:=q
   rw[kj,hlen]at q;rw[if_pos (by intro e;rw[e]at q;simp at q)]at bp;cases bp;rfl
  have q:(((t.hull.parts.map Pt.enc).length:Int) !=((t.ar.map Hp.enc).length:Int))=false:=q;rw[kj,hlen]at q;have hl:t.hull.parts.length=t.ar.length:=by simp at q;omega
  rw[if_neg (λe=>e hl)]at bp;refine⟨λq=>?_,λq=>?_⟩
  .have q:=of_decide_eq_true q
   rw[hlen]at q;rw[if_pos (by omega)]at bp;cases bp;rfl
  have q:=of_decide_eq_false q;rw[hlen]at q;have n7:t.ar.length<=7:=by omega
  rw[if_neg (by omega)]at bp;refine⟨[1,8,9],1,[],λU=>∃i:Nat,i<=t.ar.length/\gD (rz t) t.ar.length 0=gD (rz t) (t.ar.length-i) i/\U=⟨[(1,.loc 0 0),(8,.int .i64 (t.ar.map Hp.enc).length),(9,.int .i64 i)],[.flat false t.enc],.aQ⟩,
   λU=>(1000-aZ 9 U).toNat,rfl,⟨rfl,rfl⟩,⟨0,Nat.zero_le _,rfl,rfl⟩,?_⟩
  rintro U⟨i,hi,hb,rfl⟩;refine⟨λh4=>?_,λh4=>?_⟩
  .have h4:=of_decide_eq_true h4
   rw[hlen]at h4;have bC:i<t.ar.length:=by omega
   obtain⟨x,hx⟩:∃x,t.ar[i]?=some x:=⟨_,List.getElem?_eq_getElem bC⟩;obtain⟨p,hp⟩:∃x,t.hull.parts[i]?=some x:=⟨_,List.getElem?_eq_getElem (by omega)⟩;have less:(1000-((i:Int)+1)).toNat<(1000-(i:Int)).toNat:=by omega
   have h0:(0:Int)<=i:=Int.natCast_nonneg i;rw[lZ bC]at hb;have hE:rz t i=if bW p.name x.name=true then 0 else 4:=by unfold rz;rw[hx,hp]
   rw[hE]at hb;refine Or.inl ⟨by kernel_rfl,?_⟩;refine⟨h0,_,aV (e:=Pt.enc) hp,?_⟩;refine⟨h0,_,aV (e:=Hp.enc) hx,?_⟩;refine⟨λq=>?_,λq=>?_⟩
   .have q:(!(bW p.name x.name))=true:=q
    rw[rk q]at hb;have hb:gD (rz t) t.ar.length 0=some (i,4):=hb;rw[hb]at bp;cases bp;rfl
   have q:(!(bW p.name x.name))=false:=q;rw[qc q]at hb;refine⟨(i:Int)+1,wrap64 (by omega) (by omega),?_⟩;exact⟨⟨rfl,rfl⟩,⟨i+1,bC,hb,rfl⟩,less⟩
  have h4:=of_decide_eq_false h4;rw[hlen]at h4;rw[show t.ar.length-i=0 by omega]at hb;rw[hb]at bp;clear h4 hb hi;have bp:(if e3≠0 then((3:Int),(0:Int),e3)else if e4≠0 then(4,0,e4)else if t.ad.length≠t.ar.length then(5,0,3)else match gD (oq t) t.ar.length 0 with
      |some (i,e)=>(5,(i:Int),e)
      |none=>(0,0,0))=(o1,o2,o3):=bp
  refine⟨_,rfl,_,h27,?_⟩;refine⟨λq=>?_,λq=>?_⟩
  .have q:(e3 !=0)=true:=q
   rw[if_pos (by simpa using q)]at bp;cases bp;rfl
  have q:(e3 !=0)=false:=q;rw[if_neg (by simpa using q)]at bp;refine⟨_,rfl,_,h28,?_⟩;refine⟨λq=>?_,λq=>?_⟩
  .have q:(e4 !=0)=true:=q
   rw[if_pos (by simpa using q)]at bp;cases bp;rfl
  have q:(e4 !=0)=false:=q;rw[if_neg (by simpa using q)]at bp;refine⟨λq=>?_,λq=>?_⟩
  .have q:(((t.ad.map qh).length:Int) !=((t.ar.map Hp.enc).length:Int))=true:=q
   rw[nn,hlen]at q;rw[if_pos (by intro e;rw[e]at q;simp at q)]at bp;cases bp;rfl
  have q:(((t.ad.map qh).length:Int) !=((t.ar.map Hp.enc).length:Int))=false:=q;rw[nn,hlen]at q;have Hn:t.ad.length=t.ar.length:=by simp at q;omega
  rw[if_neg (λe=>e Hn)]at bp;refine⟨[1,8,10],1,[],λU=>∃i:Nat,i<=t.ar.length/\gD (oq t) t.ar.length 0=gD (oq t) (t.ar.length-i) i/\U=⟨[(1,.loc 0 0),(8,.int .i64 (t.ar.map Hp.enc).length),(10,.int .i64 i)],[.flat false t.enc],.aQ⟩,
   λU=>(1000-aZ 10 U).toNat,rfl,⟨rfl,rfl⟩,⟨0,Nat.zero_le _,rfl,rfl⟩,?_⟩
  rintro U⟨i,hi,hb,rfl⟩;refine⟨λh4=>?_,λh4=>?_⟩
  rotate_left
  .have h4:=of_decide_eq_false h4
   rw[hlen]at h4;rw[show t.ar.length-i=0 by omega]at hb;rw[hb]at bp;cases bp;rfl
  have h4:=of_decide_eq_true h4;rw[hlen]at h4;have bC:i<t.ar.length:=by omega
  obtain⟨l,y8⟩:∃l,t.ad[i]?=some l:=⟨_,List.getElem?_eq_getElem (by omega)⟩;have XD:=hs.eR l (List.mem_of_getElem? y8);have GL:=bD aC l;have less:(1000-((i:Int)+1)).toNat<(1000-(i:Int)).toNat:=by omega
  have F7:=wrap64 (n:=(i:Int)+1) (by omega) (by omega);rw[lZ bC]at hb;have hE:oq t i=CR t.net.ad.length l:=by unfold oq;rw[y8]
  rw[hE]at hb;have qu:CR t.net.ad.length l=0->gD (oq t) t.ar.length 0=gD (oq t) (t.ar.length-(i+1)) (i+1):=λe=>by rw[hb,if_pos e]
  have bad:∀e:Int,CR t.net.ad.length l=e->e≠0->some (nj 5 i e)=some (nj o1 o2 o3):=λe he h0=>by
   rw[if_neg (by rw[he];exact h0),he]at hb;rw[hb]at bp;cases bp;rfl
  obtain⟨N,hN⟩:∃N,gD (rA t.net.ad.length l) l.length 0=N:=⟨_,rfl⟩;have aI:CR t.net.ad.length l=DM N:=by unfold CR;rw[hN]
  refine⟨Int.natCast_nonneg i,_,aV (e:=qh) y8,?_⟩;refine⟨[1,8,10,11,12],1,[],λU=>∃k:Nat,k<=l.length/\N=gD (rA t.net.ad.length l) (l.length-k) k/\U=⟨[(1,.loc 0 0),(8,.int .i64 (t.ar.map Hp.enc).length),(10,.int .i64 i),(11,.list 1 (l.map aC)),(12,.int .i64 k)],[.flat false t.enc],.aQ⟩,
   λU=>((l.length:Int)-aZ 12 U).toNat,rfl,⟨rfl,rfl⟩,⟨0,Nat.zero_le _,hN.symm,rfl⟩,?_⟩
  rintro U⟨k,hk,Fp,rfl⟩;refine⟨λh5=>?_,λh5=>?_⟩
  rotate_left
  .have h5:=of_decide_eq_false h5
   rw[GL]at h5;have qn:=aa6 h5 hk;rw[qn]at Fp;rw[Fp]at aI;refine⟨_,F7,?_⟩;exact⟨⟨rfl,rfl⟩,⟨i+1,bC,qu aI,rfl⟩,less⟩
  have h5:=of_decide_eq_true h5;rw[GL]at h5;have bF:=Int.ofNat_lt.1 h5;rw[lZ bF]at Fp;have ZI:∃v,l[k]?=some v:=⟨_,List.getElem?_eq_getElem bF⟩;rcases ZI with⟨v,hv⟩
  have hC:rA t.net.ad.length l k=if cP t.net.ad.length v=true then 4 else if k>0 then(match l[k-1]? with|some u=>if v<=u then 2 else 0|none=>0)else 0:=by unfold rA;rw[hv]
  have jI:=Ma bF;have Na:=Mb bF XD;have Ze:=XB v ((t.net.ad.map Tk.enc).length:Int);rw[mf]at Ze;have Ze:DN 29 [.int .i64 v,.int .i64 (t.net.ad.map Tk.enc).length] (.bool (!(cP t.net.ad.length v))):=by rw[mf];exact Ze
  refine Or.inl ⟨by kernel_rfl,?_⟩;refine⟨Int.natCast_nonneg k,_,aV (e:=aC) hv,?_⟩;refine⟨_,rfl,_,Ze,?_⟩;refine⟨λq=>?_,λq=>?_⟩
  .have q:(!(!(cP t.net.ad.length v)))=true:=q
   rw[Bool.not_not]at q;rw[if_pos q]at hC;rw[hC]at Fp;have Fp:N=some (k,4):=Fp;rw[Fp]at aI;exact bad 4 aI (by decide)
  have q:(!(!(cP t.net.ad.length v)))=false:=q;rw[Bool.not_not]at q;rw[if_neg (by rw[q];decide)]at hC;refine Or.inl ⟨by kernel_rfl,?_⟩;refine⟨λh6=>?_,λh6=>?_⟩
  .have h6:(k:Int)>0:=of_decide_eq_true h6
   have Rj:=wL h6 bF XD;rcases Rj with⟨u,hu,hw,qn⟩
   rw[if_pos qn,hu]at hC;refine⟨Int.natCast_nonneg k,_,aV (e:=aC) hv,?_⟩;refine⟨((k-1:Nat):Int),hw,?_⟩;refine⟨Int.natCast_nonneg _,_,aV (e:=aC) hu,?_⟩;refine⟨λq=>?_,λq=>?_⟩
   .have hC:rA t.net.ad.length l k=2:=hC.trans (if_pos (of_decide_eq_true q))
    rw[hC]at Fp;have Fp:N=some (k,2):=Fp;rw[Fp]at aI;exact bad 2 aI (by decide)
   have hC:rA t.net.ad.length l k=0:=hC.trans (if_neg (of_decide_eq_false q));rw[hC]at Fp;refine⟨_,Na,?_⟩;exact⟨⟨rfl,rfl⟩,⟨k+1,bF,Fp,rfl⟩,jI⟩
  have h6:¬(k:Int)>0:=of_decide_eq_false h6;rw[if_neg (λh=>h6 (Int.ofNat_lt.2 h))]at hC;rw[hC]at Fp;refine⟨_,Na,?_⟩;exact⟨⟨rfl,rfl⟩,⟨k+1,bF,Fp,rfl⟩,jI⟩
theorem Qf{n:Nat}(h:n<=60):((2^n:Nat):Int)<2305843009213693952:=by
 have:2^n<2^61:=Nat.pow_lt_pow_right (by decide) (by omega);omega
theorem Qg{q:Nat}(h:(q:Int)<2305843009213693952):IntKind.i64.wrap (q:Int)=q:=wrap64 (by omega) (by omega)
theorem Te(n:Nat)(hn:n<=60):DN 7 [.int .i64 n] (.int .i64 ((2^n:Nat):Int)):=by
 refine dX Tryz.func7 Tryz.call7 rfl rfl ?_;refine⟨[0,3,4],0,[],λU=>∃i:Nat,i<=n/\U=⟨[(0,.int .i64 n),(3,.int .i64 ((2^i:Nat):Int)),(4,.int .i64 i)],[],.aQ⟩,λU=>(1000-aZ 4 U).toNat,rfl,⟨rfl,rfl⟩,⟨0,Nat.zero_le _,rfl⟩,?_⟩;rintro U⟨i,hi,rfl⟩;refine⟨λh=>?_,λh=>?_⟩
 .have h:(i:Int)<n:=of_decide_eq_true h
  have hp:=Qf (n:=i+1) (by omega);have e:(2:Int)*((2^i:Nat):Int)=((2^(i+1):Nat):Int):=by rw[Nat.pow_succ];omega
  refine⟨((2^(i+1):Nat):Int),(by rw[e];exact Qg hp),?_⟩;refine⟨(i:Int)+1,wrap64 (by omega) (by omega),?_⟩;refine⟨⟨rfl,rfl⟩,⟨i+1,by omega,rfl⟩,?_⟩;show(1000-((i:Int)+1)).toNat<(1000-(i:Int)).toNat;omega
 have h:¬(i:Int)<n:=of_decide_eq_false h;have e:i=n:=by omega
 subst e;rfl
theorem XE(s i:Nat)(hs:s<2^60)(hi:i<=60):DN 16 [.int .i64 s,.int .i64 i] (.bool (s.testBit i)):=by
 refine dX Tryz.func16 Tryz.call16 rfl rfl ?_;have hp:0<2^i:=Nat.two_pow_pos i;have h1:(s:Int).tdiv ((2^i:Nat):Int)=((s/2^i:Nat):Int):=by rw[Int.tdiv_eq_ediv_of_nonneg (by omega)];rfl
 have h2:s/2^i<=s:=Nat.div_le_self _ _;have h4:((s/2^i:Nat):Int)<2305843009213693952:=Int.lt_of_le_of_lt (Int.ofNat_le.2 h2) (by omega);have h3:((s/2^i:Nat):Int).tmod 2=((s/2^i %2:Nat):Int):=by rw[Int.tmod_eq_emod_of_nonneg (Int.natCast_nonneg _)];rfl
 refine⟨_,rfl,_,Te i hi,?_⟩;refine⟨by omega,((s/2^i:Nat):Int),(by rw[h1];exact Qg h4),?_⟩;refine⟨by decide,_,h3,?_⟩;show some (D.bool _)=some (D.bool _);congr 2;rw[Nat.testBit_eq_decide_div_mod_eq];rcases Nat.mod_two_eq_zero_or_one (s/2^i)with e|e<;>rw[e]<;>rfl
theorem Fq{α:Type}{l:List α}{i:Nat}(hi:i<l.length):(l.take (i+1)).eraseIdx i=(l.take i).eraseIdx i:=by
 rw[List.take_add_one,List.getElem?_eq_getElem hi];have h:(l.take i).length=i:=by rw[List.length_take];omega
 rw[List.eraseIdx_append_of_length_le (by omega),h,Nat.sub_self,List.eraseIdx_of_length_le (l:=l.take i) (by omega)];simp
theorem Fs{α:Type}{l:List α}{i g:Nat}{x:α}(hx:l[i]?=some x)(hg:i≠g):(l.take i).eraseIdx g++[x]=(l.take (i+1)).eraseIdx g:=by
 have hi:=(List.getElem?_eq_some_iff.1 hx).1;have h:(l.take i).length=i:=by rw[List.length_take];omega
 rw[List.take_add_one,hx];by_cases h1:g<i
 .rw[List.eraseIdx_append_of_lt_length (by omega)];rfl
 rw[List.eraseIdx_of_length_le (by omega),List.eraseIdx_of_length_le (by simp;omega)];rfl
theorem aa7(t:Task)(uJ:t.hull.parts.length<=10)(s g:Nat)(hs:s<2^60)(aa8:∀i,i<t.hull.parts.length->s.testBit i=!(i==g)):DN 6 [.agg t.enc,.int .i64 s] (.agg (t.hull.less g).enc):=by
 have hlen:=bD Pt.enc t.hull.parts;refine dX Tryz.func6 Tryz.call6 rfl rfl ?_;refine⟨[1,2,4,5,6],3,[(.cell 2 0,7)],λU=>∃i gg:Nat,i<=t.hull.parts.length/\U=⟨[(1,.int .i64 s),(2,.loc 0 0),(4,.loc 1 0),(5,.loc 2 0),(6,.int .i64 i)],[.flat false t.enc,.flat false [.ao,.int .i64 0,.int .i64 0],.flat false [.sl 3 gg 0 (((t.hull.parts.take i).eraseIdx g).map Pt.enc).length,.int .i64 t.hull.mA,.int .i64 t.hull.fv],.rows false gg 7 (((t.hull.parts.take i).eraseIdx g).map Pt.enc)],.aQ⟩,
  λU=>(1000-aZ 6 U).toNat,rfl,⟨rfl,rfl⟩,⟨0,0,Nat.zero_le _,rfl⟩,?_⟩
 rintro U⟨i,gg,hi,rfl⟩;refine⟨λh4=>?_,λh4=>?_⟩
 .have h4:=of_decide_eq_true h4
  rw[hlen]at h4;have bC:i<t.hull.parts.length:=by omega
  obtain⟨x,hx⟩:∃x,t.hull.parts[i]?=some x:=⟨_,List.getElem?_eq_getElem bC⟩;have less:(1000-((i:Int)+1)).toNat<(1000-(i:Int)).toNat:=by omega
  have F7:=wrap64 (n:=(i:Int)+1) (by omega) (by omega);have h0:(0:Int)<=i:=Int.natCast_nonneg i;have h16:=XE s i hs (by omega);rw[aa8 i bC]at h16;have ia:((((t.hull.parts.take i).eraseIdx g).map Pt.enc).length+1)*64<=ay:=by
   have:=(List.eraseIdx_sublist (t.hull.parts.take i) g).length_le;rw[List.length_map];rw[List.length_take]at this;unfold ay;omega
  refine⟨_,rfl,_,h16,?_⟩;refine⟨λq=>?_,λq=>?_⟩
  .have eh:i≠g:=by simpa using q
   have p8:((t.hull.parts.take i).eraseIdx g).map Pt.enc++[x.enc]=((t.hull.parts.take (i+1)).eraseIdx g).map Pt.enc:=by
    rw[<-Fs hx eh,List.map_append];rfl
   refine Or.inl ⟨by kernel_rfl,?_⟩;refine⟨h0,_,aV (e:=Pt.enc) hx,?_⟩;refine⟨trivial,cA (by rw[aG];rfl) ⟨Nat.le_of_eq (Nat.zero_add _),ia,_,ij rfl,_,p8,?_⟩⟩;refine⟨_,F7,?_⟩;exact⟨⟨rfl,rfl⟩,⟨i+1,gg+1,bC,rfl⟩,less⟩
  have he:i=g:=by simpa using q
  refine⟨_,F7,?_⟩;subst he;exact⟨⟨rfl,rfl⟩,⟨i+1,gg,bC,by rw[Fq bC];rfl⟩,less⟩
 have h4:=of_decide_eq_false h4;rw[hlen]at h4;have e:t.hull.parts.take i=t.hull.parts:=List.take_of_length_le (by omega);rw[e];exact ej (ag (ga rfl rfl) (ag rfl (ag rfl rfl)))
def Pt.more(x:Pt)(n:Int):Pt:=⟨x.name,x.pos,x.tI+n,x.uH+n,x.jE,x.Cu,x.Al⟩
def Hull.more(h:Hull)(k:Nat)(n:Int):Hull:=⟨(match h.parts[k]? with|some x=>h.parts.set k (x.more n)|none=>h.parts),h.mA,h.fv⟩
theorem XF(h:Hull)(uJ:h.parts.length<=10)(k:Nat)(x:Pt)(hx:h.parts[k]?=some x)(ho:x.Ok)(n:Int)(h0:0<=n)(h1:n<=1000000):DN 10 [.agg h.enc,.int .i64 k,.int .i64 n] (.agg (h.more k n).enc):=by
 have hk:=(List.getElem?_eq_some_iff.1 hx).1;have hlen:=bD Pt.enc h.parts;have a1:=ho.w0;have a2:=ho.w;have a3:=ho.w1;have qn:(0:Int)<=k:=Int.natCast_nonneg k;have Du:(k:Int)<(h.parts.map Pt.enc).length:=by rw[hlen];omega
 have aI:(h.parts.map Pt.enc)[k]?=some x.enc:=by rw[List.getElem?_map,hx];rfl
 have hz:0+((k:Int)).toNat=k:=by omega
 have dE:(h.parts.map Pt.enc).set k (x.more n).enc=(h.parts.set k (x.more n)).map Pt.enc:=(List.map_set ..).symm;have hm:(h.more k n).enc=[.list 7 ((h.parts.set k (x.more n)).map Pt.enc),.int .i64 h.mA,.int .i64 h.fv]:=by
  have e:h.more k n=⟨h.parts.set k (x.more n),h.mA,h.fv⟩:=by unfold Hull.more;simp only[hx]
  rw[e];rfl
 rw[hm];refine dX Tryz.func10 Tryz.call10 rfl rfl ?_;refine⟨trivial,(by rw[List.length_map];show _*64<=ay;unfold ay;omega),?_⟩;refine⟨qn,Du,k,hz,?_⟩;refine⟨_,aI,?_⟩;refine⟨x.tI+n,wrap64 (by omega) (by omega),?_⟩;refine⟨x.uH+n,wrap64 (by omega) (by omega),?_⟩;refine⟨qn,Du,k,hz,?_⟩;refine⟨_,aI,Nat.le_of_ble_eq_true rfl,_,dE,?_⟩;have hl:(h.parts.map Pt.enc).length=((h.parts.set k (x.more n)).map Pt.enc).length:=by rw[List.length_map,List.length_map,List.length_set]
 have hr:∀(bs:List af)(j g:Nat),bs[j]?=some (.rows false g 7 ((h.parts.set k (x.more n)).map Pt.enc))->reify bs 8 (.agg [.sl j g 0 (h.parts.map Pt.enc).length,.int .i64 h.mA,.int .i64 h.fv])=some (.agg [.list 7 ((h.parts.set k (x.more n)).map Pt.enc),.int .i64 h.mA,.int .i64 h.fv]):=λbs j g hj=>ej (ag (ga hj hl) (ag rfl (ag rfl rfl)));exact hr [.flat false [.sl 3 0 0 (h.parts.map Pt.enc).length,.int .i64 h.mA,.int .i64 h.fv],.flat false [.sl 3 0 0 (h.parts.map Pt.enc).length,.int .i64 h.mA,.int .i64 h.fv],.rows false 0 7 [],.rows false 0 7 ((h.parts.set k (x.more n)).map Pt.enc),.flat false [.int .i64 x.tI,.int .i64 x.uH]] 3 0 rfl
theorem aa9(t:Task){a b e:Int}(h:DN 11 [.agg t.enc] (nj a b e)):DN 4 [.agg t.enc] (.bool (e==0)):=by
 refine dX Tryz.func4 Tryz.call4 rfl rfl ?_;exact⟨_,rfl,_,h,rfl⟩
end Go.Proofs.Ball
