/- What ballasted_holds leans on, part VB. No condition. -/
import Derived.Test.YthglcafppddedaaGreatDoorPackUJ
import Derived.Test.YthglcafppddedaaGreatDoorPackUI

set_option linter.all false
namespace Go.V
open Go.RowKit
section
variable{α:Type}
def fN(n:Nat)(k:Nat->α):α:=match n with
 |0=>k 0
 |m+1=>k (Nat.succ m)
def fI(n:Int)(k:Int->α):α:=match n with
 |.ofNat m=>fN m λm=>k (.ofNat m)
 |.negSucc m=>fN m λm=>k (.negSucc m)
def fB(b:Bool)(k:Bool->α):α:=match b with
 |true=>k true
 |false=>k false
def Rn(d:D)(k:D->α):α:=match d with
 |.int kd n=>fI n λn=>k (.int kd n)
 |.bool b=>fB b λb=>k (.bool b)
 |.loc i off=>fN i λi=>fN off λoff=>k (.loc i off)
 |.bH i off=>fN i λi=>fN off λoff=>k (.bH i off)
 |.bM i g r off=>fN i λi=>fN g λg=>fN r λr=>fN off λoff=>k (.bM i g r off)
 |.sl i g off len=>fN i λi=>fN g λg=>fN off λoff=>fN len λlen=>k (.sl i g off len)
 |.gj i off sz len=>fN i λi=>fN off λoff=>fN len λlen=>k (.gj i off sz len)
 |.cn i=>fN i λi=>k (.cn i)
 |d=>k d
def Ui:List D->(List D->α)->α
 |[],k=>k []
 |d::r,k=>Rn d λd=>Ui r λr=>k (d::r)
def YU(d:D)(k:D->α):α:=match d with
 |.agg cs=>Ui cs λcs=>k (.agg cs)
 |d=>Rn d k
def N1:List D->(List D->α)->α
 |[],k=>k []
 |d::r,k=>YU d λd=>N1 r λr=>k (d::r)
def Ey(d:D)(k:D->α):α:=match d with
 |.b9 cs=>N1 cs λcs=>k (.b9 cs)
 |d=>YU d k
def YV:List (List D)->(List (List D)->α)->α
 |[],k=>k []
 |d::r,k=>Ui d λd=>YV r λr=>k (d::r)
def Ez(b:af)(k:af->α):α:=match b with
 |.flat fz cs=>Ui cs λcs=>k (.flat fz cs)
 |.rows fz g sz rs=>fN g λg=>YV rs λrs=>k (.rows fz g sz rs)
 |.map fz ks vs=>N1 ks λks=>N1 vs λvs=>k (.map fz ks vs)
 |b=>k b
def vX:List af->(List af->α)->α
 |[],k=>k []
 |b::r,k=>Ez b λb=>vX r λr=>k (b::r)
def KQ:List af->Nat->af->(List af->α)->α
 |[],_,_,k=>k []
 |_::r,0,b,k=>k (b::r)
 |c::r,n+1,b,k=>KQ r n b λr=>k (c::r)
def B4:List af->af->(List af->α)->α
 |[],b,k=>k [b]
 |c::r,b,k=>B4 r b λr=>k (c::r)
theorem mQ(n:Nat)(k:Nat->α):fN n k=k n:=by cases n<;>rfl
theorem VT(n:Int)(k:Int->α):fI n k=k n:=by cases n<;>simp only[fI,mQ]
theorem VU(b:Bool)(k:Bool->α):fB b k=k b:=by cases b<;>rfl
theorem zH(d:D)(k:D->α):Rn d k=k d:=by cases d<;>simp only[Rn,VT,mQ,VU]
theorem zI:∀(l:List D)(k:List D->α),Ui l k=k l
 |[],_=>rfl
 |d::r,k=>by simp only[Ui,zH,zI r]
theorem KR(d:D)(k:D->α):YU d k=k d:=by
 unfold YU;split
 .exact zI _ _
 exact zH _ _
theorem nW:∀(l:List D)(k:List D->α),N1 l k=k l
 |[],_=>rfl
 |d::r,k=>by simp only[N1,KR,nW r]
theorem EA(d:D)(k:D->α):Ey d k=k d:=by
 unfold Ey;split
 .exact nW _ _
 exact KR _ _
theorem KS:∀(l:List (List D))(k:List (List D)->α),YV l k=k l
 |[],_=>rfl
 |d::r,k=>by simp only[YV,zI,KS r]
theorem zJ(b:af)(k:af->α):Ez b k=k b:=by cases b<;>simp only[Ez,zI,mQ,KS,nW]
theorem iy:∀(l:List af)(k:List af->α),vX l k=k l
 |[],_=>rfl
 |d::r,k=>by simp only[vX,zJ,iy r]
theorem zK:∀(l:List af)(i:Nat)(b:af)(k:List af->α),KQ l i b k=k (l.set i b)
 |[],_,_,_=>rfl
 |_::_,0,_,_=>rfl
 |c::r,n+1,b,k=>by simp only[KQ,zK r,List.set_cons_succ]
theorem vY:∀(l:List af)(b:af)(k:List af->α),B4 l b k=k (l++[b])
 |[],_,_=>rfl
 |c::r,b,k=>by simp only[B4,vY r,List.cons_append]
def vZ(tm:List (Nat×D))(dst:Option Nat)(d:D)(k:List (Nat×D)->α):α:=match dst with
 |none=>k tm
 |some t=>k ((t,d)::tm)
def mm(U:St)(dst:Option Nat)(e:bE)(K:St->α):α:=
 match U with
 |⟨tm,bs,y⟩=>match e with
  |.val d=>Ey d λd=>vZ tm dst d λtm=>K ⟨tm,bs,y⟩
  |.new b mk=>Ey (mk bs.length) λd=>Ez b λb=>B4 bs b λbs=>vZ tm dst d λtm=>K ⟨tm,bs,y⟩
  |.set i b d=>Ez b λb=>KQ bs i b λbs=>Ey d λd=>vZ tm dst d λtm=>K ⟨tm,bs,y⟩
  |.res d as=>Ey d λd=>vX (aK bs d as) λbs=>vZ tm dst d λtm=>K ⟨tm,bs,y⟩
  |.dJ d bs y=>Ey d λd=>vX bs λbs=>vZ tm dst d λtm=>K ⟨tm,bs,y⟩
  |.eo b mk L=>Ey (mk bs.length) λd=>vX (au bs 0 L++[b]) λbs=>vZ tm dst d λtm=>K ⟨tm,bs,y⟩
  |e=>K (bJ ⟨tm,bs,y⟩ dst e)
theorem KT(tm:List (Nat×D))(dst:Option Nat)(d:D)(bs:List af)(y:eG)(K:St->α):(vZ tm dst d λtm=>K ⟨tm,bs,y⟩)=K (St.put ⟨tm,bs,y⟩ dst d):=by
 cases dst<;>rfl
theorem zM(U:St)(dst:Option Nat)(e:bE)(K:St->α):mm U dst e K=K (bJ U dst e):=by
 cases U with
 |mk tm bs y=>cases e<;>first|rfl|(simp only[mm,EA,zJ,vY,zK,iy,KT];rfl)
end
def gC:Int->Int->Bool
 |.ofNat m,.ofNat n=>Nat.ble m n
 |.ofNat _,.negSucc _=>false
 |.negSucc _,.ofNat _=>true
 |.negSucc m,.negSucc n=>Nat.ble n m
def H0:Int->Int->Bool
 |.ofNat m,.ofNat n=>Nat.beq m n
 |.negSucc m,.negSucc n=>Nat.beq m n
 |_,_=>false
theorem aU{a b:Int}:gC a b=true↔a<=b:=by
 cases a<;>cases b<;>simp only[gC,Nat.ble_eq,Int.ofNat_eq_natCast,Bool.false_eq_true,true_iff,false_iff]<;>omega
theorem EB(a b:Int):decide (a<=b)=gC a b:=by
 cases h:gC a b with
 |true=>exact decide_eq_true (aU.1 h)
 |false=>exact decide_eq_false λhh=>by rw[aU.2 hh]at h;cases h
theorem EC(a b:Int):decide (a<b)=!(gC b a):=by
 rw[<-EB];by_cases h:a<b
 .rw[decide_eq_true h,decide_eq_false (by omega)];rfl
 rw[decide_eq_false h,decide_eq_true (by omega)];rfl
theorem oN{a b:Int}:H0 a b=true↔a=b:=by
 cases a<;>cases b<;>simp only[H0,Nat.beq_eq,Int.ofNat_eq_natCast,Bool.false_eq_true,true_iff,false_iff]<;>omega
theorem KU(a b:Int):(a==b)=H0 a b:=by
 cases h:H0 a b with
 |true=>rw[oN.1 h];exact beq_self_eq_true b
 |false=>exact beq_eq_false_iff_ne.2 λhh=>by rw[oN.2 hh]at h;cases h
def iz(k:IntKind)(n:Int):Int:=match k with
 |.i64=>match gC (-9223372036854775808) n,gC n 9223372036854775807 with
  |true,true=>n
  |_,_=>IntKind.i64.wrap n
 |k=>k.wrap n
theorem kG(k:IntKind)(n:Int):k.wrap n=iz k n:=by
 unfold iz;split
 .split
  .rename_i h1 h2
   exact wrap64 (aU.1 h1) (aU.1 h2)
  rfl
 rfl
def Uj:List UInt8->List UInt8->Bool
 |_,[]=>false
 |[],_::_=>true
 |a::x,b::y=>match Nat.blt a.toNat b.toNat with
  |true=>true
  |false=>match Nat.beq a.toNat b.toNat with
   |true=>Uj x y
   |false=>false
theorem KV:∀(l m:List UInt8),Op.bytesLess l m=Uj l m
 |_,[]=>by simp[Op.bytesLess,Uj]
 |[],_::_=>by simp[Op.bytesLess,Uj]
 |a::x,b::y=>by
  have ih:=KV x y;simp only[Op.bytesLess,Uj,ih];have h1:(decide (a<b))=Nat.blt a.toNat b.toNat:=by
   rw[Bool.eq_iff_iff,decide_eq_true_iff,Nat.blt_eq,UInt8.lt_iff_toNat_lt]
  have h2:(a==b)=Nat.beq a.toNat b.toNat:=by
   rw[Bool.eq_iff_iff,beq_iff_eq,Nat.beq_eq,UInt8.toNat_inj]
  rw[h1,h2];cases Nat.blt a.toNat b.toNat<;>cases Nat.beq a.toNat b.toNat<;>rfl
def ltS(a b:ByteArray):Bool:=Uj a.data.toList b.data.toList
theorem Ro(a b:ByteArray):Op.bytesLess a.toList b.toList=ltS a b:=by
 rw[ByteArray.toList_eq,ByteArray.toList_eq,KV];rfl
mutual
def ju:D->D->Bool
 |.eL,.eL|.tt,.tt|.ff,.ff|.cO,.cO|.ao,.ao|.a7,.a7|.j7,.j7|.fh,.fh|.dI,.dI=>true
 |.bool a,.bool b=>match a,b with|true,true|false,false=>true|_,_=>false
 |.int k a,.int l b=>match same k l with|true=>H0 a b|false=>false
 |.str a,.str b=>MU a b
 |.agg a,.agg b=>lJ a b
 |.b9 a,.b9 b=>lJ a b
 |.ro a,.ro b=>lJ a b
 |.loc i o,.loc j p=>match Nat.beq i j with|true=>Nat.beq o p|false=>false
 |.bH i o,.bH j p=>match Nat.beq i j with|true=>Nat.beq o p|false=>false
 |.bM i g r o,.bM j h s p=>match Nat.beq i j,Nat.beq g h,Nat.beq r s with|true,true,true=>Nat.beq o p|_,_,_=>false
 |.sl i g o n,.sl j h p m=>match Nat.beq i j,Nat.beq g h,Nat.beq o p with|true,true,true=>Nat.beq n m|_,_,_=>false
 |.list s a,.list t b=>match Nat.beq s t with|true=>ED a b|false=>false
 |.bR f a b,.bR g c d=>match decide (f=g),lJ a c with|true,true=>lJ b d|_,_=>false
 |.cn i,.cn j=>Nat.beq i j
 |.dY i,.dY j=>Nat.beq i j
 |.nk a b,.nk c d=>match lJ a c with|true=>lJ b d|false=>false
 |.gj i g o n,.gj j h p m=>match Nat.beq i j,Nat.beq g h,Nat.beq o p with|true,true,true=>Nat.beq n m|_,_,_=>false
 |_,_=>false
def lJ:List D->List D->Bool
 |[],[]=>true
 |a::r,b::s=>match ju a b with|true=>lJ r s|false=>false
 |_,_=>false
def ED:List (List D)->List (List D)->Bool
 |[],[]=>true
 |a::r,b::s=>match lJ a b with|true=>ED r s|false=>false
 |_,_=>false
end
mutual
theorem so:∀{a b:D},ju a b=true->a=b
 |.agg a,b,h=>by cases b<;>first|(simp[ju]at h;done)|(have h:=ew (by simpa only[ju]using h);rw[h])
 |.b9 a,b,h=>by cases b<;>first|(simp[ju]at h;done)|(have h:=ew (by simpa only[ju]using h);rw[h])
 |.ro a,b,h=>by cases b<;>first|(simp[ju]at h;done)|(have h:=ew (by simpa only[ju]using h);rw[h])
 |.list s a,b,h=>by
  cases b<;>first|(simp[ju]at h;done)|skip
  simp only[ju]at h;split at h
  .rename_i h1;rw[Nat.eq_of_beq_eq_true h1,zN h]
  cases h
 |.bR f a c,b,h=>by
  cases b<;>first|(simp[ju]at h;done)|skip
  simp only[ju]at h;split at h
  .rename_i h1 h2;rw[of_decide_eq_true h1,ew h2,ew h]
  cases h
 |.nk a c,b,h=>by
  cases b<;>first|(simp[ju]at h;done)|skip
  simp only[ju]at h;split at h
  .rename_i h1;rw[ew h1,ew h]
  cases h
 |.eL,b,h=>by cases b<;>first|rfl|(simp[ju]at h;done)
 |.tt,b,h=>by cases b<;>first|rfl|(simp[ju]at h;done)
 |.ff,b,h=>by cases b<;>first|rfl|(simp[ju]at h;done)
 |.cO,b,h=>by cases b<;>first|rfl|(simp[ju]at h;done)
 |.ao,b,h=>by cases b<;>first|rfl|(simp[ju]at h;done)
 |.a7,b,h=>by cases b<;>first|rfl|(simp[ju]at h;done)
 |.j7,b,h=>by cases b<;>first|rfl|(simp[ju]at h;done)
 |.dI,b,h=>by cases b<;>first|rfl|(simp[ju]at h;done)
 |.fh,b,h=>by cases b<;>first|rfl|(simp[ju]at h;done)
 |.bool x,b,h=>by cases b<;>first|(simp[ju]at h;done)|(rename_i y;cases x<;>cases y<;>first|rfl|(simp[ju]at h;done))
 |.int k n,b,h=>by
  cases b<;>first|(simp[ju]at h;done)|skip
  simp only[ju]at h;split at h
  .rename_i h1;rw[fq h1,oN.1 h]
  cases h
 |.str s,b,h=>by cases b<;>first|(simp[ju]at h;done)|(have h:=yR.1 (by simpa only[ju]using h);rw[h])
 |.loc i o,b,h=>by
  cases b<;>first|(simp[ju]at h;done)|skip
  simp only[ju]at h;split at h
  .rename_i h1;rw[Nat.eq_of_beq_eq_true h1,Nat.eq_of_beq_eq_true h]
  cases h
 |.bH i o,b,h=>by
  cases b<;>first|(simp[ju]at h;done)|skip
  simp only[ju]at h;split at h
  .rename_i h1;rw[Nat.eq_of_beq_eq_true h1,Nat.eq_of_beq_eq_true h]
  cases h
 |.gj i g o n,b,h=>by
  cases b<;>first|(simp[ju]at h;done)|skip
  simp only[ju]at h;split at h
  .rename_i h1 h2 h3;rw[Nat.eq_of_beq_eq_true h1,Nat.eq_of_beq_eq_true h2,Nat.eq_of_beq_eq_true h3,Nat.eq_of_beq_eq_true h]
  cases h
 |.bM i g r o,b,h=>by
  cases b<;>first|(simp[ju]at h;done)|skip
  simp only[ju]at h;split at h
  .rename_i h1 h2 h3;rw[Nat.eq_of_beq_eq_true h1,Nat.eq_of_beq_eq_true h2,Nat.eq_of_beq_eq_true h3,Nat.eq_of_beq_eq_true h]
  cases h
 |.sl i g o n,b,h=>by
  cases b<;>first|(simp[ju]at h;done)|skip
  simp only[ju]at h;split at h
  .rename_i h1 h2 h3;rw[Nat.eq_of_beq_eq_true h1,Nat.eq_of_beq_eq_true h2,Nat.eq_of_beq_eq_true h3,Nat.eq_of_beq_eq_true h]
  cases h
 |.cn i,b,h=>by cases b<;>first|(simp[ju]at h;done)|(have h:=Nat.eq_of_beq_eq_true (by simpa only[ju]using h);rw[h])
 |.dY i,b,h=>by cases b<;>first|(simp[ju]at h;done)|(have h:=Nat.eq_of_beq_eq_true (by simpa only[ju]using h);rw[h])
 |.j8 _,b,h=>by cases b<;>(simp[ju]at h;done)
 |.iY _,b,h=>by cases b<;>(simp[ju]at h;done)
 |.gp _ _,b,h=>by cases b<;>(simp[ju]at h;done)
 |.pO _ _,b,h=>by cases b<;>(simp[ju]at h;done)
theorem ew:∀{a b:List D},lJ a b=true->a=b
 |[],[],_=>rfl
 |[],_::_,h=>by simp[lJ]at h
 |_::_,[],h=>by simp[lJ]at h
 |a::r,b::s,h=>by
  simp only[lJ]at h;split at h
  .rename_i h1;rw[so h1,ew h]
  cases h
theorem zN:∀{a b:List (List D)},ED a b=true->a=b
 |[],[],_=>rfl
 |[],_::_,h=>by simp[ED]at h
 |_::_,[],h=>by simp[ED]at h
 |a::r,b::s,h=>by
  simp only[ED]at h;split at h
  .rename_i h1;rw[ew h1,zN h]
  cases h
end
def xy:af->af->Bool
 |.flat a c,.flat b d=>match a,b with|true,true|false,false=>lJ c d|_,_=>false
 |.rows a g s r,.rows b h t q=>match a,b with|true,true|false,false=>(match Nat.beq g h,Nat.beq s t with|true,true=>ED r q|_,_=>false)|_,_=>false
 |.map a k v,.map b l u=>match a,b with|true,true|false,false=>(match lJ k l with|true=>lJ v u|false=>false)|_,_=>false
 |.aA a s p,.aA b t q=>match a,b with|true,true|false,false=>(match MU s t with|true=>Nat.beq p q|false=>false)|_,_=>false
 |_,_=>false
theorem uA{a b:af}(h:xy a b=true):a=b:=by
 cases a<;>cases b<;>first|(simp[xy]at h;done)|skip
 .rename_i f1 c f2 d
  cases f1<;>cases f2<;>simp[xy]at h<;>rw[ew h]
 .rename_i f1 g s r f2 g2 s2 r2
  cases f1<;>cases f2<;>simp only[xy]at h<;>first|(cases h;done)|skip
  all_goals
   split at h
   .rename_i h1 h2;rw[Nat.eq_of_beq_eq_true h1,Nat.eq_of_beq_eq_true h2,zN h]
   cases h
 .rename_i f1 k v f2 l u
  cases f1<;>cases f2<;>simp only[xy]at h<;>first|(cases h;done)|skip
  all_goals
   split at h
   .rename_i h1;rw[ew h1,ew h]
   cases h
 rename_i f1 s p f2 t q;cases f1<;>cases f2<;>simp only[xy]at h<;>first|(cases h;done)|skip
 all_goals
  split at h
  .rename_i h1;rw[yR.1 h1,Nat.eq_of_beq_eq_true h]
  cases h
def v7(f:Nat->Nat):List af->List (Option af)->Bool
 |[],[]=>true
 |b::r,some c::s=>match xy (b.eg f) c with|true=>v7 f r s|false=>false
 |_,_=>false
theorem B5{f:Nat->Nat}:∀{bs:List af}{l:List (Option af)},v7 f bs l=true->bs.map (λb=>some (b.eg f))=l
 |[],[],_=>rfl
 |[],_::_,h=>by simp[v7]at h
 |_::_,[],h=>by simp[v7]at h
 |b::r,o::s,h=>by
  cases o with
  |none=>simp[v7]at h
  |some c=>
   simp only[v7]at h;split at h
   .rename_i h1;rw[List.map_cons,uA h1,B5 h]
   cases h
end Go.V
namespace Go.V
open Go.RowKit
section
variable{R:Type}
def ah(b:Bool)(x:Option R):Option R:=match b with
 |true=>x
 |false=>none
theorem aa{b:Bool}{x:Option R}{r:R}(h:ah b x=some r):b=true/\x=some r:=by
 cases b
 .cases h
 exact⟨rfl,h⟩
def ra(ti:TI)(op:BinOp)(x y:D)(k:D->Option R):Option R:=
 match x,y with
 |.int kx a,.int ky b=>
  match op with
  |.shl=>ah (gC 0 b) (k (.int kx (iz kx (a*2^(min b.toNat kx.bits)))))
  |.shr=>ah (gC 0 b) (k (.int kx (a.fdiv (2^(min b.toNat kx.bits)))))
  |.add=>ah (same kx ky) (k (.int kx (iz kx (a+b))))
  |.sub=>ah (same kx ky) (k (.int kx (iz kx (a-b))))
  |.mul=>ah (same kx ky) (k (.int kx (iz kx (a*b))))
  |.quo=>ah (same kx ky) (ah (!(H0 b 0)) (k (.int kx (iz kx (a.tdiv b)))))
  |.rem=>ah (same kx ky) (ah (!(H0 b 0)) (k (.int kx (a.tmod b))))
  |.and=>ah (same kx ky) (k (.int kx (bits .and kx a b)))
  |.or=>ah (same kx ky) (k (.int kx (bits .or kx a b)))
  |.xor=>ah (same kx ky) (k (.int kx (bits .xor kx a b)))
  |.andNot=>ah (same kx ky) (k (.int kx (bits .andNot kx a b)))
  |.eql=>ah (same kx ky) (k (.bool (H0 a b)))
  |.neq=>ah (same kx ky) (k (.bool (!(H0 a b))))
  |.lss=>ah (same kx ky) (k (.bool (!(gC b a))))
  |.leq=>ah (same kx ky) (k (.bool (gC a b)))
  |.gtr=>ah (same kx ky) (k (.bool (!(gC a b))))
  |.geq=>ah (same kx ky) (k (.bool (gC b a)))
 |.str a,.str b=>
  match op with
  |.add=>ah (Nat.ble (a.size+b.size) 9223372036854775807) (k (.str (a++b)))
  |.eql=>k (.bool (MU a b))
  |.neq=>k (.bool (!(MU a b)))
  |.lss=>k (.bool (ltS a b))
  |_=>none
 |.agg xs,.agg ys=>
  match ti.eqs,op,ka ti.zero xs ys with
  |true,.eql,some b=>ah (Nat.beq xs.length ti.size) (k (.bool b))
  |true,.neq,some b=>ah (Nat.beq xs.length ti.size) (k (.bool (!b)))
  |_,_,_=>none
 |x,y=>
  match rJ x y with
  |some b=>(match ti.desc,op with
   |.pointer _,.eql=>k (.bool b)
   |.pointer _,.neq=>k (.bool (!b))
   |_,_=>none)
  |none=>match ti.desc,op,di x,di y with
   |.bool,.eql,some a,some b=>k (.bool (a==b))
   |.bool,.neq,some a,some b=>k (.bool (!(a==b)))
   |_,_,_,_=>none
theorem B6{b:Int}(h:(!(H0 b 0))=true):b≠0:=by
 intro e;rw[oN.2 e]at h;cases h
theorem cm{b:Bool}{x:Option R}{r:R}{p:Prop}(h:ah b x=some r)(hp:x=some r->p):dK b p:=cA (aa h).1 (hp (aa h).2)
theorem p9{ti:TI}{op:BinOp}{x y:D}{k:D->Option R}{r:R}(h:ra ti op x y k=some r){k':D->Prop}(hk:∀d,k d=some r->k' d):jN ti op x y k':=by
 unfold ra at h;unfold jN;split at h
 .simp only
  cases op<;>simp only at h⊢
  case add=>exact cm h λh=>⟨_,kG _ _,hk _ h⟩
  case sub=>exact cm h λh=>⟨_,kG _ _,hk _ h⟩
  case mul=>exact cm h λh=>⟨_,kG _ _,hk _ h⟩
  case quo=>exact cm h λh=>⟨B6 (aa h).1,_,kG _ _,hk _ (aa h).2⟩
  case rem=>exact cm h λh=>⟨B6 (aa h).1,_,rfl,hk _ (aa h).2⟩
  case shl=>exact⟨aU.1 (aa h).1,_,kG _ _,hk _ (aa h).2⟩
  case shr=>exact⟨aU.1 (aa h).1,_,rfl,hk _ (aa h).2⟩
  case eql=>exact cm h λh=>by rw[KU];exact hk _ h
  case neq=>exact cm h λh=>by rw[show∀a b:Int,(a !=b)=!(a==b)fromλ_ _=>rfl,KU];exact hk _ h
  case lss=>exact cm h λh=>by rw[EC];exact hk _ h
  case leq=>exact cm h λh=>by rw[EB];exact hk _ h
  case gtr=>exact cm h λh=>by rw[show∀a b:Int,decide (a>b)=decide (b<a)fromλ_ _=>rfl,EC];exact hk _ h
  case geq=>exact cm h λh=>by rw[show∀a b:Int,decide (a>=b)=decide (b<=a)fromλ_ _=>rfl,EB];exact hk _ h
  all_goals exact cm h λh=>⟨_,rfl,hk _ h⟩
 .simp only
  cases op<;>simp only at h⊢<;>first|(cases h;done)|skip
  .obtain⟨h1,h2⟩:=aa h
   refine⟨?_,hk _ h2⟩;have:=Nat.le_of_ble_eq_true h1;omega
  .rw[DT];exact hk _ h
  .rw[DT];exact hk _ h
  rw[Ro];exact hk _ h
 .simp only
  split at h
  .rename_i h1 h2;simp only[h1,h2];exact cm h λh=>hk _ h
  .rename_i h1 h2;simp only[h1,h2];exact cm h λh=>hk _ h
  cases h
 rename_i US Pr hn3;split
 .exact(US _ _ _ _ rfl rfl).elim
 .exact(Pr _ _ rfl rfl).elim
 .exact(hn3 _ _ rfl rfl).elim
 split at h
 .rename_i h0
  simp only[h0];split at h
  .rename_i h1;simp only[h1];exact hk _ h
  .rename_i h1;simp only[h1];exact hk _ h
  cases h
 rename_i h0;simp only[h0];split at h
 .rename_i h1 h2 h3;simp only[h1,h2,h3];exact hk _ h
 .rename_i h1 h2 h3;simp only[h1,h2,h3];exact hk _ h
 cases h
def KW(a b:Int):Int:=match gC a b with|true=>a|false=>b
def Rq(a b:Int):Int:=match gC a b with|true=>b|false=>a
theorem zO(a b:Int):min a b=KW a b:=by
 unfold KW;cases h:gC a b with
 |true=>have:=aU.1 h;simp only;omega
 |false=>
  have:¬a<=b:=λhh=>by rw[aU.2 hh]at h;cases h
  simp only;omega
theorem N2(a b:Int):max a b=Rq a b:=by
 unfold Rq;cases h:gC a b with
 |true=>have:=aU.1 h;simp only;omega
 |false=>
  have:¬a<=b:=λhh=>by rw[aU.2 hh]at h;cases h
  simp only;omega
def Rr:List D->(D->Option R)->Option R
 |[.int kx a,.int ky b],k=>ah (same kx ky) (k (.int kx (KW a b)))
 |[.int kx a,.int ky b,.int kz c],k=>ah (match same kx ky with|true=>same kx kz|false=>false) (k (.int kx (KW (KW a b) c)))
 |_,_=>none
theorem EE{l:List D}{k:D->Option R}{r:R}(h:Rr l k=some r){k':D->Prop}(hk:∀d,k d=some r->k' d):yS l k':=by
 unfold Rr at h;split at h
 .unfold yS;exact cm h λh=>by rw[zO];exact hk _ h
 .unfold yS;exact cm h λh=>by rw[zO,zO];exact hk _ h
 cases h
def Rs:List D->(D->Option R)->Option R
 |[.int kx a,.int ky b],k=>ah (same kx ky) (k (.int kx (Rq a b)))
 |_,_=>none
theorem EF{l:List D}{k:D->Option R}{r:R}(h:Rs l k=some r){k':D->Prop}(hk:∀d,k d=some r->k' d):AR l k':=by
 unfold Rs at h;split at h
 .unfold AR;exact cm h λh=>by rw[N2];exact hk _ h
 cases h
def Rt:D->(D->Option R)->Option R
 |.list _ rows,k=>k (.int .i64 (Int.ofNat rows.length))
 |.ao,k=>k (.int .i64 0)
 |.sl _ _ _ len,k=>k (.int .i64 (Int.ofNat len))
 |.gj _ _ _ len,k=>k (.int .i64 (Int.ofNat len))
 |_,_=>none
theorem EG{d:D}{k:D->Option R}{r:R}(h:Rt d k=some r){k':D->Prop}(hk:∀d,k d=some r->k' d):DE d k':=by
 unfold Rt at h;split at h<;>first|(cases h;done)|exact hk _ h
def EH{α:Type}:List α->Bool|[]=>true|_=>false
theorem H2{α:Type}{l:List α}(h:EH l=true):l=[]:=by cases l;rfl;cases h
def zP(e:Nat)(bs:List af)(size bytes:Nat)(s:D)(ys:D)(k:bE->Option R):Option R:=
 match rowsOf bs ys with
 |none=>none
 |some (sz,rows)=>
  ah (match Nat.beq sz size with|true=>true|false=>EH rows)<|
  match s with
  |.ao=>ah (Nat.ble (rows.length*bytes) ay) (k (.new (.rows false 0 size rows) λi=>.sl i 0 0 rows.length))
  |.sl i g off len=>
   match bs[i]? with
   |some (.rows false g' Ng rs)=>
    ah (match Nat.beq g g' with|true=>Nat.beq Ng size|false=>false)<|ah (Nat.ble (off+len) rs.length)<|ah (Nat.ble ((len+rows.length)*bytes) ay)<|
     k (.set i (.rows false (g+1) size ((rs.drop off).take len++rows)) (.sl i (g+1) 0 ((rs.drop off).take len++rows).length))
   |some (.aA false b pos)=>match ys with
    |.str x=>ah (match Nat.beq size 1,Nat.beq off 0,Nat.beq len b.size,Nat.beq pos (dR b.size g e),Nat.blt e 1099511627776 with|true,true,true,true,true=>true|_,_,_,_,_=>false)<|ah (Nat.ble ((len+x.size)*bytes) ay)<|
     k (.set i (.aA false (b++x) (dR (len+x.size) (g+1) e)) (.sl i (g+1) 0 (len+x.size)))
    |_=>none
   |_=>none
  |_=>none
theorem xz{e:Nat}{bs:List af}{size bytes:Nat}{s ys:D}{k:bE->Option R}{r:R}(h:zP e bs size bytes s ys k=some r){k':bE->Prop}(hk:∀e,k e=some r->k' e):gL e bs size bytes s ys k':=by
 unfold zP at h;unfold gL;split at h
 .cases h
 rename_i sz rows hr;obtain⟨h1,h⟩:=aa h;simp only[hr];refine⟨?_,?_⟩
 .split
  .trivial
  rename_i hb;rw[hb]at h1;exact H2 h1
 split at h
 .obtain⟨h2,h⟩:=aa h
  exact⟨Nat.le_of_ble_eq_true h2,hk _ h⟩
 .split at h
  .rename_i aN
   obtain⟨h2,ha⟩:=aa h;obtain⟨h4,hc⟩:=aa ha;obtain⟨h5,hd⟩:=aa hc;simp only[aN];exact cA h2 ⟨Nat.le_of_ble_eq_true h4,Nat.le_of_ble_eq_true h5,_,rfl,_,rfl,hk _ hd⟩
  .rename_i aN
   split at h
   .obtain⟨h2,ha⟩:=aa h
    obtain⟨h4,hc⟩:=aa ha;simp only[aN];exact cA h2 ⟨Nat.le_of_ble_eq_true h4,hk _ hc⟩
   cases h
  cases h
 cases h
def B7(ks vs:List D)(key z:D)(ok:Bool)(k:bE->Option R):Option R:=
 match fx key ks with
 |none=>none
 |some none=>match ok with
  |false=>k (.val z)
  |true=>k (.val (.b9 [z,.ff]))
 |some (some i)=>match vs[i]? with
  |none=>none
  |some d=>match ok with
   |false=>k (.val d)
   |true=>k (.val (.b9 [d,.tt]))
theorem nX{ks vs:List D}{key z:D}{ok:Bool}{k:bE->Option R}{r:R}(h:B7 ks vs key z ok k=some r){k':bE->Prop}(hk:∀e,k e=some r->k' e):eZ ks vs key z ok k':=by
 unfold B7 at h;unfold eZ;split at h
 .cases h
 .rename_i hf
  cases ok
  .exact⟨_,hf,_,rfl,hk _ h⟩
  exact⟨_,hf,_,_,⟨rfl,rfl⟩,hk _ h⟩
 rename_i hf;split at h
 .cases h
 rename_i hv;cases ok
 .exact⟨_,hf,_,hv,hk _ h⟩
 exact⟨_,hf,_,_,⟨hv,rfl⟩,hk _ h⟩
def KX(tk:TI)(bs:List af)(m key x:D)(k:bE->Option R):Option R:=
 match m with
 |.cn i=>match bs[i]? with
  |some (.map false ks vs)=>ah (match gG tk key,nr x with|true,true=>kS i bs|_,_=>false)<|match fx key ks with
   |none=>none
   |some (some j)=>k (.set i (.map false ks (vs.set j x)) .eL)
   |some none=>k (.set i (.map false (ks++[key]) (vs++[x])) .eL)
  |_=>none
 |_=>none
def EI(c:Nat)(tk:TI)(key x:D)(k:bE->Option R):Option R:=
 match key,tk.desc,x with
 |.int .i64 n,.int .i64,.int .i64 v=>ah (H0 v (pP c n)) (k (.res .eL []))
 |_,_,_=>none
theorem rb{c:Nat}{tk:TI}{key x:D}{k:bE->Option R}{r:R}(h:EI c tk key x k=some r){k':bE->Prop}(hk:∀e,k e=some r->k' e):AU c tk key x k':=by
 unfold EI at h;unfold AU;split at h
 .rename_i hd
  obtain⟨h1,h⟩:=aa h;rw[hd];exact⟨oN.1 h1,hk _ h⟩
 cases h
theorem tv{tk:TI}{bs:List af}{m key x:D}{k:bE->Option R}{r:R}(h:KX tk bs m key x k=some r){k':bE->Prop}(hk:∀e,k e=some r->k' e):AS tk bs m key x k':=by
 unfold KX at h;unfold AS;split at h
 .split at h
  .rename_i hb
   obtain⟨h1,h⟩:=aa h;simp only[hb];refine cA h1 ?_;split at h
   .cases h
   .rename_i hf;exact⟨_,hf,_,_,⟨rfl,rfl⟩,hk _ h⟩
   rename_i hf;exact⟨_,hf,_,_,⟨rfl,rfl⟩,hk _ h⟩
  cases h
 cases h
def iA(ti:TI)(cs:List D)(off:Nat)(k:bE->Option R):Option R:=
 match ti.agg with
 |true=>match cQ cs off ti.size with
  |some d=>k (.val d)
  |none=>none
 |false=>match cs[off]? with
  |some d=>k (.val d)
  |none=>none
def v8(ti:TI)(bs:List af)(p:D)(k:bE->Option R):Option R:=
 match p with
 |.loc i off=>match bs[i]? with
  |some (.flat _ cells)=>iA ti cells off k
  |_=>none
 |.bH i off=>match bs[i]? with
  |some (.flat _ cells)=>iA ti cells off k
  |_=>none
 |.ro cells=>iA ti cells 0 k
 |.bM i g r off=>match bs[i]? with
  |some (.rows _ g' _ rs)=>ah (Nat.beq g g') (match rs[r]? with
   |some row=>iA ti row off k
   |none=>none)
  |_=>none
 |_=>none
theorem tw{cs:List D}{off n:Nat}{d:D}(h:cQ cs off n=some d):d=.agg ((cs.drop off).take n)/\((cs.drop off).take n).length=n:=by
 unfold cQ at h;split at h
 .rename_i hf
  cases h;refine⟨rfl,?_⟩;have:=Nat.le_of_ble_eq_true hf;simp;omega
 cases h
theorem tA{ti:TI}{bs:List af}{p:D}{k:bE->Option R}{r:R}(h:v8 ti bs p k=some r){k':bE->Prop}(hk:∀e,k e=some r->k' e):fy ti bs p k':=by
 unfold v8 at h;unfold fy;split at h
 .split at h
  .rename_i hb
   simp only[hb];unfold iA at h;split at h
   .rename_i ha
    split at h
    .rename_i hd;simp only[ha,hd,ax];exact hk _ h
    cases h
   rename_i ha;split at h
   .rename_i hd;simp only[ha,hd];exact hk _ h
   cases h
  cases h
 .split at h
  .rename_i hb
   simp only[hb];unfold iA at h;split at h
   .rename_i ha
    split at h
    .rename_i hd
     obtain⟨rfl,hl⟩:=tw hd;simp only[ha];exact⟨_,rfl,hl,hk _ h⟩
    cases h
   rename_i ha;split at h
   .rename_i hd;simp only[ha];exact⟨_,hd,hk _ h⟩
   cases h
  cases h
 .unfold iA at h
  split at h
  .rename_i ha
   simp only[ha];split at h
   .rename_i hd;simp only[hd,ax];exact hk _ h
   cases h
  rename_i ha;simp only[ha];split at h
  .rename_i d hd
   split
   .rename_i e r;simp at hd;subst hd;exact hk _ h
   simp at hd
  cases h
 .split at h
  .rename_i hb
   obtain⟨h1,h⟩:=aa h;simp only[hb];refine cA h1 ?_;split at h
   .rename_i row aI
    refine⟨row,aI,?_⟩;unfold iA at h;split at h
    .rename_i ha
     split at h
     .rename_i hd;simp only[ha,hd,ax];exact hk _ h
     cases h
    rename_i ha;split at h
    .rename_i hd;simp only[ha,hd];exact hk _ h
    cases h
   cases h
  cases h
 cases h
def sq(ti:TI)(bs:List af)(p x:D)(k:bE->Option R):Option R:=
 match cellsOf x with
 |none=>none
 |some ds=>
  ah (Nat.beq ds.length ti.size)<|
  match p with
  |.loc i off=>match bs[i]? with
   |some (.flat false cells)=>ah (fits cells off ds.length) (k (.set i (.flat false (cd cells off ds)) .eL))
   |_=>none
  |.bH i off=>match bs[i]? with
   |some (.flat false cells)=>ah (Nat.ble (off+ds.length) cells.length) (k (.set i (.flat false (cd cells off ds)) .eL))
   |_=>none
  |.bM i g r off=>match bs[i]? with
   |some (.rows false g' sz rs)=>ah (match Nat.beq g g' with|true=>cu ds|false=>false) (match rs[r]? with
    |some row=>ah (Nat.ble (off+ds.length) row.length) (k (.set i (.rows false g' sz (rs.set r (cd row off ds))) .eL))
    |none=>none)
   |_=>none
  |_=>none
def re(ti:TI)(bs:List af)(y:eG)(p d:D)(k:bE->Option R):Option R:=
 match reify bs fuel d with
 |none=>none
 |some d'=>sq ti (au bs 0 (aF bs fuel d)) p d' λe=>match e with
  |.set i b _=>k (.dJ .eL ((au bs 0 (aF bs fuel d)).set i b) y)
  |_=>none
theorem mn{ti:TI}{bs:List af}{p x:D}{k:bE->Option R}{r:R}(h:sq ti bs p x k=some r){k':bE->Prop}(hk:∀e,k e=some r->k' e):nu ti bs p x k':=by
 unfold sq at h;unfold nu;split at h
 .cases h
 rename_i ds hc;simp only[hc];refine cm h λh=>?_;split at h
 .split at h
  .rename_i hb
   obtain⟨h1,h⟩:=aa h;simp only[hb,h1];exact hk _ h
  cases h
 .split at h
  .rename_i hb
   obtain⟨h1,h⟩:=aa h;simp only[hb];exact⟨Nat.le_of_ble_eq_true h1,_,rfl,hk _ h⟩
  cases h
 .split at h
  .rename_i hb
   obtain⟨h1,h⟩:=aa h;simp only[hb];refine cA h1 ?_;split at h
   .rename_i row aI
    obtain⟨h2,h⟩:=aa h;exact⟨row,aI,Nat.le_of_ble_eq_true h2,_,rfl,hk _ h⟩
   cases h
  cases h
 cases h
theorem pC{ti:TI}{bs:List af}{y:eG}{p x:D}{k:bE->Option R}{r:R}(h:re ti bs y p x k=some r){k':bE->Prop}(hk:∀e,k e=some r->k' e):Jj ti bs y p x k':=by
 unfold re at h;split at h
 .cases h
 rename_i d' hd;refine⟨d',hd,mn h λe he=>?_⟩;cases e with
 |set i b d=>exact hk _ he
 |_=>cases he
def mo(p:D)(off:Nat)(k:bE->Option R):Option R:=
 match p with
 |.loc i o=>k (.val (.loc i (o+off)))
 |.bH i o=>k (.val (.bH i (o+off)))
 |.bM i g r o=>k (.val (.bM i g r (o+off)))
 |.ro cs=>k (.val (.ro (cs.drop off)))
 |_=>none
theorem lU{p:D}{off:Nat}{k:bE->Option R}{r:R}(h:mo p off k=some r){k':bE->Prop}(hk:∀e,k e=some r->k' e):eA p off k':=by
 unfold mo at h;unfold eA;split at h
 .simp only[ba];exact hk _ h
 .exact hk _ h
 .exact hk _ h
 .exact hk _ h
 cases h
def iW(bs:List af)(desc:TypeDesc)(cS:Nat)(lit:Bool)(p i:D)(k:bE->Option R):Option R:=
 match i with
 |.int _ n=>
  match desc with
  |.array len _=>
   ah (match gC 0 n with|true=>!(gC (Int.ofNat len) n)|false=>false)<|
   match p with
   |.loc b o=>match lit with
    |true=>k (.val (.loc b (o+n.toNat*cS)))
    |false=>k (.val (.bH b (o+n.toNat*cS)))
   |.bH b o=>k (.val (.bH b (o+n.toNat*cS)))
   |.bM b g r o=>match lit with
    |true=>k (.val (.bM b g r (o+n.toNat*cS)))
    |false=>none
   |.ro cs=>k (.val (.ro (cs.drop (n.toNat*cS))))
   |.gp g o=>k (.val (.gp g (o+n.toNat*cS)))
   |_=>none
  |.slice _=>
   match p with
   |.list sz rows=>ah (Nat.beq sz cS)<|ah (gC 0 n)<|match rows[n.toNat]? with
    |some row=>k (.val (.ro row))
    |none=>none
   |.sl b g off len=>match bs[b]? with
    |some (.rows _ g' sz _)=>ah (match Nat.beq g g' with|true=>Nat.beq sz cS|false=>false)<|ah (gC 0 n)<|ah (!(gC (Int.ofNat len) n))<|k (.val (.bM b g (off+n.toNat) 0))
    |_=>none
   |.gj b off sz len=>ah (Nat.beq sz cS)<|ah (gC 0 n)<|ah (!(gC (Int.ofNat len) n))<|k (.val (.bH b (off+n.toNat*sz)))
   |_=>none
  |_=>none
 |_=>none
theorem uB{a b:Int}(h:(!(gC b a))=true):a<b:=by
 rw[<-EC]at h;exact of_decide_eq_true h
theorem lV{bs:List af}{desc:TypeDesc}{cS:Nat}{lit:Bool}{p i:D}{k:bE->Option R}{r:R}(h:iW bs desc cS lit p i k=some r){k':bE->Prop}(hk:∀e,k e=some r->k' e):eB bs desc cS lit p i k':=by
 unfold iW at h;unfold eB;split at h
 .split at h
  .obtain⟨h1,h⟩:=aa h
   refine⟨?_,?_⟩
   .split at h1
    .rename_i h0;exact⟨aU.1 h0,uB h1⟩
    cases h1
   split at h
   .cases lit
    .exact⟨_,rfl,hk _ h⟩
    simp only[ba];exact hk _ h
   .exact⟨_,rfl,hk _ h⟩
   .cases lit
    .cases h
    exact hk _ h
   .exact⟨_,rfl,hk _ h⟩
   .exact⟨_,rfl,hk _ h⟩
   cases h
  .split at h
   .obtain⟨h1,h⟩:=aa h
    obtain⟨h2,h⟩:=aa h;refine cA h1 ⟨aU.1 h2,?_⟩;split at h
    .rename_i row aI;exact⟨row,aI,hk _ h⟩
    cases h
   .split at h
    .rename_i hb
     obtain⟨h1,h⟩:=aa h;obtain⟨h2,h⟩:=aa h;obtain⟨h3,h⟩:=aa h;simp only[hb];exact cA h1 ⟨aU.1 h2,uB h3,_,rfl,hk _ h⟩
    cases h
   .obtain⟨h1,h⟩:=aa h
    obtain⟨h2,h⟩:=aa h;obtain⟨h3,h⟩:=aa h;exact cA h1 ⟨aU.1 h2,uB h3,_,rfl,hk _ h⟩
   cases h
  cases h
 cases h
def Gl(lo hi:Option D)(n:Nat)(k:Nat->Nat->Option R):Option R:=
 match lo,hi with
 |none,none=>k 0 n
 |some (.int _ a),none=>ah (gC 0 a)<|ah (gC a (Int.ofNat n))<|k a.toNat n
 |none,some (.int _ b)=>ah (gC 0 b)<|ah (gC b (Int.ofNat n))<|k 0 b.toNat
 |some (.int _ a),some (.int _ b)=>ah (gC 0 a)<|ah (gC a b)<|ah (gC b (Int.ofNat n))<|k a.toNat b.toNat
 |_,_=>none
theorem tB{lo hi:Option D}{n:Nat}{k:Nat->Nat->Option R}{r:R}(h:Gl lo hi n k=some r){k':Nat->Nat->Prop}(hk:∀l h,k l h=some r->k' l h):DF lo hi n k':=by
 unfold Gl at h;unfold DF;split at h
 .exact hk _ _ h
 .obtain⟨h1,h⟩:=aa h
  obtain⟨h2,h⟩:=aa h;exact⟨⟨aU.1 h1,aU.1 h2⟩,hk _ _ h⟩
 .obtain⟨h1,h⟩:=aa h
  obtain⟨h2,h⟩:=aa h;exact⟨⟨aU.1 h1,aU.1 h2⟩,hk _ _ h⟩
 .obtain⟨h1,h⟩:=aa h
  obtain⟨h2,h⟩:=aa h;obtain⟨h3,h⟩:=aa h;exact⟨⟨aU.1 h1,aU.1 h2,aU.1 h3⟩,hk _ _ h⟩
 cases h
def EJ(bs:List af)(desc:TypeDesc)(cS:Nat)(p:D)(lo hi:Option D)(k:bE->Option R):Option R:=
 match desc with
 |.slice _=>
  match p with
  |.list sz rows=>
   ah (Nat.beq sz cS)<|match lo,hi with
   |none,none=>k (.val (.list sz rows))
   |some (.int _ a),none=>ah (gC 0 a)<|ah (gC a (Int.ofNat rows.length))<|k (.val (.list sz (rows.drop a.toNat)))
   |none,some (.int _ b)=>ah (gC 0 b)<|ah (gC b (Int.ofNat rows.length))<|k (.val (.list sz (rows.take b.toNat)))
   |some (.int _ a),some (.int _ b)=>ah (gC 0 a)<|ah (gC a b)<|ah (gC b (Int.ofNat rows.length))<|k (.val (.list sz ((rows.take b.toNat).drop a.toNat)))
   |_,_=>none
  |.sl i g off len=>match bs[i]? with
   |some (.rows _ g' sz _)=>
    ah (match Nat.beq g g' with|true=>Nat.beq sz cS|false=>false)<|match lo,hi with
    |none,none=>k (.val (.sl i g off len))
    |some (.int _ a),none=>ah (gC 0 a)<|ah (gC a (Int.ofNat len))<|k (.val (.sl i g (off+a.toNat) (len-a.toNat)))
    |none,some (.int _ b)=>ah (gC 0 b)<|ah (gC b (Int.ofNat len))<|k (.val (.sl i g off b.toNat))
    |some (.int _ a),some (.int _ b)=>ah (gC 0 a)<|ah (gC a b)<|ah (gC b (Int.ofNat len))<|k (.val (.sl i g (off+a.toNat) (b.toNat-a.toNat)))
    |_,_=>none
   |_=>none
  |.gj i off sz len=>ah (Nat.beq sz cS)<|Gl lo hi len λl h=>k (.val (.gj i (off+l*sz) sz (h-l)))
  |_=>none
 |.array n _=>
  match p with
  |.loc i off=>Gl lo hi n λl h=>k (.val (.gj i (off+l*cS) cS (h-l)))
  |_=>none
 |_=>none
theorem zQ{bs:List af}{desc:TypeDesc}{cS:Nat}{p:D}{lo hi:Option D}{k:bE->Option R}{r:R}(h:EJ bs desc cS p lo hi k=some r){k':bE->Prop}(hk:∀e,k e=some r->k' e):jx bs desc cS p lo hi k':=by
 unfold EJ at h;unfold jx;split at h
 .split at h
  .refine cm h λh=>?_
   split at h
   .exact hk _ h
   .obtain⟨h1,h⟩:=aa h
    obtain⟨h2,h⟩:=aa h;exact⟨⟨aU.1 h1,aU.1 h2⟩,_,rfl,hk _ h⟩
   .obtain⟨h1,h⟩:=aa h
    obtain⟨h2,h⟩:=aa h;exact⟨⟨aU.1 h1,aU.1 h2⟩,_,rfl,hk _ h⟩
   .obtain⟨h1,h⟩:=aa h
    obtain⟨h2,h⟩:=aa h;obtain⟨h3,h⟩:=aa h;exact⟨⟨aU.1 h1,aU.1 h2,aU.1 h3⟩,_,rfl,hk _ h⟩
   cases h
  .split at h
   .rename_i hb
    simp only[hb];refine cm h λh=>?_;split at h
    .exact hk _ h
    .obtain⟨h1,h⟩:=aa h
     obtain⟨h2,h⟩:=aa h;exact⟨⟨aU.1 h1,aU.1 h2⟩,hk _ h⟩
    .obtain⟨h1,h⟩:=aa h
     obtain⟨h2,h⟩:=aa h;exact⟨⟨aU.1 h1,aU.1 h2⟩,hk _ h⟩
    .obtain⟨h1,h⟩:=aa h
     obtain⟨h2,h⟩:=aa h;obtain⟨h3,h⟩:=aa h;exact⟨⟨aU.1 h1,aU.1 h2,aU.1 h3⟩,hk _ h⟩
    cases h
   cases h
  .exact cm h λh=>tB h λ_ _ h=>hk _ h
  cases h
 .split at h
  .exact tB h λ_ _ h=>hk _ h
  cases h
 cases h
def KY(te:TI)(j:Nat)(k:bE->Option R):Option R:=
 match(match te.desc with|.slice _=>ur te.zero|_=>none)with
 |some z=>k (.new (.flat false (List.replicate j z)) λi=>.gj i 0 1 j)
 |none=>k (.new (.rows false 0 te.size (List.replicate j te.zero)) λi=>.sl i 0 0 j)
theorem B8{te:TI}{j:Nat}{k:bE->Option R}{r:R}(h:KY te j k=some r){k':bE->Prop}(hk:∀e,k e=some r->k' e):xJ te j k':=by
 unfold KY at h;unfold xJ;cases hd:te.desc<;>simp only[hd]at h⊢<;>first|exact⟨_,rfl,hk _ h⟩|skip
 cases ho:ur te.zero<;>simp only[ho]at h⊢<;>exact⟨_,rfl,hk _ h⟩
end
end Go.V
namespace Go.V
open Go.RowKit
section
variable{R:Type}(T:Nat->Option TI)(C:xa)(cal:Nat->List D->Option D)(calY:Nat->List D->List af->eG->Option (D×List af×eG))
def x9(desc:TypeDesc)(op:BinOp)(c:Bool):Bool:=match desc,op,c with
 |.slice _,.eql,true=>true
 |_,_,_=>false
theorem ya{desc:TypeDesc}{op:BinOp}{c:Bool}(h:x9 desc op c=true):∃e,desc=.slice e/\op=.eql/\c=true:=by
 unfold x9 at h;split at h
 .exact⟨_,rfl,rfl,rfl⟩
 cases h
def notNil(bs:List af):D->Bool
 |.list _ rows=>!(EH rows)
 |.sl i g _ len=>match bs[i]? with
  |some (.rows _ g' _ _)=>(match Nat.beq g g' with|true=>Nat.blt 0 len|false=>false)
  |_=>false
 |_=>false
def zR{R:Type}(m:Option D)(te:Option TI)(desc:TypeDesc)(p:D)(lo hi:Option D)(k:bE->Option R):Option R:=
 match m,te,desc,lo,hi with
 |some (.int _ 0),some _,.slice _,none,some (.int _ 0)=>(match p with
  |.list _ _=>k (.val .ao)
  |.sl _ _ _ _=>k (.val .ao)
  |.ao=>k (.val .ao)
  |_=>none)
 |_,_,_,_,_=>none
theorem xA{R:Type}{m:Option D}{te:Option TI}{desc:TypeDesc}{p:D}{lo hi:Option D}{k:bE->Option R}{r:R}{k':bE->Prop}(hk:∀e,k e=some r->k' e)(h:zR m te desc p lo hi k=some r):jO m te desc p lo hi k':=by
 unfold zR at h;unfold jO;split at h
 .split at h
  .exact hk _ h
  .exact hk _ h
  .exact hk _ h
  cases h
 cases h
def dedup:List Nat->List Nat
 |[]=>[]
 |i::r=>match r.contains i with
  |true=>dedup r
  |false=>i::dedup r
def zS(fk:Nat)(A:List D)(U:St)(k:bE->Option R):Option R:=
 let sel:=dedup (A.flatMap (aF U.boxes fuel))
 let jG:=mY (rP sel) A
 let uU:=(j9 U.boxes sel).map λo=>match o with|some b=>b.eg (rP sel)|none=>default
 ah (uS sel U.boxes)<|ah (DC uU)<|ah (lJ (mY (jL sel U.boxes.length) jG) A)<|ah (v7 (jL sel U.boxes.length) uU (j9 U.boxes sel))<|
 N1 jG λjG=>vX uU λuU=>
 match calY fk jG uU U.y with
 |some (d,bu,y')=>k (.dJ (eg (jL sel U.boxes.length) d) (ed U.boxes sel (bu.map (af.eg (jL sel U.boxes.length)))) y')
 |none=>none
def yb(d:D)(bs:List af):Option af:=
 match d with
 |.sl i g 0 len=>match bs[i]? with
  |some (.rows false g' sz rs)=>ah (Nat.beq g g'&&Nat.beq len rs.length) (some (.rows false g sz rs))
  |_=>none
 |.ao=>some (.rows false 0 1 [])
 |_=>none
theorem EK{d:D}{bs:List af}{b:af}(h:yb d bs=some b):(∃i,bs[i]?=some b/\d=xf b i)\/(d=.ao/\∃sz,b=.rows false 0 sz []):=by
 unfold yb at h;split at h
 .rename_i i g len
  split at h
  .rename_i g' sz rs hb
   obtain⟨h1,h2⟩:=aa h;simp only[Bool.and_eq_true,Nat.beq_eq]at h1;obtain⟨rfl,rfl⟩:=h1;cases h2;exact .inl ⟨_,hb,rfl⟩
  cases h
 .cases h
  exact .inr ⟨rfl,_,rfl⟩
 cases h
def N3(A:List D)(U:St)(b:af)(k:bE->Option R):Option R:=
 match jg b with
 |true=>k (.new b (xf b))
 |false=>ah (uQ b) (k (.eo b (xf b) (A.flatMap (aF U.boxes fuel))))
def Gm(fk:Nat)(fs as cs:List D)(U:St)(k:bE->Option R):Option R:=
 match C.nw fk with
 |true=>match fi U.boxes (fs++(as++cs))with
  |some rs=>N1 rs λrs=>match calY fk rs [] .aQ with
   |some (d,bu,_)=>match yb d bu with
    |some b=>N3 (fs++(as++cs)) U b k
    |none=>none
   |none=>none
  |none=>none
 |false=>match C.sh fk with
  |false=>match fi U.boxes (fs++(as++cs))with
   |some rs=>N1 rs λrs=>match cal fk rs with
    |some d=>k (.res d (fs++(as++cs)))
    |none=>none
   |none=>none
  |true=>zS calY fk (fs++(as++cs)) U k
def K0(s:ByteArray)(a b:Nat):ByteArray:=⟨((s.data.toList.drop a).take (b-a)).toArray⟩
theorem zT(s:ByteArray)(a b:Nat):s.extract a b=K0 s a b:=by
 apply ByteArray.ext;rw[ByteArray.data_extract];apply Array.toList_inj.1;simp[K0,List.extract]
def zU(desc:TypeDesc)(p:D)(lo hi:Option D)(k:bE->Option R):Option R:=
 match desc,p,lo,hi with
 |.string,.str s,none,some (.int _ b)=>ah (gC 0 b)<|ah (gC b (Int.ofNat s.size))<|k (.val (.str (K0 s 0 b.toNat)))
 |.string,.str s,some (.int _ a),none=>ah (gC 0 a)<|ah (gC a (Int.ofNat s.size))<|k (.val (.str (K0 s a.toNat s.size)))
 |.string,.str s,some (.int _ a),some (.int _ b)=>ah (gC 0 a)<|ah (gC a b)<|ah (gC b (Int.ofNat s.size))<|k (.val (.str (K0 s a.toNat b.toNat)))
 |_,_,_,_=>none
theorem xB{desc:TypeDesc}{p:D}{lo hi:Option D}{k:bE->Option R}{r:R}(h:zU desc p lo hi k=some r){k':bE->Prop}(hk:∀e,k e=some r->k' e):kU desc p lo hi k':=by
 unfold zU at h;unfold kU;split at h
 .obtain⟨h1,h3⟩:=aa h
  obtain⟨h2,h4⟩:=aa h3;have g1:=aU.1 h1;have g2:=aU.1 h2;exact⟨⟨g1,g2⟩,by rw[zT];exact hk _ h4⟩
 .obtain⟨h1,h3⟩:=aa h
  obtain⟨h2,h4⟩:=aa h3;have g1:=aU.1 h1;have g2:=aU.1 h2;exact⟨⟨g1,g2⟩,by rw[zT];exact hk _ h4⟩
 .obtain⟨h1,h3⟩:=aa h
  obtain⟨h2,h4⟩:=aa h3;obtain⟨h5,h6⟩:=aa h4;have g1:=aU.1 h1;have g2:=aU.1 h2;have g3:=aU.1 h5;exact⟨⟨⟨g1,g2⟩,by have:(0:Int)<=_:=Int.le_trans g1 g2;exact this,g3⟩,by rw[zT];exact hk _ h6⟩
 cases h
def EL(bs:List af)(te:TI)(x:D)(k:bE->Option R):Option R:=
 match x with
 |.ao=>k (.val (.b9 []))
 |.sl i g off len=>match Nat.beq len 0 with
  |true=>k (.val (.b9 []))
  |false=>match bs[i]? with
   |some (.rows false g' sz rs)=>ah (match Nat.beq g g',Nat.beq sz te.size with|true,true=>cu te.zero|_,_=>false) (k (.set i (.rows false g' sz (gn rs off len te.zero)) (.b9 [])))
   |_=>none
 |_=>none
theorem zV{bs:List af}{te:TI}{x:D}{k:bE->Option R}{r:R}(h:EL bs te x k=some r){k':bE->Prop}(hk:∀e,k e=some r->k' e):uT bs te x k':=by
 unfold EL at h;unfold uT;split at h
 .exact hk _ h
 .split at h
  .rename_i h1
   exact⟨λ_=>hk _ h,λe=>absurd (Nat.eq_of_beq_eq_true h1) e⟩
  rename_i h1;refine⟨λe=>by subst e;simp at h1,λ_=>?_⟩;split at h
  .rename_i h2
   simp only[h2];exact cm h λh=>⟨_,rfl,hk _ h⟩
  cases h
 cases h
def we(b:Builtin)(c:Call)(U:St)(k:bE->Option R):Option R:=
 match U.jv c.args.toList with
 |none=>none
 |some as=>
  match b with
  |.len=>match as with
   |[x]=>match typeAt T c 0 with
    |some ti=>match ti.desc with
     |.array n _=>k (.val (.int .i64 n))
     |.slice _=>Rt x λd=>k (.val d)
     |.string=>match x with
      |.str s=>k (.val (.int .i64 (Int.ofNat s.size)))
      |_=>none
     |_=>none
    |none=>none
   |_=>none
  |.min=>Rr as λd=>k (.val d)
  |.max=>Rs as λd=>k (.val d)
  |.clear=>match as with
   |[x]=>match typeAt T c 0 with
    |some ti=>match eN T ti.desc with
     |some te=>EL U.boxes te x k
     |none=>none
    |none=>none
   |_=>none
  |.append=>match as with
   |[s,x]=>match typeAt T c 0,typeAt T c 1 with
    |some ti,some tx=>match xg tx.desc with
     |true=>match eN T ti.desc with
      |some te=>ah (match Nat.blt 0 te.size with|true=>Nat.blt 0 te.bytes|false=>false) (zP (Zv ti.desc) U.boxes te.size te.bytes s x k)
      |none=>none
     |false=>none
    |_,_=>none
   |_=>none
  |_=>none
def Nb(U:St)(o:Oper)(k:bE->Option R):Option R:=
 match o.op with
 |.move x|.assign x=>match U.ev x with
  |some d=>k (.val d)
  |none=>none
 |.pick c a b=>match U.ev c with
  |some .tt=>match U.ev a with|some d=>k (.val d)|none=>none
  |some .ff=>match U.ev b with|some d=>k (.val d)|none=>none
  |some (.bool t)=>match t with
   |true=>match U.ev a with|some d=>k (.val d)|none=>none
   |false=>match U.ev b with|some d=>k (.val d)|none=>none
  |_=>none
 |.alloc t=>match T t with
  |some ti=>k (.new (l5 t ti) λi=>.loc i 0)
  |none=>none
 |.box _ x=>match U.ev x with
  |some d=>match cellsOf d with
   |some cs=>k (.new (.flat false cs) λi=>.loc i 0)
   |none=>none
  |none=>none
 |.build t ps=>match T t,U.AK ps.toList with
  |some ti,some l=>match buildable T ti.desc,gm (l6 T ti.desc) ti.zero l with
   |true,some cs=>k (.val (.agg cs))
   |_,_=>none
  |_,_=>none
 |.buildSlice t len ps=>match T t,U.AK ps.toList with
  |some ti,some l=>match eN T ti.desc with
   |some te=>match fw te.size (List.replicate len te.zero) l with
    |some rows=>ah (match Nat.blt 0 te.size,Nat.ble (len*te.size) 16777216 with|true,true=>cu te.zero|_,_=>false) (k (.new (.rows false 0 te.size rows) λi=>match Nat.beq len 0 with|true=>.ao|false=>.sl i 0 0 len))
    |none=>match nq U.boxes l with
     |some l'=>match fw te.size (List.replicate len te.zero) l' with
      |some rows=>ah (match Nat.blt 0 te.size,Nat.ble (len*te.size) 16777216 with|true,true=>cu te.zero|_,_=>false) (k (.eo (.rows false 0 te.size rows) (λi=>match Nat.beq len 0 with|true=>.ao|false=>.sl i 0 0 len) (rK U.boxes l)))
      |none=>none
     |none=>none
   |none=>none
  |_,_=>none
 |.load t a=>match T t,U.ev a with
  |some ti,some (.gp g off)=>match ti.agg,C.gt g off with
   |false,some (kd,n)=>k (.val (.int kd n))
   |_,_=>none
  |some ti,some p=>v8 ti U.boxes p k
  |_,_=>none
 |.store t a x=>match T t,U.ev a,U.ev x with
  |some ti,some p,some d=>(match pR p d with
   |true=>sq ti U.boxes p d k
   |false=>re ti U.boxes U.y p d k)
  |_,_,_=>none
 |.nilCheck x=>match U.ev x with
  |some (.loc i o)=>k (.val (.loc i o))
  |some (.ro cs)=>k (.val (.ro cs))
  |some (.bM i g r o)=>k (.val (.bM i g r o))
  |some (.bH i o)=>k (.val (.bH i o))
  |_=>none
 |.binOp op t x y _=>match T t,U.ev x,U.ev y with
  |some ti,some a,some .ao=>ah (x9 ti.desc op (fU y)) (ah (notNil U.boxes a) (k (.val (.bool false))))
  |some ti,some .dI,some .dI=>(match ti.desc,op,fU y with
   |.interface _,.eql,true=>k (.val (.bool true))
   |.interface _,.neq,true=>k (.val (.bool false))
   |_,_,_=>none)
  |some ti,some a,some b=>ra ti op a b λd=>k (.val d)
  |_,_,_=>none
 |.unOp op _ x=>match op,U.ev x with
  |.not,some .tt=>k (.val .ff)
  |.not,some .ff=>k (.val .tt)
  |.not,some (.bool b)=>k (.val (.bool (!b)))
  |.neg,some (.int kx a)=>k (.val (.int kx (iz kx (0-a))))
  |_,_=>none
 |.convert s d x=>match T s,T d,U.ev x with
  |some ts,some td,some v=>match ts.desc,td.desc,v with
   |.int _,.int kd,.int _ n=>k (.val (.int kd (iz kd n)))
   |_,_,_=>none
  |_,_,_=>none
 |.makeFunc fn fs cs=>match U.jv fs.toList,U.jv cs.toList with
  |some l,some m=>k (.val (.bR fn l m))
  |_,_=>none
 |.makeSlice t l c=>match T t,U.ev l,U.ev c with
  |some ti,some (.int .i64 n),some (.int .i64 m)=>match eN T ti.desc with
   |some te=>ah (match Nat.blt 0 te.size,Nat.blt 0 te.bytes with|true,true=>cu te.zero|_,_=>false)<|ah (gC 0 n)<|ah (H0 n m)<|ah (gC (te.bytes*n) ay)<|KY te n.toNat k
   |none=>none
  |_,_,_=>none
 |.slice t x lo hi mx=>match mx,T t,U.ev x,eV U lo,eV U hi with
  |none,some ti,some p,some l,some h=>match ee T ti.desc with
   |some te=>EJ U.boxes ti.desc te.size p l h k
   |none=>zU ti.desc p l h k
  |some m,some ti,some p,some l,some h=>zR (U.ev m) (ee T ti.desc) ti.desc p l h k
  |_,_,_,_,_=>none
 |.fieldAddr t x f=>match T t,U.ev x with
  |some ti,some p=>match fK T ti.desc f with
   |some (off,tf)=>ah (Nat.blt 0 tf.size) (mo p off k)
   |none=>none
  |_,_=>none
 |.field t x f=>match T t,U.ev x with
  |some ti,some (.agg cs)=>match fK T ti.desc f with
   |some (off,tf)=>iA tf cs off k
   |none=>none
  |_,_=>none
 |.indexAddr t x i=>match T t,U.ev x,U.ev i with
  |some ti,some p,some n=>match ee T ti.desc with
   |some te=>iW U.boxes ti.desc te.size (isConst i) p n k
   |none=>none
  |_,_,_=>none
 |.index t x i=>match T t,U.ev x,U.ev i with
  |some ti,some (.str s),some (.int _ n)=>match ti.desc with
   |.string=>ah (gC 0 n) (match s[n.toNat]? with|some b=>k (.val (.int .u8 (Int.ofNat b.toNat)))|none=>none)
   |_=>none
  |some ti,some (.agg cs),some (.int _ n)=>match ti.desc,ee T ti.desc with
   |.array len _,some te=>ah (gC 0 n)<|ah (!(gC (Int.ofNat len) n))<|iA te cs (n.toNat*te.size) k
   |_,_=>none
  |_,_,_=>none
 |.makeMap t r=>match T t,r with
  |some ti,none=>match ti.desc with
   |.map _ _=>(match C.mp with
    |none=>k (.new (.map false [] []) λi=>.cn i)
    |some c=>k (.res (.dY c) []))
   |_=>none
  |_,_=>none
 |.lookup t x i ok=>match T t,U.ev x,U.ev i with
  |some ti,some m,some key=>match ti.desc with
   |.map kt et=>match T kt,T et with
    |some tk,some te=>ah (gG tk key) (match m with
     |.cn j=>match U.boxes[j]? with
      |some (.map _ ks vs)=>B7 ks vs key (kT te) ok k
      |_=>none
     |.nk ks vs=>B7 ks vs key (kT te) ok k
     |.fh=>B7 [] [] key (kT te) ok k
     |_=>none)
    |_,_=>none
   |_=>none
  |_,_,_=>none
 |.mapUpdate t x i y|.insert t x i y=>match T t,U.ev x,U.ev i,U.ev y with
  |some ti,some m,some key,some v=>match ti.desc with
   |.map kt _=>match T kt with
    |some tk=>(match m with
     |.dY c=>EI c tk key v k
     |_=>KX tk U.boxes m key v k)
    |none=>none
   |_=>none
  |_,_,_,_=>none
 |.extract t i=>match U.ev t with
  |some (.b9 ds)=>match ds[i]? with
   |some d=>k (.val d)
   |none=>none
  |_=>none
 |.call c=>match c.callee with
  |.value f=>match U.ev f,U.jv c.args.toList with
   |some (.bR (.func fk) fs cs),some as=>Gm C cal calY fk fs as cs U k
   |_,_=>none
  |.builtin b=>we T b c U k
  |_=>none
 |_=>none
variable{T C cal calY}
structure gz(C:xa)(cal:Nat->List D->Option D)(calY:Nat->List D->List af->eG->Option (D×List af×eG)):Prop where
 den:∀k as d,cal k as=some d->C.den k as d
 shr:∀k as bs y d bu y',calY k as bs y=some (d,bu,y')->C.shr k as bs y λe cs z=>e=d/\cs=bu/\z=y'
 new:∀k as d bu y' b,calY k as [] .aQ=some (d,bu,y')->yb d bu=some b->(jg b=true\/uQ b=true)->C.new k as b
theorem wg{ti:TI}{cs:List D}{off:Nat}{k:bE->Option R}{r:R}(h:iA ti cs off k=some r):
    (ti.agg=true/\∃d,cQ cs off ti.size=some d/\k (.val d)=some r)\/(ti.agg=false/\∃d,cs[off]?=some d/\k (.val d)=some r):=by
  unfold iA at h;split at h
  .rename_i ha
   split at h
   .rename_i hd;exact .inl ⟨ha,_,hd,h⟩
   cases h
  rename_i ha;split at h
  .rename_i hd;exact .inr ⟨ha,_,hd,h⟩
  cases h
theorem rf{b:Builtin}{c:Call}{U:St}{o:Oper}(ho:o.op=.call c)(hc:c.callee=.builtin b){k:bE->Option R}{r:R}(h:we T b c U k=some r){k':bE->Prop}(hk:∀e,k e=some r->k' e):dC T C U o k':=by
 unfold we at h;unfold dC;rw[ho];simp only[hc];cases hl:U.jv c.args.toList with
 |none=>rw[hl]at h;cases h
 |some as=>
  rw[hl]at h;simp only at h⊢;cases b<;>simp only at h⊢<;>first|(cases h;done)|exact EE h λd hd=>hk _ hd|exact EF h λd hd=>hk _ hd|skip
  case append=>
   split at h
   .split at h
    .rename_i h1 h2
     split at h
     .rename_i h3
      split at h
      .rename_i h4
       simp only[h1,h2,h3,h4];exact cm h λh=>xz h hk
      cases h
     cases h
    cases h
   cases h
  case clear=>
   split at h
   .split at h
    .rename_i h1
     split at h
     .rename_i h2
      simp only[h1,h2];exact zV h hk
     cases h
    cases h
   cases h
  case len=>
   split at h
   .split at h
    .rename_i h1
     split at h
     .rename_i h2;simp only[h1,h2];exact hk _ h
     .rename_i h2;simp only[h1,h2];exact EG h λd hd=>hk _ hd
     .rename_i h2
      split at h
      .simp only[h1,h2];exact hk _ h
      cases h
     cases h
    cases h
   cases h
theorem tC(cr:gz C cal calY){f:Operand}{c:Call}{U:St}{o:Oper}(ho:o.op=.call c)(hc:c.callee=.value f){fk:Nat}{fs as cs:List D}(hf:U.ev f=some (.bR (.func fk) fs cs))(ha:U.jv c.args.toList=some as)
    {k:bE->Option R}{r:R}(h:Gm C cal calY fk fs as cs U k=some r){k':bE->Prop}(hk:∀e,k e=some r->k' e):dC T C U o k':=by
  unfold dC;rw[ho];simp only[hc,hf,ha];unfold Gm at h;cases hn:C.nw fk with
  |true=>
   rw[hn]at h;simp only at h⊢;split at h
   .rename_i rs hr
    rw[nW]at h;split at h
    .rename_i d bu y' hd
     split at h
     .rename_i b hb
      unfold N3 at h;cases du:jg b with
      |true=>
       rw[du]at h;exact⟨rs,hr,b,cr.new _ _ _ _ _ _ hd hb (.inl du),by rw[du];exact hk _ h⟩
      |false=>
       rw[du]at h;obtain⟨h1,h⟩:=aa h;exact⟨rs,hr,b,cr.new _ _ _ _ _ _ hd hb (.inr h1),by rw[du];exact bS h1 (hk _ h)⟩
     cases h
    cases h
   cases h
  |false=>
   rw[hn]at h;simp only at h⊢;cases hs:C.sh fk with
   |false=>
    rw[hs]at h;simp only at h⊢;split at h
    .rename_i rs hr
     rw[nW]at h;split at h
     .rename_i d hd
      exact⟨rs,hr,d,cr.den _ _ _ hd,hk _ h⟩
     cases h
    cases h
   |true=>
    rw[hs]at h;simp only at h⊢;refine .inr ?_;unfold zS at h;obtain⟨h1,h⟩:=aa h;obtain⟨h2,h⟩:=aa h;obtain⟨h3,h⟩:=aa h;obtain⟨h4,h⟩:=aa h;rw[nW,iy]at h;split at h
    .rename_i d bu y' hd
     refine⟨_,_,_,_,h1,h2,ew h3,B5 h4,cr.shr _ _ _ _ _ _ _ hd,⟨_,_,_,rfl,rfl,rfl⟩,?_⟩;rintro _ _ _⟨rfl,rfl,rfl⟩;exact⟨_,rfl,hk _ h⟩
    cases h
theorem j4(cr:gz C cal calY){U:St}{o:Oper}{k:bE->Option R}{r:R}(h:Nb T C cal calY U o k=some r){k':bE->Prop}(hk:∀e,k e=some r->k' e):dC T C U o k':=by
 have h0:=h;unfold Nb at h;cases ho:o.op<;>rw[ho]at h<;>simp only at h<;>first|(cases h;done)|skip
 case call c=>
  split at h
  .rename_i hc
   split at h
   .rename_i hf ha;exact tC cr ho hc hf ha h hk
   cases h
  .rename_i hc;exact rf ho hc h hk
  cases h
 all_goals unfold dC;rw[ho];simp only
 case move=>
  split at h
  .rename_i h1;simp only[h1];exact hk _ h
  cases h
 case assign=>
  split at h
  .rename_i h1;simp only[h1];exact hk _ h
  cases h
 case pick=>
  split at h
  .rename_i h1
   split at h
   .rename_i h2;simp only[h1,h2];exact hk _ h
   cases h
  .rename_i h1
   split at h
   .rename_i h2;simp only[h1,h2];exact hk _ h
   cases h
  .rename_i t h1
   rw[h1];cases t with
   |true=>
    simp only at h;split at h
    .rename_i h2;exact⟨λ_=>by rw[h2];exact hk _ h,λe=>by cases e⟩
    cases h
   |false=>
    simp only at h;split at h
    .rename_i h2;exact⟨(λe=>by cases e),λ_=>by rw[h2];exact hk _ h⟩
    cases h
  cases h
 case alloc=>
  split at h
  .rename_i h1;simp only[h1];exact hk _ h
  cases h
 case box=>
  split at h
  .rename_i h1
   split at h
   .rename_i h2;simp only[h1,h2];exact hk _ h
   cases h
  cases h
 case build=>
  split at h
  .rename_i h1 h2
   split at h
   .rename_i h3 h4;simp only[h1,h2,h3,h4,cg];exact hk _ h
   cases h
  cases h
 case buildSlice=>
  split at h
  .rename_i h1 h2
   split at h
   .rename_i h3
    split at h
    .rename_i h4;simp only[h1,h2,h3,h4];exact cm h λh=>hk _ h
    rename_i h4;split at h
    .rename_i h5
     split at h
     .rename_i h6;simp only[h1,h2,h3,h4];exact⟨_,h5,_,h6,cm h λh=>hk _ h⟩
     cases h
    cases h
   cases h
  cases h
 case load=>
  split at h
  .rename_i h1 h2
   split at h
   .rename_i h3 h4;simp only[h1,h2,h3];exact⟨_,_,h4,hk _ h⟩
   cases h
  .rename_i ti p hn h1 h2
   rw[h1,h2];cases p with
   |gp g off=>exact(hn g off rfl).elim
   |_=>exact tA h hk
  cases h
 case store=>
  split at h
  .rename_i h1 h2 h3
   simp only[h1,h2,h3];split at h
   .rename_i h4;rw[h4];exact mn h hk
   rename_i h4;rw[h4];exact pC h hk
  cases h
 case nilCheck=>
  split at h
  .rename_i h1;simp only[h1];exact hk _ h
  .rename_i h1;simp only[h1];exact hk _ h
  .rename_i h1;simp only[h1];exact hk _ h
  .rename_i h1;simp only[h1];exact hk _ h
  cases h
 case binOp=>
  split at h
  .rename_i ti a h1 h2 h3
   rw[h1,h2,h3];obtain⟨g1,ha⟩:=aa h;obtain⟨g2,A8⟩:=aa ha;obtain⟨e,e1,e2,e3⟩:=ya g1;subst e2;unfold notNil at g2;split at g2
   .simp only[e1,e3]
    intro b hb;cases b with
    |true=>rw[hb rfl]at g2;cases g2
    |false=>exact hk _ A8
   .split at g2
    .rename_i fp
     simp only[e1,e3,fp];split at g2
     .rename_i hg
      refine cA hg λb hb=>?_;cases b with
      |true=>rw[hb rfl]at g2;cases g2
      |false=>exact hk _ A8
     cases g2
    cases g2
   cases g2
  .rename_i ti h1 h2 h3
   rw[h1,h2,h3];simp only;split at h
   .rename_i e1 e2;simp only[e1,e2];exact hk _ h
   .rename_i e1 e2;simp only[e1,e2];exact hk _ h
   cases h
  .rename_i ti a b hn hi h1 h2 h3
   rw[h1,h2,h3];cases b with
   |ao=>exact(hn rfl).elim
   |dI=>cases a<;>first|exact(hi rfl rfl).elim|exact p9 h λd hd=>hk _ hd
   |_=>cases a<;>exact p9 h λd hd=>hk _ hd
  cases h
 case unOp=>
  split at h
  .rename_i h1;simp only[h1];exact hk _ h
  .rename_i h1;simp only[h1];exact hk _ h
  .rename_i h1;simp only[h1];exact hk _ h
  .rename_i h1;simp only[h1];exact⟨_,kG _ _,hk _ h⟩
  cases h
 case convert=>
  split at h
  .rename_i h1 h2 h3
   split at h
   .rename_i h4 h5;simp only[h1,h2,h3,h4,h5];exact⟨_,kG _ _,hk _ h⟩
   cases h
  cases h
 case makeFunc=>
  split at h
  .rename_i h1 h2;simp only[h1,h2];exact hk _ h
  cases h
 case makeSlice=>
  split at h
  .rename_i h1 h2 h3
   split at h
   .rename_i h4
    obtain⟨g1,h⟩:=aa h;obtain⟨g2,h⟩:=aa h;obtain⟨g3,h⟩:=aa h;obtain⟨g4,h⟩:=aa h;simp only[h1,h2,h3,h4];exact cA g1 ⟨aU.1 g2,oN.1 g3,aU.1 g4,_,rfl,B8 h hk⟩
   cases h
  cases h
 case slice=>
  split at h
  .rename_i h1 h2 h3 h4
   split at h
   .rename_i h5;simp only[h1,h2,h3,h4,h5];exact zQ h hk
   rename_i h5;simp only[h1,h2,h3,h4,h5];exact xB h hk
  .rename_i h1 h2 h3 h4
   simp only[h1,h2,h3,h4];exact xA hk h
  cases h
 case fieldAddr=>
  split at h
  .rename_i h1 h2
   split at h
   .rename_i h3;simp only[h1,h2,h3];exact cm h λh=>lU h hk
   cases h
  cases h
 case field=>
  split at h
  .rename_i h1 h2
   split at h
   .rename_i h3
    simp only[h1,h2,h3];rcases wg h with⟨ha,d,hd,h⟩|⟨ha,d,hd,h⟩
    .simp only[ha,hd,ax];exact hk _ h
    simp only[ha,hd];exact hk _ h
   cases h
  cases h
 case indexAddr=>
  split at h
  .rename_i h1 h2 h3
   split at h
   .rename_i h4;simp only[h1,h2,h3,h4];exact lV h hk
   cases h
  cases h
 case index=>
  split at h
  .rename_i h1 h2 h3
   split at h
   .rename_i h4
    obtain⟨g1,h⟩:=aa h;simp only[h1,h2,h3,h4];split at h
    .rename_i h5;exact⟨aU.1 g1,_,h5,hk _ h⟩
    cases h
   cases h
  .rename_i h1 h2 h3
   split at h
   .rename_i h4 h5
    obtain⟨g1,h⟩:=aa h;obtain⟨g2,h⟩:=aa h;simp only[h1,h2,h3,h4];simp only[h4]at h5;simp only[h5];refine⟨⟨aU.1 g1,uB g2⟩,?_⟩;rcases wg h with⟨ha,d,hd,h⟩|⟨ha,d,hd,h⟩
    .obtain⟨rfl,hl⟩:=tw hd
     simp only[ha];exact⟨_,rfl,hl,hk _ h⟩
    simp only[ha];exact⟨_,hd,hk _ h⟩
   cases h
  cases h
 case makeMap=>
  split at h
  .rename_i h1
   split at h
   .rename_i h2
    simp only[h1,h2];split at h
    .rename_i h3;rw[h3];exact hk _ h
    rename_i h3;rw[h3];exact hk _ h
   cases h
  cases h
 case lookup=>
  split at h
  .rename_i h1 h2 h3
   split at h
   .rename_i h4
    split at h
    .rename_i h5 h6
     simp only[h1,h2,h3,h4,h5,h6];refine cm h λh=>?_;split at h
     .split at h
      .rename_i h7;simp only[h7];exact nX h hk
      cases h
     .exact nX h hk
     .exact nX h hk
     cases h
    cases h
   cases h
  cases h
 case mapUpdate=>
  split at h
  .rename_i h1 h2 h3 h4
   split at h
   .rename_i h5
    split at h
    .rename_i h6
     simp only[h1,h2,h3,h4,h5,h6];split at h
     .exact rb h hk
     rename_i hn;split
     .exact(hn _ rfl).elim
     exact tv h hk
    cases h
   cases h
  cases h
 case insert=>
  split at h
  .rename_i h1 h2 h3 h4
   split at h
   .rename_i h5
    split at h
    .rename_i h6
     simp only[h1,h2,h3,h4,h5,h6];split at h
     .exact rb h hk
     rename_i hn;split
     .exact(hn _ rfl).elim
     exact tv h hk
    cases h
   cases h
  cases h
 case extract=>
  split at h
  .rename_i h1
   split at h
   .rename_i h2;simp only[h1,h2];exact hk _ h
   cases h
  cases h
end
end Go.V
namespace Go.V
open Go.RowKit
section
variable{R:Type}(T:Nat->Option TI)(C:xa)(cal:Nat->List D->Option D)(calY:Nat->List D->List af->eG->Option (D×List af×eG))
def B9(fb:bE->Bool)(g:Bool)(U:St)(o:Oper)(K:St->Option R):Option R:=
 Nb T C cal calY U o λe=>
  match fb e with
  |true=>none
  |false=>match g with
  |false=>mm U o.dst e K
  |true=>match e with
   |.val (.bool b)=>(match b with|true=>mm U o.dst (.val .tt) K|false=>mm U o.dst (.val .ff) K)
   |.res (.bool b) as=>(match b with|true=>mm U o.dst (.res .tt as) K|false=>mm U o.dst (.res .ff as) K)
   |.dJ (.bool b) bs y=>(match b with|true=>mm U o.dst (.dJ .tt bs y) K|false=>mm U o.dst (.dJ .ff bs y) K)
   |e=>mm U o.dst e K
def ni(fb:bE->Bool)(ops:List Oper):List Oper->Nat->St->(St->Option R)->Option R
 |[],_,U,K=>K U
 |o::rest,i,U,K=>
  match o.guard with
  |none=>B9 T C cal calY fb (fj ops i) U o λσ'=>ni fb ops rest (i+1) σ' K
  |some (j,want)=>
   match cq ops U j with
   |true=>ni fb ops rest (i+1) (U.put o.dst .j7) K
   |false=>
    match guardOf ops U j,want with
    |some true,true=>B9 T C cal calY fb (fj ops i) U o λσ'=>ni fb ops rest (i+1) σ' K
    |some false,false=>B9 T C cal calY fb (fj ops i) U o λσ'=>ni fb ops rest (i+1) σ' K
    |some true,false=>ni fb ops rest (i+1) (U.put o.dst .j7) K
    |some false,true=>ni fb ops rest (i+1) (U.put o.dst .j7) K
    |none,_=>none
def PN:D->Nat
 |.loc i _=>i
 |.sl i _ _ _=>i
 |.cn i=>i
 |.gj i _ _ _=>i
 |_=>0
def uC(U:St)(n:Nat)(b:af):Bool:=match U.boxes[n]? with
 |some c=>xy c b
 |none=>false
def zW(U:St)(t:Nat)(d:D):Bool:=match look U.tmps t with
 |some e=>ju e d
 |none=>false
def EM(U:St)(o:Oper):Option Unit:=
 Nb T C cal calY U o λe=>match e,o.dst with
  |.val d,some t=>ah (zW U t d) (some ())
  |.val _,none=>some ()
  |.new b mk,some t=>match look U.tmps t with
   |some d=>ah (ju d (mk (PN d))) (ah (uC U (PN d) b) (some ()))
   |none=>none
  |_,_=>none
def zX(ops:List Oper)(nb:Nat)(U:St)(j:Nat):Option Unit:=match iZ (ops.getD j default).op with
 |false=>EM T C cal calY U (ops.getD j default)
 |true=>Nb T C cal calY U (ops.getD j default) λe=>match e,(ops.getD j default).dst with
  |.new b mk,some t=>ah (zW U t (mk 0)) (ah (uC U (nb+xM ops j) b) (some ()))
  |_,_=>none
def jc(ops:List Oper)(nb:Nat)(U:St):List Nat->Bool
 |[]=>true
 |j::r=>match zX T C cal calY ops nb U j with
  |some _=>jc ops nb U r
  |none=>false
def nY(ops:List Oper)(nb:Nat)(all:List Nat):Nat->List Nat->List Oper->St->(St->Option R)->Option R
 |_,_,[],U,K=>K U
 |i,late,o::r,U,K=>match all.contains i with
  |true=>Nb T C cal calY U o λe=>match e with
   |.val d=>mm U o.dst (.val d) λU=>ah (jc T C cal calY ops nb U (i::late)) (nY ops nb all (i+1) (i::late) r U K)
   |_=>none
  |false=>Nb T C cal calY U o λe=>match e with
   |.val d=>mm U o.dst (.val d) λU=>ah (jc T C cal calY ops nb U (bN o late)) (nY ops nb all (i+1) (bN o late) r U K)
   |.set i' b d=>mm U o.dst (.set i' b d) λU=>ah (jc T C cal calY ops nb U (bN o late)) (nY ops nb all (i+1) (bN o late) r U K)
   |.res d as=>mm U o.dst (.res d as) λU=>ah (jc T C cal calY ops nb U (bN o late)) (nY ops nb all (i+1) (bN o late) r U K)
   |.new b mk=>mm U o.dst (.new b mk) λU=>ah (jc T C cal calY ops nb U (bN o late)) (nY ops nb all (i+1) (bN o late) r U K)
   |.eo b mk L=>mm U o.dst (.eo b mk L) λU=>ah (jc T C cal calY ops nb U (bN o late)) (nY ops nb all (i+1) (bN o late) r U K)
   |.dJ d bs y=>(match r,bN o late with
    |[],[]=>mm U o.dst (.dJ d bs y) K
    |_,_=>none)
   |_=>none
inductive RH where
 |draw
 |late (m:Nat) (l:List Nat)
 |perm (p:List Nat) (m:Nat) (l:List Nat)
 |Gn (m:Nat)
 |any
inductive LH where
 |free
 |clean (vs:List (Pl×Nat))
 |nr (vs:List (Pl×Nat))
structure XH where
 rh:Nat->RH
 lh:Nat->LH
 vh:Nat->List (Nat×Nat×Nat)
 po:Nat->List D->Option (Option Value)
 it:Nat->List D->Option (List (List D))
 oy:List D->List af->Option (D×List af)
 mp:Option Nat:=none
 kl:Nat:=0
 kp:List Nat:=[]
def oO(K:Nat->Bool)(K':Nat->Bool):List Oper->Bool
 |[]=>false
 |o::r=>match r with
  |[]=>(match o.op with
   |.panic _=>true
   |.call c=>(match c.callee with
    |.value (.func f)=>(match K f with|true=>K' f|false=>false)
    |_=>false)
   |_=>false)
  |_::_=>oO K K' r
def N4(h:XH)(U:St)(o:Oper)(Q:Ex->St->Option R):Option R:=
 match o.guard,o.op with
 |none,.call c=>match c.callee with
  |.value f=>match U.ev f,U.jv c.args.toList with
   |some (.bR (.func fk) fs cs),some as=>match fi U.boxes (fs++(as++cs))with
    |some rs=>match h.po fk rs with
     |some none=>match o.dst with
      |none=>Q .normal U
      |some t=>match look U.tmps t with
       |none=>Q .normal U
       |some _=>none
     |some (some v)=>Q (.panic v) U
     |none=>none
    |none=>none
   |_,_=>none
  |_=>none
 |_,_=>none
def aaE:Op->Bool
 |.makeInterface ..=>true
 |_=>false
def K1(h:XH)(lo:Nat)(ops:List Oper)(U:St)(Q:Ex->St->Option R):Option R:=
 match ops with
 |[o1,o2]=>(match aaE o1.op with
  |true=>none
  |false=>ni T C cal calY (oX lo) ops [o1] 0 U λτ=>N4 h τ o2 Q)
 |ops=>ni T C cal calY (oX lo) ops ops.dropLast 0 U λτ=>match ops.getLast? with
  |some o=>N4 h τ o Q
  |none=>none
def H3:List (Nat×D)->List (Nat×D)->Bool
 |[],[]=>true
 |(t,d)::r,(u,e)::s=>match Nat.beq t u,ju d e with|true,true=>H3 r s|_,_=>false
 |_,_=>false
def H4:List af->List af->Bool
 |[],[]=>true
 |a::r,b::s=>match xy a b with|true=>H4 r s|false=>false
 |_,_=>false
def Ru(U τ:St):Bool:=match U.y,τ.y with
 |.aQ,.aQ=>(match H3 U.tmps τ.tmps with|true=>H4 U.boxes τ.boxes|false=>false)
 |_,_=>false
def N5:List Nat->(Nat->Option Unit)->Option Unit
 |[],_=>some ()
 |i::r,p=>match p i with
  |some _=>N5 r p
  |none=>none
def N6(ops:List Oper)(aE:List Nat)(τ:St):Nat->List Nat->St->Option Unit
 |0,_,_=>none
 |f+1,done,U=>match kb ops done with
  |[]=>ah (Ru ⟨il U.tmps aE,U.boxes,U.y⟩ τ) (some ())
  |l=>N5 l λi=>ni T C cal calY xi ops [ops.getD i default] i U λσ'=>N6 ops aE τ f (i::done) σ'
def Gp:List (Nat×D)->List Nat->List Nat
 |[],_=>[]
 |(t,_)::r,l=>match l.contains t with
  |true=>Gp r l
  |false=>t::Gp r (t::l)
def zY(h:XH)(id:Nat)(ops:List Oper)(dr:Bool)(lo:Nat)(U:St)(K:Ex->St->Option R):Option R:=
 match dr with
 |false=>match oO C.sh C.nw ops with
  |false=>ni T C cal calY (oX lo) ops ops 0 U λσ'=>K .normal σ'
  |true=>K1 T C cal calY h lo ops U K
 |true=>match h.rh id with
  |.draw=>ah (ly ops) (ni T C cal calY mZ ops ops 0 U λσ'=>K .normal σ')
  |.late m l=>ah (jy ops m l) (ni T C cal calY tR ops (ops.take m) 0 U λτ=>nY T C cal calY ops U.boxes.length l m (na m l) (ops.drop m) τ λσ'=>K .normal σ')
  |.perm p m l=>ah (rQ ops.length p&&jy (e7 ops p) m l) (ni T C cal calY tR (e7 ops p) ((e7 ops p).take m) 0 U λτ=>nY T C cal calY (e7 ops p) U.boxes.length l m (na m l) ((e7 ops p).drop m) τ λσ'=>K .normal σ')
  |.Gn m=>ah (oA ops m) (ni T C cal calY mZ ops (ops.take m) 0 U λτ=>ni T C cal calY xi ops (ops.drop m) m τ λσ'=>K .normal σ')
  |.any=>match ni T C cal calY xi ops ops 0 U λσ'=>some (⟨il σ'.tmps (Gp σ'.tmps []),σ'.boxes,σ'.y⟩:St)with
   |some τ=>(match N6 T C cal calY ops (Gp τ.tmps []) τ (ops.length+1) [] U with
    |some _=>K .normal τ
    |none=>none)
   |none=>none
def b7:Code->Nat
 |.region id _ _=>id
 |.seq a _=>b7 a
 |.cond _ a _=>b7 a
 |.block _ c=>b7 c
 |.loop c=>b7 c
 |.scope c=>b7 c
 |.rangeFunc _ _ a _=>b7 a
 |_=>0
def VV{α:Type}:List (Nat×D)->(List (Nat×D)->α)->α
 |[],k=>k []
 |(t,d)::r,k=>Ey d λd=>VV r λr=>k ((t,d)::r)
theorem EN{α:Type}:∀(l:List (Nat×D))(k:List (Nat×D)->α),VV l k=k l
 |[],_=>rfl
 |(t,d)::r,k=>by simp only[VV,EA,EN r]
def ri:List (Pl×Nat)->Bool
 |(.free,_)::_=>true
 |_=>false
def ZF(lo:Nat)(vs:List (Pl×Nat))(aE:List Nat)(nb:Nat)(U:St)(k:St->Option R):Option R:=
 match ri vs with
 |true=>VV (il U.tmps aE) λtm=>k ⟨tm,U.boxes,U.y⟩
 |false=>match U.rO lo vs with
  |⟨tm,bs,y⟩=>VV (il tm aE) λtm=>vX (bs.take nb) λbs=>ah (fF nb tm)<|ah (aS nb bs)<|k ⟨tm,bs,y⟩
def H5(x:List D):Bool:=match x with
 |[.pO _ _]=>false
 |_=>true
end
end Go.V
namespace Go.V
open Go.RowKit
section
variable{R:Type}{T:Nat->Option TI}{C:xa}{It:MT}{cal:Nat->List D->Option D}{calY:Nat->List D->List af->eG->Option (D×List af×eG)}
theorem nZ(cr:gz C cal calY){fb:bE->Bool}{g:Bool}{U:St}{o:Oper}{K:St->Option R}{r:R}{K':St->Prop}(hK:∀U,K U=some r->K' U)(h:B9 T C cal calY fb g U o K=some r):ik T C fb g U o K':=by
 unfold B9 at h;unfold ik;refine j4 cr h λe he=>?_;cases hf:fb e with
 |true=>rw[hf]at he;cases he
 |false=>
  rw[hf]at he;simp only at he⊢;have put:∀e',mm U o.dst e' K=some r->fP U o.dst e' K':=λe' h'=>by
   rw[zM]at h';rw[kY];exact hK _ h'
  cases g with
  |false=>exact put _ he
  |true=>
   simp only at he⊢;split at he
   .rename_i b
    cases b with
    |true=>exact⟨λ_=>put _ he,λh=>by cases h⟩
    |false=>exact⟨(λh=>by cases h),λ_=>put _ he⟩
   .rename_i b as
    cases b with
    |true=>exact⟨λ_=>put _ he,λh=>by cases h⟩
    |false=>exact⟨(λh=>by cases h),λ_=>put _ he⟩
   .rename_i b bs y
    cases b with
    |true=>exact⟨λ_=>put _ he,λh=>by cases h⟩
    |false=>exact⟨(λh=>by cases h),λ_=>put _ he⟩
   rename_i n1 n2 n3;split
   .rename_i b;exact(n1 b rfl).elim
   .rename_i b as;exact(n2 b as rfl).elim
   .rename_i b bs y;exact(n3 b bs y rfl).elim
   exact put _ he
theorem cC(cr:gz C cal calY){fb:bE->Bool}{ops:List Oper}:∀(l:List Oper)(i:Nat)(U:St){K:St->Option R}{r:R}{K':St->Prop}(_:∀U,K U=some r->K' U)(_:ni T C cal calY fb ops l i U K=some r),aL T C fb ops l i U K'
 |[],_,_,_,_,_,hK,h=>hK _ h
 |o::rest,i,U,K,r,K',hK,h=>by
  simp only[ni]at h;simp only[aL];cases hg:o.guard with
  |none=>
   rw[hg]at h;exact nZ cr (λσ' h'=>cC cr rest (i+1) σ' hK h') h
  |some p=>
   obtain⟨j,want⟩:=p;rw[hg]at h;simp only at h⊢;cases hu:cq ops U j with
   |true=>
    rw[hu]at h;exact cC cr rest (i+1) _ hK h
   |false=>
    rw[hu]at h;simp only at h⊢;cases vI:guardOf ops U j with
    |none=>rw[vI]at h;cases h
    |some b=>
     rw[vI]at h;cases b<;>cases want<;>simp only at h⊢
     .exact nZ cr (λσ' h'=>cC cr rest (i+1) σ' hK h') h
     .exact cC cr rest (i+1) _ hK h
     .exact cC cr rest (i+1) _ hK h
     exact nZ cr (λσ' h'=>cC cr rest (i+1) σ' hK h') h
theorem wh{U:St}{t:Nat}{d:D}(h:zW U t d=true):look U.tmps t=some d:=by
 unfold zW at h;split at h
 .rename_i e he;rw[he,so h]
 cases h
theorem tD{U:St}{n:Nat}{b:af}(h:uC U n b=true):U.boxes[n]?=some b:=by
 unfold uC at h;split at h
 .rename_i e he;rw[he,uA h]
 cases h
theorem zZ(cr:gz C cal calY){U:St}{o:Oper}{u:Unit}(h:EM T C cal calY U o=some u):still T C U o:=by
 unfold EM at h;unfold still;refine j4 cr h λe he=>?_;split at he
 .rename_i d t ht
  obtain⟨h1,_⟩:=aa he;simp only[ht];exact wh h1
 .rename_i ht
  simp only[ht]
 .rename_i b mk t ht
  simp only[ht];split at he
  .rename_i d hd
   obtain⟨h1,he⟩:=aa he;obtain⟨h2,_⟩:=aa he;exact⟨_,by rw[hd];exact congrArg some (so h1),tD h2⟩
  cases he
 cases he
theorem xC(cr:gz C cal calY){ops:List Oper}{nb:Nat}{U:St}{j:Nat}{u:Unit}(h:zX T C cal calY ops nb U j=some u):uY T C ops nb U j:=by
 unfold zX at h;unfold uY;cases he:iZ (ops.getD j default).op with
 |false=>
  rw[he]at h;exact zZ cr h
 |true=>
  rw[he]at h;simp only at h⊢;refine j4 cr h λe he=>?_;split at he
  .rename_i b mk t ht
   obtain⟨h1,he⟩:=aa he;obtain⟨h2,_⟩:=aa he;simp only[ht];exact⟨wh h1,tD h2⟩
  cases he
theorem pD(cr:gz C cal calY){ops:List Oper}{nb:Nat}{U:St}:∀{l:List Nat},jc T C cal calY ops nb U l=true->cI T C ops nb U l
 |[],_=>trivial
 |j::r,h=>by
  simp only[jc]at h;split at h
  .rename_i u hu;exact⟨xC cr hu,pD cr h⟩
  cases h
theorem n4(cr:gz C cal calY){ops:List Oper}{nb:Nat}{all:List Nat}:∀(l:List Oper)(i:Nat)(late:List Nat)(U:St){K:St->Option R}{r:R}{K':St->Prop}(_:∀U,K U=some r->K' U)(_:nY T C cal calY ops nb all i late l U K=some r),cB T C ops nb all i late l U K'
 |[],_,_,_,_,_,_,hK,h=>hK _ h
 |o::rest,i,late,U,K,r,K',hK,h=>by
  simp only[nY]at h;simp only[cB];have put:∀e' yc,mm U o.dst e' (λU=>ah (jc T C cal calY ops nb U yc) (nY T C cal calY ops nb all (i+1) yc rest U K))=some r->fP U o.dst e' λU=>cI T C ops nb U yc/\cB T C ops nb all (i+1) yc rest U K':=λe' yc h'=>by
   rw[zM]at h';rw[kY];obtain⟨h1,h2⟩:=aa h';exact⟨pD cr h1,n4 cr rest (i+1) yc _ hK h2⟩
  cases hc:all.contains i with
  |true=>
   rw[hc]at h;simp only at h⊢;refine j4 cr h λe he=>?_;cases e<;>first|exact put _ _ he|(cases he;done)
  |false=>
   rw[hc]at h;simp only at h⊢;refine j4 cr h λe he=>?_;cases e<;>first|exact put _ _ he|(cases he;done)|skip
   unfold xO;simp only at he⊢
   generalize bN o late=l at he⊢
   split at he
   .rw[zM]at he
    rw[kY];exact hK _ he
   cases he
theorem qa:∀l:List Oper,panics C l=oO C.sh C.nw l
 |[]=>rfl
 |[o]=>rfl
 |o::p::r=>qa (p::r)
theorem wi{h:XH}(xD:∀k as v,h.po k as=some v->C.Qn k as v){U:St}{o:Oper}{Q:Ex->St->Option R}{r:R}{Q':Ex->St->Prop}(hQ:∀e U,Q e U=some r->Q' e U)(hx:N4 h U o Q=some r):xj C U o Q':=by
 unfold N4 at hx;unfold xj;split at hx
 .rename_i c hg ho
  split at hx
  .rename_i f hc
   split at hx
   .rename_i fk fs cs as hf ha
    split at hx
    .rename_i rs hr
     simp only[hg,ho,hc,hf,ha];split at hx
     .rename_i hv
      refine⟨rs,hr,none,xD _ _ _ hv,?_⟩;split at hx
      .rename_i hd;exact⟨(λt ht=>by rw[hd]at ht;cases ht),hQ _ _ hx⟩
      rename_i t hd;split at hx
      .rename_i hl
       refine⟨λu hu=>?_,hQ _ _ hx⟩;rw[hd]at hu;cases hu;exact hl
      cases hx
     .rename_i v hv
      exact⟨rs,hr,some v,xD _ _ _ hv,hQ _ _ hx⟩
     cases hx
    cases hx
   cases hx
  cases hx
 cases hx
theorem Ca{h:XH}(cr:gz C cal calY)(xD:∀k as v,h.po k as=some v->C.Qn k as v){lo:Nat}{ops:List Oper}{U:St}{Q:Ex->St->Option R}{r:R}{Q':Ex->St->Prop}(hQ:∀e U,Q e U=some r->Q' e U)
    (hx:K1 T C cal calY h lo ops U Q=some r):G6 T C (λl U K=>aL T C (oX lo) ops l 0 U K) ops U Q':=by
  unfold K1 at hx;unfold G6;split at hx
  .rename_i o1 o2
   split at hx
   .cases hx
   rename_i hm;have hx:=cC cr [o1] 0 U (K':=λτ=>xj C τ o2 Q') (λτ hτ=>wi xD hQ hτ) hx;simp only;cases h1:o1.op<;>rw[h1]at hm<;>first|(cases hm;done)|exact hx
  rename_i hn;have hx:=cC cr ops.dropLast 0 U (K':=λτ=>match ops.getLast? with|some o=>xj C τ o Q'|none=>False) (λτ hτ=>by
   split at hτ
   .rename_i o ho;try simp only[ho]
    exact wi xD hQ hτ
   cases hτ) hx
  split
  .exact(hn _ _ rfl).elim
  exact hx
theorem Gq:∀{l m:List (Nat×D)},H3 l m=true->l=m
 |[],[],_=>rfl
 |[],_::_,h=>by simp[H3]at h
 |_::_,[],h=>by simp[H3]at h
 |(t,d)::r,(u,e)::s,h=>by
  simp only[H3]at h;split at h
  .rename_i h1 h2;rw[Nat.eq_of_beq_eq_true h1,so h2,Gq h]
  cases h
theorem Gr:∀{l m:List af},H4 l m=true->l=m
 |[],[],_=>rfl
 |[],_::_,h=>by simp[H4]at h
 |_::_,[],h=>by simp[H4]at h
 |b::r,c::s,h=>by
  simp only[H4]at h;split at h
  .rename_i h1;rw[uA h1,Gr h]
  cases h
theorem N7{U τ:St}(h:Ru U τ=true):U=τ:=by
 cases U;cases τ;unfold Ru at h;simp only at h;split at h
 .split at h
  .rename_i h1;rw[Gq h1,Gr h]
  cases h
 cases h
theorem Cb:∀{l:List Nat}{p:Nat->Option Unit}{q:Nat->Prop},(∀i u,p i=some u->q i)->N5 l p=some ()->Nh l q
 |[],_,_,_,_=>trivial
 |i::r,p,q,hp,h=>by
  simp only[N5]at h;split at h
  .rename_i u hu;exact⟨hp i u hu,Cb hp h⟩
  cases h
theorem wj(cr:gz C cal calY){ops:List Oper}{aE:List Nat}{τ:St}:∀(f:Nat)(done:List Nat)(U:St),N6 T C cal calY ops aE τ f done U=some ()->l7 T C ops f done U λσ'=>(⟨il σ'.tmps aE,σ'.boxes,σ'.y⟩:St)=τ
 |0,_,_,h=>by cases h
 |f+1,done,U,h=>by
  simp only[N6]at h;simp only[l7]
  generalize kb ops done=l at h⊢
  split at h
  .exact N7 (aa h).1
  simp only;exact Cb (λi u hu=>cC cr _ _ _ (λσ' h'=>wj cr f _ σ' h') hu) h
theorem xE{h:XH}(cr:gz C cal calY)(xD:∀k as v,h.po k as=some v->C.Qn k as v){id:Nat}{ops:Array Oper}{dr:Bool}{lo:Nat}{U:St}{K:Ex->St->Option R}{r:R}{Q:Ex->St->Prop}(hQ:∀e U,K e U=some r->Q e U)
    (hx:zY T C cal calY h id ops.toList dr lo U K=some r):W T C It lo (.region id ops dr) U Q:=by
  unfold zY at hx;simp only[W];cases dr with
  |false=>
   simp only at hx⊢;rw[qa];cases hp:oO C.sh C.nw ops.toList with
   |false=>
    rw[hp]at hx;exact cC cr _ _ _ (λσ' h'=>hQ _ _ h') hx
   |true=>
    rw[hp]at hx;exact Ca cr xD hQ hx
  |true=>
   simp only at hx⊢;split at hx
   .obtain⟨h1,hx⟩:=aa hx
    exact .inl ⟨h1,cC cr _ _ _ (λσ' h'=>hQ _ _ h') hx⟩
   .rename_i m l _
    obtain⟨h1,hx⟩:=aa hx;exact .inr (.inl ⟨m,l,h1,cC cr _ _ _ (λτ hτ=>n4 cr _ _ _ _ (λσ' h'=>hQ _ _ h') hτ) hx⟩)
   .rename_i p m l _
    obtain⟨h1,hx⟩:=aa hx;exact .inr (.inr (.inl ⟨p,m,l,h1,cC cr _ _ _ (λτ hτ=>n4 cr _ _ _ _ (λσ' h'=>hQ _ _ h') hτ) hx⟩))
   .rename_i m _
    obtain⟨h1,hx⟩:=aa hx;exact .inr (.inr (.inr (.inl ⟨m,h1,cC cr _ _ _ (λτ hτ=>cC cr _ _ _ (λσ' h'=>hQ _ _ h') hτ) hx⟩)))
   split at hx
   .rename_i τ _
    split at hx
    .rename_i h1
     exact .inr (.inr (.inr (.inr ⟨_,τ,wj cr _ _ _ h1,hQ _ _ hx⟩)))
    cases hx
   cases hx
theorem K2{p:Nat->Prop}:∀{n:Nat},p n->∃m,p m/\∀k,k<m->¬p k:=by
 intro n
 induction n using Nat.strongRecOn with
 |_ n ih=>
  intro hn;by_cases h:∃k,k<n/\p k
  .obtain⟨k,hk,hp⟩:=h;exact ih k hk hp
  exact⟨n,hn,λk hk hp=>h ⟨k,hk,hp⟩⟩
open Classical in
noncomputable def n5(p:Nat->Prop):Nat:=if h:∃m,p m/\∀k,k<m->¬p k then Classical.choose h else 0
theorem tF{p:Nat->Prop}{n:Nat}(h:p n):p (n5 p)/\n5 p<=n:=by
 have hex:=K2 h;unfold n5;rw[dif_pos hex];have hs:=Classical.choose_spec hex;exact⟨hs.1,Nat.not_lt.1 λcG=>hs.2 n cG h⟩
theorem N8{lo:Nat}{vs:List (Pl×Nat)}{aE:List Nat}{nb:Nat}{U:St}{k:St->Option R}{r:R}(h:ZF lo vs aE nb U k=some r):U.gd lo vs aE nb/\k (U.cl lo vs aE nb)=some r:=by
 unfold ZF at h;unfold St.gd St.cl;split at h
 .rename_i hf
  rw[EN]at h;unfold ri at hf;split at hf
  .exact⟨trivial,h⟩
  cases hf
 rename_i hf;obtain⟨τ,hτ⟩:∃τ,U.rO lo vs=τ:=⟨_,rfl⟩;rw[hτ]at h;cases τ with
 |mk tm bs y=>
  simp only[EN,iy]at h;obtain⟨h1,h⟩:=aa h;obtain⟨h2,h⟩:=aa h;split
  .simp[ri]at hf
  rw[hτ];exact⟨⟨h1,h2⟩,h⟩
theorem tG{ps:List Nat}{x:List D}(hx:H5 x=true)(tm:List (Nat×D))(bs:List af)(y:eG)(k:St->Prop)(h:k ⟨dL ps x tm,bs,y⟩):yZ ps x tm bs y k:=by
 unfold yZ;split
 .simp[H5]at hx
 exact h
end
end Go.V
namespace Go.V
open Go.RowKit
section
variable(T:Nat->Option TI)(C:xa)(cal:Nat->List D->Option D)(calY:Nat->List D->List af->eG->Option (D×List af×eG))
end
def FOK(P:Program)(fns:Nat->Option Func):Prop:=∀k fn,fns k=some fn->P.funcs[k]?=some fn/\Enters P k/\gB fn=true
end Go.V
namespace Go.V
open Go.RowKit
theorem ln{P:Program}{w:World}{d:Nat}{xs ys:Array Value}{zt:List D}{tl:List Field}{m:Nat}(hm:m<xs.toList.length)(ht:∀b,oY zt (xs.toList.drop m) (ys.toList.drop m)=some b->(Op.eqFields (d+1) xs ys tl).run P w=.ok b w):∀(z:List D)(fs:List Field)(i:Nat)(b:Bool),uj P z fs i=true->i+fs.length=m->oY (z++zt) (xs.toList.drop i) (ys.toList.drop i)=some b->
    (Op.eqFields (d+1) xs ys (fs++tl)).run P w=.ok b w
  |[],[],i,b,_,hl,he=>by
   obtain rfl:i=m:=by simpa using hl
   exact ht b he
  |[],_::_,_,_,hf,_,_=>by cases hf
  |_::_,[],_,_,hf,_,_=>by cases hf
  |d0::z,f::fs,i,b,hf,hl,he=>by
   simp only[uj,Bool.and_eq_true]at hf;obtain⟨⟨⟨h1,h2⟩,h3⟩,h4⟩:=hf;have h1:=Nat.eq_of_beq_eq_true h1;simp only[List.length_cons]at hl;simp only[List.cons_append]at he⊢;have hi:i<xs.toList.length:=by omega
   rw[List.drop_eq_getElem_cons hi]at he;have eh:f.name≠ "_":=by simpa using h2
   cases hy:ys.toList.drop i with
   |nil=>rw[hy]at he;cases d0<;>cases hx:xs.toList[i]<;>rw[hx]at he<;>cases he
   |cons y r=>
    rw[hy]at he;have Rk:ys.toList[i]?=some y:=by
     have:(ys.toList.drop i)[0]?=some y:=by rw[hy];rfl
     simpa using this
    have FY:ys.toList.drop (i+1)=r:=by
     have:(ys.toList.drop i).drop 1=r:=by rw[hy];rfl
     simpa[List.drop_drop,Nat.add_comm]using this
    have ui:xs.toList[i]?=some xs.toList[i]:=List.getElem?_eq_getElem hi;cases d0 with
    |int k0 m0=>
     cases hx:xs.toList[i]with
     |int k a=>
      rw[hx]at he ui;cases y with
      |int k' b'=>
       simp only[oY]at he;cases hs:same k k' with
       |false=>rw[hs]at he;cases he
       |true=>
        rw[hs]at he;obtain rfl:=fq hs;simp only at he;cases hu:P.underlying f.type with
        |none=>rw[hu]at h3;cases h3
        |some td=>
         rw[hu]at h3;cases td with
         |int kk=>
          cases hr:oY (z++zt) (xs.toList.drop (i+1)) r with
          |none=>rw[hr]at he;cases he
          |some b1=>
           rw[hr]at he;cases he;have ih:=ln hm ht z fs (i+1) b1 h4 (by omega) (by rw[FY];exact hr);simp only[Op.eqFields,ne_eq,eh,not_false_eq_true,if_true,Sem.run_bind];rw[h1,lT hu (by simpa using ui),Result.andThen_ok,lT hu (by simpa using Rk),Result.andThen_ok,run_equalIn_int w d f.type k kk a b' hu,Result.andThen_ok];cases FV:(a==b')with
           |false=>simp
           |true=>simpa using ih
         |_=>cases h3
      |_=>cases he
     |_=>rw[hx]at he;cases he
    |ff=>
     cases hx:xs.toList[i]with
     |bool a=>
      rw[hx]at he ui;cases y with
      |bool b'=>
       simp only[oY]at he;cases hu:P.underlying f.type with
       |none=>rw[hu]at h3;cases h3
       |some td=>
        rw[hu]at h3;cases td with
        |bool=>
         cases hr:oY (z++zt) (xs.toList.drop (i+1)) r with
         |none=>rw[hr]at he;cases he
         |some b1=>
          rw[hr]at he;cases he;have ih:=ln hm ht z fs (i+1) b1 h4 (by omega) (by rw[FY];exact hr);simp only[Op.eqFields,ne_eq,eh,not_false_eq_true,if_true,Sem.run_bind];rw[h1,j3 hu (by simpa using ui),Result.andThen_ok,j3 hu (by simpa using Rk),Result.andThen_ok,run_equalIn_bool w d f.type a b' hu,Result.andThen_ok];cases FV:(a==b')with
          |false=>simp
          |true=>simpa using ih
        |_=>cases h3
      |_=>cases he
     |_=>rw[hx]at he;cases he
    |str s0=>
     cases hx:xs.toList[i]with
     |string a=>
      rw[hx]at he ui;cases y with
      |string b'=>
       simp only[oY]at he;cases hu:P.underlying f.type with
       |none=>rw[hu]at h3;cases h3
       |some td=>
        rw[hu]at h3;cases td with
        |string=>
         cases hr:oY (z++zt) (xs.toList.drop (i+1)) r with
         |none=>rw[hr]at he;cases he
         |some b1=>
          rw[hr]at he;cases he;have ih:=ln hm ht z fs (i+1) b1 h4 (by omega) (by rw[FY];exact hr);simp only[Op.eqFields,ne_eq,eh,not_false_eq_true,if_true,Sem.run_bind];rw[h1,hU hu (by simpa using ui),Result.andThen_ok,hU hu (by simpa using Rk),Result.andThen_ok,run_equalIn_string w d f.type a b' hu,Result.andThen_ok];cases FV:(a.toList==b'.toList)with
          |false=>simp
          |true=>simpa using ih
        |_=>cases h3
      |_=>cases he
     |_=>rw[hx]at he;cases he
    |_=>cases he
theorem n6{P:Program}{w:World}{em:Bool}{d:Nat}{xs:Array Value}{tl:List Field}{m:Nat}(hm:m<=xs.toList.length)(ht:(forIn (m:=Sem) tl PUnit.unit λf(_:PUnit)=>do
        if f.name≠ "_" then Instr.checkKey em (d+1) f.type (←part f.type xs f.offset)
        pure (ForInStep.yield PUnit.unit)).run P w=.ok () w):∀(z:List D)(fs:List Field)(i:Nat),uj P z fs i=true->i+fs.length=m->
    (forIn (m:=Sem) (fs++tl) PUnit.unit λf(_:PUnit)=>do
        if f.name≠ "_" then Instr.checkKey em (d+1) f.type (←part f.type xs f.offset)
        pure (ForInStep.yield PUnit.unit)).run P w=.ok () w
  |[],[],_,_,_=>ht
  |[],_::_,_,hf,_=>by cases hf
  |_::_,[],_,hf,_=>by cases hf
  |d0::z,f::fs,i,hf,hl=>by
   simp only[uj,Bool.and_eq_true]at hf;obtain⟨⟨⟨h1,h2⟩,h3⟩,h4⟩:=hf;have h1:=Nat.eq_of_beq_eq_true h1;simp only[List.length_cons]at hl;have hi:i<xs.toList.length:=by omega
   obtain⟨x,ui⟩:∃x,xs[i]?=some x:=⟨xs[i]'(by simpa using hi),by simp at hi;simp[hi]⟩;have eh:f.name≠ "_":=by simpa using h2
   have ih:=n6 hm ht z fs (i+1) h4 (by omega);cases hu:P.underlying f.type with
   |none=>rw[hu]at h3;cases d0<;>cases h3
   |some td=>
    rw[hu]at h3;cases td with
    |int kk=>
     have pX:∀v,(Instr.checkKey em (d+1) f.type v).run P w=.ok () w:=λv=>by
      unfold Instr.checkKey;simp only[Sem.run_bind,run_underlying hu,Result.andThen];cases v<;>rfl
     have hp:=lT (w:=w) hu ui;rw[<-h1]at hp;simp only[List.cons_append,List.forIn_cons,Sem.run_bind,eh,ne_eq,not_false_eq_true,if_true,hp,Result.andThen_ok,pX,Sem.run_pure];exact ih
    |bool=>
     have pX:∀v,(Instr.checkKey em (d+1) f.type v).run P w=.ok () w:=λv=>by
      unfold Instr.checkKey;simp only[Sem.run_bind,run_underlying hu,Result.andThen];cases v<;>rfl
     have hp:=j3 (w:=w) hu ui;rw[<-h1]at hp;simp only[List.cons_append,List.forIn_cons,Sem.run_bind,eh,ne_eq,not_false_eq_true,if_true,hp,Result.andThen_ok,pX,Sem.run_pure];exact ih
    |string=>
     have pX:∀v,(Instr.checkKey em (d+1) f.type v).run P w=.ok () w:=λv=>by
      unfold Instr.checkKey;simp only[Sem.run_bind,run_underlying hu,Result.andThen];cases v<;>rfl
     have hp:=hU (w:=w) hu ui;rw[<-h1]at hp;simp only[List.cons_append,List.forIn_cons,Sem.run_bind,eh,ne_eq,not_false_eq_true,if_true,hp,Result.andThen_ok,pX,Sem.run_pure];exact ih
    |_=>cases d0<;>cases h3
theorem wm{P:Program}{w:World}{t:TypeId}{fs:Array Field}(h:P.underlying t=some (.struct fs)){i:TypeInfo}(hi:P.info? t=some i){m:Nat}(hs:i.size=m)(xs:Array Value)(off:Nat):(part t xs off).run P w=.ok (.agg (xs.extract off (off+m))) w:=by
 simp[part,isAgg,run_underlying h,sizeOf,typeInfo,hi,hs]
theorem N9:∀{z:List D}{xs ys:List Value}{b:Bool},oY z xs ys=some b->xs.length=ys.length:=by
 intro z xs ys b h
 induction z generalizing xs ys b with
 |nil=>cases xs<;>cases ys<;>first|rfl|cases h
 |cons d z ih=>
  cases xs with
  |nil=>cases d<;>cases h
  |cons x xs=>
   cases ys with
   |nil=>cases d<;>cases x<;>cases h
   |cons y ys=>
    have:∃b',oY z xs ys=some b':=by
     cases hr:oY z xs ys with
     |some b'=>exact⟨b',rfl⟩
     |none=>
      unfold oY at h;split at h<;>first|(simp_all;done)|(split at h<;>simp_all)
    obtain⟨b',hb⟩:=this;simp[ih hb]
theorem ext_toList{xs:Array Value}{m k:Nat}(h:xs.toList.length=m+k):(xs.extract m (m+k)).toList=xs.toList.drop m:=by
 simp at h;simp[List.take_of_length_le,h]
theorem Cc{P:Program}{t:TypeId}{fs:Array Field}(h:P.underlying t=some (.struct fs))(hp:P.stoodInHeld t=false)(hm:P.eqGuardType P.depth t=false){fs1:List Field}{g:Field}(dW:fs.toList=fs1++[g]){z1 z2:List D}(hf:uj P z1 fs1 0=true)
    {gs:Array Field}(hg:P.underlying g.type=some (.struct gs))(JH:P.stoodInHeld g.type=false)(QH:uj P z2 gs.toList 0=true)(hgn:g.name≠ "_")(ho:g.offset=fs1.length){i:TypeInfo}(hi:P.info? g.type=some i)(hs:i.size=gs.toList.length)(h0:0<gs.toList.length){n:Nat}(hn:fs1.length+gs.toList.length=n):KN P t n (z1++z2):=by
  have Px:P.fieldsOf t=fs:=by simp[Program.fieldsOf,h]
  have hu:P.underlying t=some (.struct (P.fieldsOf t)):=by rw[Px];exact h
  have vI:P.fieldsOf g.type=gs:=by simp[Program.fieldsOf,hg]
  have hgu:P.underlying g.type=some (.struct (P.fieldsOf g.type)):=by rw[vI];exact hg
  have key:∀(w:World)(xs ys:Array Value)(b:Bool),xs.toList.length=n->oY (z1++z2) xs.toList ys.toList=some b->(Op.equalIn 10000 t (.agg xs) (.agg ys)).run P w=.ok b w:=λw xs ys b hl he=>by
   have QB:ys.toList.length=n:=(N9 he).symm.trans hl;have e:(Op.eqFields (9998+1) xs ys (fs1++[g])).run P w=.ok b w:=by
    refine ln (P:=P) (w:=w) (d:=9998) (xs:=xs) (ys:=ys) (zt:=z2) (tl:=[g]) (m:=fs1.length) (by omega) (λb he=>?_) z1 fs1 0 b hf (by omega) (by simpa using he);have dv:(Op.eqFields (9997+1) (xs.extract fs1.length (fs1.length+gs.toList.length)) (ys.extract fs1.length (fs1.length+gs.toList.length)) gs.toList).run P w=.ok b w:=by
     refine ix (P:=P) (w:=w) (d:=9997) z2 gs.toList 0 b QH ?_ ?_
     .rw[ext_toList (by omega),List.length_drop];omega
     rw[List.drop_zero,List.drop_zero,ext_toList (by omega),ext_toList (by omega)];exact he
    have cH:(Op.equalIn (9998+1) g.type (.agg (xs.extract fs1.length (fs1.length+gs.toList.length))) (.agg (ys.extract fs1.length (fs1.length+gs.toList.length)))).run P w=.ok b w:=(run_equalIn_struct (P:=P) w 9998 g.type (xs.extract fs1.length (fs1.length+gs.toList.length)) (ys.extract fs1.length (fs1.length+gs.toList.length)) hgu JH).trans (by rw[vI];exact dv);simp only[Op.eqFields,ne_eq,hgn,not_false_eq_true,if_true,Sem.run_bind];rw[ho,wm hg hi hs,Result.andThen_ok,wm hg hi hs,Result.andThen_ok,cH,Result.andThen_ok];cases b<;>simp
   exact(run_equalIn_struct (P:=P) w 9999 t xs ys hu hp).trans (by rw[Px,dW];exact e)
  refine⟨λw xs ys b hl he=>key w xs ys b hl he,λw em xs hl=>?_,⟨fs,h⟩,λw x y xs ys b hl he=>?_⟩
  .show(Instr.checkKey em (9999+1) t (.agg xs)).run P w=.ok () w
   unfold Instr.checkKey;simp only[Sem.run_bind,run_underlying h,Result.andThen_ok];rw[<-Array.forIn_toList,dW];have pX:(Instr.checkKey em (9998+1) g.type (.agg (xs.extract fs1.length (fs1.length+gs.toList.length)))).run P w=.ok () w:=by
    unfold Instr.checkKey;simp only[Sem.run_bind,run_underlying hg,Result.andThen_ok];rw[<-Array.forIn_toList];have e:=jD (P:=P) (w:=w) (em:=em) (d:=9997) (xs:=xs.extract fs1.length (fs1.length+gs.toList.length)) z2 gs.toList 0 QH (by rw[ext_toList (by omega),List.length_drop];omega)
    erw[e]
    rfl
   have e:=n6 (P:=P) (w:=w) (em:=em) (d:=9998) (xs:=xs) (tl:=[g]) (m:=fs1.length) (by omega) (by
    simp only[List.forIn_cons,Sem.run_bind,hgn,ne_eq,not_false_eq_true,if_true];rw[ho,wm hg hi hs];simp only[Result.andThen_ok,pX];simp) z1 fs1 0 hf (by omega)
   erw[e]
   rfl
  have he:=key w xs ys b hl he;constructor
  .rw[Sem.run_bind,run_eqGuard_agg w .eql t x y xs ys hm,Result.andThen_ok,run_eql_struct,he];rfl
  rw[Sem.run_bind,run_eqGuard_agg w .neq t x y xs ys hm,Result.andThen_ok,run_neq_struct,he];rfl
end Go.V
