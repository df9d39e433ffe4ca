/- What ballasted_holds leans on, part UC. No condition. -/
import Derived.Laws.StructEq
import Derived.Test.YthglcafppddedaaGreatDoorPackUB

set_option linter.all false
namespace Go.V
open Go.RowKit
theorem DT(a b:ByteArray):(a.toList==b.toList)=MU a b:=by
 rw[ByteArray.toList_eq,ByteArray.toList_eq];cases h:MU a b with
 |true=>rw[yR.1 h];exact beq_self_eq_true _
 |false=>exact beq_eq_false_iff_ne.2 λhh=>by unfold MU at h;rw[yQ.2 hh]at h;cases h
section
variable{P:Program}{T:Nat->Option TI}{cx:Cx}{V:Nat->Prop}{U:St}{β:BE}{I:aW}{S:Nat->Prop}{N:Nat}{a:Act}{w:World}
theorem fq{k k':IntKind}(h:same k k'=true):k=k':=by cases k<;>cases k'<;>first|rfl|cases h
theorem Rel.ir{v:Value}{s:ByteArray}(h:Rel I β v (.str s)):v=.string s:=by cases h;rfl
theorem iQ{v:Value}{d:D}{b:Bool}(h:Rel I β v d)(hd:di d=some b):v=.bool b:=by
 cases h<;>first|(cases hd;rfl)|cases hd
theorem qx:∀{z xs ys:List D}{vs us:List Value}{b:Bool},bn I β vs xs->bn I β us ys->ka z xs ys=some b->oY z vs us=some b
 |[],[],[],vs,us,b,h1,h2,hb=>by rw[h1.cR,h2.cR];simpa[ka,oY]using hb
 |[],[],_::_,_,_,_,_,_,hb=>by simp[ka]at hb
 |[],_::_,_,_,_,_,_,_,hb=>by simp[ka]at hb
 |d::_,[],_,_,_,_,_,_,hb=>by cases d<;>simp[ka]at hb
 |d::_,_::_,[],_,_,_,_,_,hb=>by cases d<;>simp[ka]at hb
 |d::z,x::xs,y::ys,vs,us,b,h1,h2,hb=>by
  obtain⟨v,oz,rfl,hv,oG⟩:=h1.cons_inv;obtain⟨u,us',rfl,hu,Qy⟩:=h2.cons_inv;cases d with
  |int k0 m0=>
   simp only[ka]at hb;cases x with
   |int kx m=>
    cases y with
    |int ky n=>
     obtain rfl:=hv.aT;obtain rfl:=hu.aT;simp only[Nf]at hb;simp only[oY];cases hk:same kx ky with
     |false=>rw[hk]at hb;simp at hb
     |true=>
      rw[hk]at hb;simp only at hb⊢;cases he:ka z xs ys with
      |none=>rw[he]at hb;cases hb
      |some c=>
       rw[he]at hb;rw[qx oG Qy he];simpa using hb
    |_=>simp[Nf]at hb
   |_=>simp[Nf]at hb
  |ff=>
   simp only[ka]at hb;cases hx:di x with
   |none=>rw[hx]at hb;cases hb
   |some a=>
    cases hy:di y with
    |none=>rw[hx,hy]at hb;cases hb
    |some c=>
     rw[hx,hy]at hb;rw[iQ hv hx,iQ hu hy];simp only[oY];simp only at hb;cases he:ka z xs ys with
     |none=>rw[he]at hb;cases hb
     |some c'=>
      rw[he]at hb;rw[qx oG Qy he];simpa using hb
  |str s0=>
   cases x with
   |str p=>
    cases y with
    |str q=>
     obtain rfl:=hv.ir;obtain rfl:=hu.ir;simp only[ka]at hb;simp only[oY];cases he:ka z xs ys with
     |none=>rw[he]at hb;cases hb
     |some c'=>
      rw[he]at hb;rw[qx oG Qy he,DT];simpa using hb
    |_=>simp[ka]at hb
   |_=>simp[ka]at hb
  |_=>simp[ka]at hb
theorem Bd:∀{z xs ys:List D}{b:Bool},rM z=true->z.length=xs.length->I9 xs ys=some b->ka z xs ys=some b
 |[],[],[],_,_,_,h=>h
 |[],[],_::_,_,_,_,h=>by cases h
 |[],_::_,_,_,_,hl,_=>by cases hl
 |_::_,[],_,_,_,hl,_=>by cases hl
 |_::_,_::_,[],_,_,_,h=>by cases h
 |d::z,x::xs,y::ys,b,hz,hl,h=>by
  cases d with
  |int k m=>
   simp only[I9]at h;simp only[ka];cases hd:Nf x y with
   |none=>rw[hd]at h;cases h
   |some a=>
    rw[hd]at h;simp only at h⊢;cases he:I9 xs ys with
    |none=>rw[he]at h;cases h
    |some c=>
     rw[he]at h;rw[Bd (z:=z) hz (by simpa using hl) he];exact h
  |_=>cases hz
abbrev eD(op:BinOp)(t:TypeId)(x y:Operand)(u v:Value):Sem Value:=do eqGuard op t x y u v;binOp op t u v
theorem iR(d:Nat){t e:TypeId}(p:Option Addr)(h:P.underlying t=some (.pointer e)):(Op.equalIn (d+1) t (.pointer p) (.pointer none)).run P w=.ok p.isNone w:=by
 cases p<;>simp[Op.equalIn,run_underlying h]
theorem rT{t:TypeId}{ti:TI}(h:aj P t ti){x y:Operand}{op:BinOp}{k:D->Prop}(p q:Option Addr)(b:Bool)(hr:∀e,P.underlying t=some (.pointer e)->(Op.equal t (.pointer p) (.pointer q)).run P w=.ok b w)
    (hk:match ti.desc,op with|.pointer _,.eql=>k (.bool b)|.pointer _,.neq=>k (.bool (!b))|_,_=>False):∃z f,(eD op t x y (.pointer p) (.pointer q)).run P w=.ok z w/\k f/\Rel I β z f:=by
  cases hd:ti.desc with
  |pointer e=>
   rw[hd]at hk;have hr:=hr e (hd▸h.desc);cases op with
   |eql=>exact⟨_,_,by simp[eD,eqGuard,binOp,hr],hk,.bool _⟩
   |neq=>exact⟨_,_,by simp[eD,eqGuard,binOp,hr],hk,.bool _⟩
   |_=>exact hk.elim
  |_=>rw[hd]at hk;exact hk.elim
theorem Hg(hT:br P T){t:TypeId}{ti:TI}(ht:T t=some ti){x y:Operand}{u v:Value}{d e:D}(hu:Rel I β u d)(hv:Rel I β v e){op:BinOp}{k:D->Prop}(hk:jN ti op d e k):
    ∃z f,(eD op t x y u v).run P w=.ok z w/\k f/\Rel I β z f:=by
  have h:=hT t ti ht;cases d with
  |int kx m=>
   obtain rfl:=hu.aT;cases e with
   |int ky n=>
    obtain rfl:=hv.aT;cases op with
    |shl=>
     obtain⟨h0,r,rfl,hk⟩:=hk;refine⟨_,_,?_,hk,.int _ _⟩;have:¬n<0:=by omega
     simp[eD,binOp,Op.shift,this,eqGuard]
    |shr=>
     obtain⟨h0,r,rfl,hk⟩:=hk;refine⟨_,_,?_,hk,.int _ _⟩;have:¬n<0:=by omega
     simp[eD,binOp,Op.shift,this,eqGuard]
    |quo=>
     obtain⟨hs,h0,r,rfl,bF⟩:=ae hk;clear hk;obtain rfl:=fq hs;exact⟨_,_,by simp[eD,binOp,Op.intDiv,h0,eqGuard],bF,.int _ _⟩
    |rem=>
     obtain⟨hs,h0,r,rfl,bF⟩:=ae hk;clear hk;obtain rfl:=fq hs;exact⟨_,_,by simp[eD,binOp,Op.intDiv,h0,eqGuard],bF,.int _ _⟩
    |add=>
     obtain⟨hs,r,rfl,bF⟩:=ae hk;clear hk;obtain rfl:=fq hs;exact⟨_,_,by simp[eD,binOp,Op.intArith,eqGuard],bF,.int _ _⟩
    |sub=>
     obtain⟨hs,r,rfl,bF⟩:=ae hk;clear hk;obtain rfl:=fq hs;exact⟨_,_,by simp[eD,binOp,Op.intArith,eqGuard],bF,.int _ _⟩
    |mul=>
     obtain⟨hs,r,rfl,bF⟩:=ae hk;clear hk;obtain rfl:=fq hs;exact⟨_,_,by simp[eD,binOp,Op.intArith,eqGuard],bF,.int _ _⟩
    |and=>
     obtain⟨hs,r,rfl,bF⟩:=ae hk;clear hk;obtain rfl:=fq hs;exact⟨_,_,by simp[eD,eqGuard,binOp_and,intBits_and],bF,.int _ _⟩
    |or=>
     obtain⟨hs,r,rfl,bF⟩:=ae hk;clear hk;obtain rfl:=fq hs;exact⟨_,_,by simp[eD,eqGuard,binOp_or,intBits_or],bF,.int _ _⟩
    |xor=>
     obtain⟨hs,r,rfl,bF⟩:=ae hk;clear hk;obtain rfl:=fq hs;exact⟨_,_,by simp[eD,eqGuard,binOp_xor,intBits_xor],bF,.int _ _⟩
    |andNot=>
     obtain⟨hs,r,rfl,bF⟩:=ae hk;clear hk;obtain rfl:=fq hs;exact⟨_,_,by simp[eD,eqGuard,binOp_andNot,intBits_andNot],bF,.int _ _⟩
    |eql|neq|lss|leq|gtr|geq=>
     obtain⟨hs,bF⟩:=ae hk;clear hk;obtain rfl:=fq hs;exact⟨_,_,by simp[eD,binOp,Op.intCmp,eqGuard],bF,.bool _⟩
   |_=>simp[jN,di,rJ]at hk
  |str s=>
   obtain rfl:=hu.ir;cases e with
   |str s'=>
    obtain rfl:=hv.ir;cases op with
    |eql|neq|lss=>exact⟨_,_,by simp[eD,binOp,Op.stringOp,eqGuard],hk,.bool _⟩
    |add=>
     have hb:¬((s.size+s'.size:Nat):Int)>IntKind.i64.max:=by
      have h1:=hk.1;have h2:IntKind.i64.max=9223372036854775807:=by decide
      rw[h2];omega
     exact⟨_,_,by simp only[eD,binOp,Op.stringOp,eqGuard,if_neg hb];simp,hk.2,.str _⟩
    |_=>exact hk.elim
   |_=>simp[jN,di,rJ]at hk
  |agg xs=>
   cases e with
   |agg ys=>
    obtain⟨cs,rfl,fS⟩:=hu.gM;obtain⟨xI,rfl,Nu⟩:=hv.gM;simp only[jN]at hk;cases hq:ti.eqs with
    |false=>rw[hq]at hk;simp at hk
    |true=>
     rw[hq]at hk;cases he:ka ti.zero xs ys with
     |none=>rw[he]at hk;simp at hk
     |some b=>
      rw[he]at hk;have hb:=λhl=>h.eqs hq w x y cs xI b hl (qx fS.1 Nu.1 he);cases op with
      |eql=>obtain⟨hl,hk⟩:=ae hk;exact⟨_,_,(hb (fS.1.1.trans (Nat.eq_of_beq_eq_true hl))).1,hk,.bool _⟩
      |neq=>obtain⟨hl,hk⟩:=ae hk;exact⟨_,_,(hb (fS.1.1.trans (Nat.eq_of_beq_eq_true hl))).2,hk,.bool _⟩
      |_=>exact hk.elim
   |_=>simp[jN,di,rJ]at hk
  |tt|ff|bool b0=>
   simp only[jN,rJ]at hk;cases hd:ti.desc with
   |bool=>
    rw[hd]at hk;cases op with
    |eql=>
     split at hk
     .rename_i b1 b2 h1 h2
      cases iQ hu h1;cases iQ hv h2;exact⟨_,_,by simp[eD,eqGuard,run_eql_bool _ _ _ _ (hd▸h.desc)],hk,.bool _⟩
     .rename_i hn;simp_all
     exact hk.elim
    |neq=>
     split at hk
     .rename_i hn;simp_all
     .rename_i b1 b2 h1 h2
      cases iQ hu h1;cases iQ hv h2;exact⟨_,_,by simp[eD,eqGuard,run_neq_bool _ _ _ _ (hd▸h.desc)],hk,.bool _⟩
     exact hk.elim
    |_=>exact hk.elim
   |_=>rw[hd]at hk;exact hk.elim
  |cO=>
   cases e with
   |cO=>
    cases hu;cases hv;exact rT h none none true (λe he=>iR 9999 _ he) hk
   |_=>simp[jN,di,rJ]at hk
  |ro cs=>
   cases e with
   |cO=>
    obtain⟨A,rfl⟩:=hu.Js;cases hv;exact rT h (some A) none false (λe he=>iR 9999 _ he) hk
   |_=>simp[jN,di,rJ]at hk
  |loc i o=>
   cases e with
   |cO=>
    obtain⟨R,o',rfl⟩:=hu.y6;cases hv;exact rT h (some ⟨R,o',none⟩) none false (λe he=>iR 9999 _ he) hk
   |_=>simp[jN,di,rJ]at hk
  |_=>simp[jN,di,rJ]at hk
end
end Go.V
namespace Go.V
open Go.RowKit
section
variable{P:Program}{T:Nat->Option TI}{cx:Cx}{V:Nat->Prop}{U:St}{β:BE}{I:aW}{S:Nat->Prop}{N:Nat}{a:Act}{w:World}
theorem Hh{vs:List Value}{ds:List D}(h:bn I β vs ds){k:D->Prop}(hk:yS ds k)(ts:Array TypeId)(ty:TypeId):
    ∃v d,(Builtin.min_ ts ty vs.toArray).run P w=.ok v w/\k d/\Rel I β v d:=by
  match ds,hk with
  |[.int kx m,.int ky n],hk=>
   obtain⟨v,vs,rfl,hv,h⟩:=h.cons_inv;obtain⟨u,us,rfl,hu,h⟩:=h.cons_inv;obtain rfl:=h.cR;obtain rfl:=hv.aT;obtain rfl:=hu.aT;obtain⟨hs,bF⟩:=ae hk;refine⟨.int kx (min m n),_,?_,bF,.int _ _⟩;have:(if n<m then n else m)=min m n:=by omega
   simp[Builtin.min_,Builtin.min2,this]
  |[.int kx m,.int ky n,.int kz q],hk=>
   obtain⟨v,vs,rfl,hv,h⟩:=h.cons_inv;obtain⟨u,us,rfl,hu,h⟩:=h.cons_inv;obtain⟨x,xs,rfl,hx,h⟩:=h.cons_inv;obtain rfl:=h.cR;obtain rfl:=hv.aT;obtain rfl:=hu.aT;obtain rfl:=hx.aT;obtain⟨hs,bF⟩:=ae hk;refine⟨.int kx (min (min m n) q),_,?_,bF,.int _ _⟩;have h1:(if n<m then n else m)=min m n:=by omega
   have h2:(if q<min m n then q else min m n)=min (min m n) q:=by omega
   simp[Builtin.min_,Builtin.min2,h1,h2]
theorem Hj{vs:List Value}{ds:List D}(h:bn I β vs ds){k:D->Prop}(hk:AR ds k)(ts:Array TypeId)(ty:TypeId):
    ∃v d,(Builtin.max_ ts ty vs.toArray).run P w=.ok v w/\k d/\Rel I β v d:=by
  match ds,hk with
  |[.int kx m,.int ky n],hk=>
   obtain⟨v,vs,rfl,hv,h⟩:=h.cons_inv;obtain⟨u,us,rfl,hu,h⟩:=h.cons_inv;obtain rfl:=h.cR;obtain rfl:=hv.aT;obtain rfl:=hu.aT;obtain⟨hs,bF⟩:=ae hk;refine⟨.int kx (max m n),_,?_,bF,.int _ _⟩;have:(if n>m then n else m)=max m n:=by omega
   have:(if m<n then n else m)=max m n:=by omega
   simp[Builtin.max_,Builtin.max2, *]
theorem Hk{t:TypeId}{ti:TI}(h:aj P t ti){v:Value}{d:D}(hv:Rel I β v d){e:TypeId}(hd:ti.desc=.slice e){k:D->Prop}(hk:DE d k)(ty:TypeId):
    ∃z e,(Builtin.len_ #[t] ty #[v]).run P w=.ok z w/\k e/\Rel I β z e:=by
  have key:∀A n c,(Builtin.len_ #[t] ty #[.slice A n c]).run P w=.ok (.int .i64 n) w:=λA n c=>by simp[Builtin.len_,run_underlying h.desc,hd,goInt]
  cases d with
  |list sz rows=>cases hv<;>exact⟨_,_,key _ _ _,hk,.int _ _⟩
  |ao=>cases hv;exact⟨_,_,key _ _ _,hk,.int _ _⟩
  |sl i g off len=>cases hv<;>exact⟨_,_,key _ _ _,hk,.int _ _⟩
  |gj i off sz len=>cases hv<;>exact⟨_,_,key _ _ _,hk,.int _ _⟩
  |_=>exact hk.elim
theorem ve{t:TypeId}{ti:TI}(h:aj P t ti){cs:Array Value}{ds:List D}(hr:cT I β cs.toList ds){off:Nat}:
    (ti.agg=true->off+ti.size<=ds.length->∃v,(part t cs off).run P w=.ok v w/\Rel I β v (.agg ((ds.drop off).take ti.size)))/\
    (ti.agg=false->∀d,ds[off]?=some d->∃v,(part t cs off).run P w=.ok v w/\Rel I β v d):=by
  constructor
  .intro ha hl
   refine⟨.agg (cs.extract off (off+ti.size)),by simp[part,h.oF,ha,h.run_sizeOf],?_⟩;have:=Rel.A6 ((hr.drop off).take ti.size);have e:cs.extract off (off+ti.size)=((cs.toList.drop off).take ti.size).toArray:=by
    apply Array.toList_inj.1;simp
   rw[e];exact this
  intro ha d hd;obtain⟨v,hv,xb,_⟩:=hr.get hd;refine⟨v,?_,xb⟩;have:cs[off]?=some v:=by simpa using hv
  simp[part,h.oF,ha,this]
theorem Be(hT:br P T){t:TypeId}{ti:TI}(ht:T t=some ti){v:Value}{cs:List D}(hv:Rel I β v (.agg cs)){f off:Nat}{tf:TI}(hf:fK T ti.desc f=some (off,tf)):
    (tf.agg=true->off+tf.size<=cs.length->∃z,(Instr.field t v f).run P w=.ok z w/\Rel I β z (.agg ((cs.drop off).take tf.size)))/\
    (tf.agg=false->∀d,cs[off]?=some d->∃z,(Instr.field t v f).run P w=.ok z w/\Rel I β z d):=by
  have h:=hT t ti ht;obtain⟨xs,rfl,rU⟩:=hv.gM;unfold fK at hf;cases hd:ti.desc with
  |struct fs=>
   rw[hd]at hf;simp only at hf;cases hx:fs[f]? with
   |none=>rw[hx]at hf;cases hf
   |some x=>
    rw[hx]at hf;simp only at hf;cases hy:T x.type with
    |none=>rw[hy]at hf;cases hf
    |some tx=>
     rw[hy]at hf;cases hf;have e:(Instr.field t (.agg xs) f).run P w=(part x.type xs x.offset).run P w:=by
      unfold Instr.field;simp[run_underlying h.desc,hd,hx,asAgg]
     rw[e];exact ve (hT _ _ hy) rU
  |_=>rw[hd]at hf;cases hf
theorem Bf(hT:br P T){t:TypeId}{ti te:TI}(ht:T t=some ti){len:Nat}{e:TypeId}(hd:ti.desc=.array len e)(eU:aj P e te){v:Value}{cs:List D}(hv:Rel I β v (.agg cs))
    {kk:IntKind}{n:Int}(h0:0<=n)(h1:n<len):
    (te.agg=true->n.toNat*te.size+te.size<=cs.length->∃z,(Instr.index t v (.int kk n)).run P w=.ok z w/\Rel I β z (.agg ((cs.drop (n.toNat*te.size)).take te.size)))/\
    (te.agg=false->∀d,cs[n.toNat*te.size]?=some d->∃z,(Instr.index t v (.int kk n)).run P w=.ok z w/\Rel I β z d):=by
  have h:=hT t ti ht;obtain⟨xs,rfl,rU⟩:=hv.gM;have e:(Instr.index t (.agg xs) (.int kk n)).run P w=(part e xs (n.toNat*te.size)).run P w:=by
   have hc:0<=n/\n<(len:Int):=⟨h0,h1⟩;unfold Instr.index;simp[run_underlying h.desc,hd,asIntOf,hc,eU.run_sizeOf]
  rw[e];exact ve eU rU
theorem vf(cs:List D)(off:Nat)(ds:List D)(h:off+ds.length<=cs.length):(cd cs off ds).length=cs.length:=by
 simp[cd];omega
def bt(cs:List Value)(off:Nat)(ds:List Value):List Value:=cs.take off++(ds++cs.drop (off+ds.length))
theorem cT.cd{vs us:List Value}{cs ds:List D}(h:cT I β vs cs)(h':cT I β us ds)(off:Nat):cT I β (bt vs off us) (cd cs off ds):=by
 unfold bt V.cd;rw[h'.1.1];exact(h.take off).append (h'.append (h.drop _))
theorem Nv(l:List Value)(o:Nat)(v:Value)(r:List Value)(h:o<l.length):
    (l.set o v).take (o+1)++(r++(l.set o v).drop (o+1+r.length))=l.take o++((v::r)++l.drop (o+(v::r).length)):=by
  have e1:(l.set o v).take (o+1)=l.take o++[v]:=by
   rw[List.take_succ_eq_append_getElem (by simpa using h)];congr 1
   .apply List.ext_getElem?
    intro i;simp only[List.getElem?_take,List.getElem?_set];by_cases hi:i<o
    .simp[hi];omega
    simp[hi]
   simp
  have e2:(l.set o v).drop (o+1+r.length)=l.drop (o+(v::r).length):=by
   apply List.ext_getElem?;intro i;simp only[List.getElem?_drop,List.getElem?_set,List.length_cons];rw[if_neg (by omega)];congr 1;omega
  rw[e1,e2];simp
theorem qy:∀(us:List Value)(k:Nat)(cs:Array Value)(off:Nat),off+k+us.length<=cs.size->
    (us.zipIdx k).foldl (λ(cs:Array Value)(x:Value×Nat)=>cs.setIfInBounds (off+x.2) x.1) cs=(bt cs.toList (off+k) us).toArray
  |[],k,cs,off,_=>by simp[bt]
  |v::r,k,cs,off,hc=>by
   simp only[List.length_cons]at hc;simp only[List.zipIdx_cons,List.foldl_cons];rw[qy r (k+1) _ off (by simp;omega)];congr 1;have:=Nv cs.toList (off+k) v r (by simp;omega);simpa[bt,Nat.add_assoc]using this
theorem xQ(u:Value)(cs:Array Value)(off:Nat)(hc:off+u.cells.size<=cs.size):
    u.cells.zipIdx.foldl (λ(cs:Array Value)(x:Value×Nat)=>cs.setIfInBounds (off+x.2) x.1) cs=(bt cs.toList off u.cells.toList).toArray:=by
  have:=qy u.cells.toList 0 cs off (by simpa using hc);rw[Nat.add_zero]at this;rw[<-this,<-Array.foldl_toList];simp[Array.toList_zipIdx]
theorem oH(hs:bf cx V U β I S N a w):∀{ps:List (Nat×Operand)}{l:List (Nat×D)},(∀x t,x∈ps->x.2=.tmp t->V t)->U.AK ps=some l->
    l.length=ps.length/\∀(i:Nat)(x:Nat×Operand)(y:Nat×D),ps[i]?=some x->l[i]?=some y->x.1=y.1/\Rel I β (a.eval x.2) y.2
  |[],l,_,h=>by simp[St.AK]at h;subst h;exact⟨rfl,λi x y h=>by simp at h⟩
  |(j,x)::r,l,hV,h=>by
   simp only[St.AK]at h;cases h1:U.ev x with
   |none=>rw[h1]at h;cases h
   |some d=>
    rw[h1]at h;cases h2:U.AK r with
    |none=>rw[h2]at h;cases h
    |some l'=>
     rw[h2]at h;cases h;obtain⟨hl,hr⟩:=oH hs (λy t hy e=>hV y t (by simp[hy]) e) h2;refine⟨by simp[hl],λi y z hy hz=>?_⟩;cases i with
     |zero=>
      simp at hy hz;subst hy;subst hz;exact⟨rfl,hs.ev (λt e=>hV (j,x) t (by simp) e) h1⟩
     |succ i=>exact hr i y z (by simpa using hy) (by simpa using hz)
theorem pW{place:Nat->Option (Nat×Nat)}{DU:Nat->Option (Nat×Nat)}(hp:∀i x,DU i=some x->place i=some x):
    ∀{ps:List (Nat×Value)}{l:List (Nat×D)}{cs:Array Value}{ds Ph:List D},ps.length=l.length->
     (∀(i:Nat)(x:Nat×Value)(y:Nat×D),ps[i]?=some x->l[i]?=some y->x.1=y.1/\Rel I β x.2 y.2)->cT I β cs.toList ds->gm DU ds l=some Ph->
     ∃xI,Instr.fill place cs ps=some xI/\cT I β xI.toList Ph
  |[],[],cs,ds,Ph,_,_,hr,h=>by simp[gm]at h;subst h;exact⟨cs,rfl,hr⟩
  |[],_::_,_,_,_,hl,_,_,_=>by simp at hl
  |_::_,[],_,_,_,hl,_,_,_=>by simp at hl
  |(i,v)::ps,(j,d)::l,cs,ds,Ph,hl,aq,hr,h=>by
   obtain⟨Bh,Nw⟩:=aq 0 (i,v) (j,d) rfl rfl;simp only at Bh Nw;subst Bh;simp only[gm]at h;cases kj:DU i with
   |none=>rw[kj]at h;simp at h
   |some x=>
    obtain⟨off,size⟩:=x;rw[kj]at h;cases hc:cellsOf d with
    |none=>rw[hc]at h;simp at h
    |some es=>
     rw[hc]at h;simp only at h;split at h
     .rename_i h1 h2
      have h1:=Nat.eq_of_beq_eq_true h1;have h2:off+size<=ds.length:=Nat.le_of_ble_eq_true h2;have JB:=Nw.cells hc;have dQ:v.cells.size=size:=by have:=JB.1.1;simp at this;omega
      have hdl:cs.size=ds.length:=by have:=hr.1.1;simpa using this
      have gH:=xQ v cs off (by omega);obtain⟨xI,hf,e8⟩:=pW hp (cs:=(bt cs.toList off v.cells.toList).toArray) (by simpa using hl) (λi x y hx hy=>aq (i+1) x y (by simpa using hx) (by simpa using hy))
       (by simpa using hr.cd JB off) h
      refine⟨xI,?_,e8⟩;unfold Instr.fill;rw[hp i _ kj];have hb:(decide (v.cells.size≠size)||decide (off+v.cells.size>cs.size))=false:=by
       simp;omega
      simp only[hb,Bool.false_eq_true,if_false];rw[gH];exact hf
     cases h
end
end Go.V
namespace Go.V
open Go.RowKit
section
variable{P:Program}{T:Nat->Option TI}{cx:Cx}{V:Nat->Prop}{U:St}{β:BE}{I:aW}{S:Nat->Prop}{N:Nat}{a:Act}{w:World}
theorem pa{α γ:Type}(f:α->Sem γ)(g:α->γ):∀(l:List α),(∀x∈l,(f x).run P w=.ok (g x) w)->(l.mapM f).run P w=.ok (l.map g) w
 |[],_=>by simp
 |x::r,h=>by
  rw[List.mapM_cons];simp only[Sem.run_bind,h x (by simp),Result.andThen_ok,pa f g r (λy hy=>h y (by simp[hy])),Sem.run_pure,List.map_cons]
theorem run_places{t:TypeId}{ti:TI}(h:aj P t ti){fs:Array Field}(hd:ti.desc=.struct fs):
    (fs.mapM λf=>do pure (f.offset,<-sizeOf f.type):Sem (Array (Nat×Nat))).run P w=.ok (fs.map λf=>(f.offset,P.cellsOf f.type)) w:=by
  rw[Array.mapM_eq_mapM_toList];have:(fs.toList.mapM λf=>(do pure (f.offset,<-sizeOf f.type):Sem (Nat×Nat))).run P w=.ok (fs.toList.map λf=>(f.offset,P.cellsOf f.type)) w:=by
   refine pa _ _ _ λf hf=>?_;have hk:=h.known fs hd f hf;obtain⟨i,hi⟩:=Option.isSome_iff_exists.1 hk;simp[sizeOf,typeInfo,hi,Program.cellsOf]
  rw[Sem.run_map,this];simp only[Result.andThen_ok];congr 1;apply Array.toList_inj.1;simp
theorem aj.cellsOf{t:TypeId}{ti:TI}(h:aj P t ti):P.cellsOf t=ti.size:=by
 obtain⟨i,z,hi,hz,hs,_⟩:=h.info;simp[Program.cellsOf,hi,hs]
theorem Bi(hT:br P T)(hs:bf cx V U β I S N a w){t:TypeId}{ti:TI}(ht:T t=some ti){ps:Array (Nat×Operand)}(hV:∀x t,x∈ps.toList->x.2=.tmp t->V t){l:List (Nat×D)}
    (hl:U.AK ps.toList=some l){cs:List D}(hb:buildable T ti.desc=true)(hf:gm (l6 T ti.desc) ti.zero l=some cs):
    ∃v,(Instr.build t (ps.map λ(i,x)=>(i,a.eval x))).run P w=.ok v w/\Rel I β v (.agg cs):=by
  have h:=hT t ti ht;obtain⟨z,hz,Hl⟩:=h.nD (P:=P) w I β;obtain⟨y8,aq⟩:=oH hs hV hl;have jj:∀(i:Nat)(x:Nat×Value)(y:Nat×D),(ps.map λ(i,x)=>(i,a.eval x)).toList[i]?=some x->l[i]?=some y->x.1=y.1/\Rel I β x.2 y.2:=by
   intro i x y hx hy;simp only[Array.toList_map,List.getElem?_map,Option.map_eq_some_iff]at hx;obtain⟨u,hu,rfl⟩:=hx;exact aq i u y hu hy
  have hlen:(ps.map λ(i,x)=>(i,a.eval x)).toList.length=l.length:=by simp[y8]
  unfold Instr.build;simp only[Sem.run_bind,hz,Result.andThen_ok,run_underlying h.desc];cases hd:ti.desc with
  |struct fs=>
   simp only[Sem.run_bind,run_places h hd,Result.andThen_ok];have kj:∀i x,l6 T ti.desc i=some x->(fs.map λf=>(f.offset,P.cellsOf f.type))[i]?=some x:=by
    intro i x hx;rw[hd]at hx;simp only[l6]at hx;cases Nx:fs[i]? with
    |none=>rw[Nx]at hx;cases hx
    |some f=>
     rw[Nx]at hx;simp only at hx;cases Jd:T f.type with
     |none=>rw[Jd]at hx;cases hx
     |some tf=>
      rw[Jd]at hx;cases hx;simp[Nx,(hT _ _ Jd).cellsOf]
   obtain⟨xI,fS,hr⟩:=pW (I:=I) (β:=β) kj hlen jj Hl hf;rw[fS];exact⟨_,rfl,by simpa using Rel.A6 hr⟩
  |array n e=>
   have kj:∀i x,l6 T ti.desc i=some x->(λi=>some (i*P.cellsOf e,P.cellsOf e)) i=some x:=by
    intro i x hx;rw[hd]at hx;simp only[l6]at hx;cases Jd:T e with
    |none=>rw[Jd]at hx;cases hx
    |some tf=>
     rw[Jd]at hx;cases hx;simp[(hT _ _ Jd).cellsOf]
   obtain⟨xI,fS,hr⟩:=pW (I:=I) (β:=β) kj hlen jj Hl hf;cases Jd:T e with
   |none=>simp[buildable,hd,Jd]at hb
   |some te=>
    have eU:=hT _ _ Jd;simp only[Sem.run_bind,eU.run_sizeOf,Result.andThen_ok];rw[<-eU.cellsOf,fS];exact⟨_,rfl,by simpa using Rel.A6 hr⟩
  |_=>simp[buildable,hd]at hb
theorem fW(cs us:List Value)(off n:Nat)(h:off+us.length<=cs.length):
    (bt cs off us)[n]?=if off<=n/\n<off+us.length then us[n-off]? else cs[n]?:=by
  unfold bt;have ho:(cs.take off).length=off:=by simp;omega
  by_cases h1:n<off
  .rw[List.getElem?_append_left (by omega),if_neg (by omega),List.getElem?_take,if_pos h1]
  rw[List.getElem?_append_right (by omega),ho];by_cases h2:n<off+us.length
  .rw[if_pos ⟨by omega,h2⟩,List.getElem?_append_left (by omega)]
  rw[if_neg (by omega),List.getElem?_append_right (by omega),List.getElem?_drop];congr 1;omega
theorem Rel.gr{β':BE}{v:Value}{d:D}(h:Rel I β v d)(hd:d.free=true):Rel I β' v d:=by
 cases h<;>first|(simp[D.free]at hd;done)|exact .tt|exact .ff|exact .bool _|exact .int _ _|exact .str _|exact .cO|exact .ao _|exact .a7|exact .dj _ _ _|(rename_i ds es hl hm h h';cases ds<;>cases es<;>first|(simp[D.free]at hd;done)|exact .bR _ _ _ [] [] hl hm (λi v d _ hd=>by simp at hd) (λi v d _ hd=>by simp at hd))|(constructor<;>assumption)
theorem gW:∀{ds:List D}{j:Nat}{d:D},cu ds=true->ds[j]?=some d->d.free=true
 |[],j,d,_,h=>by simp at h
 |e::r,j,d,hf,h=>by
  simp only[cu]at hf;cases he:e.free with
  |false=>rw[he]at hf;cases hf
  |true=>
   rw[he]at hf;cases j with
   |zero=>simp at h;subst h;exact he
   |succ j=>exact gW hf (by simpa using h)
structure eE(I:aW)(size:Nat)(cs:List Value)(rows:List (List D)):Prop where
 len:cs.length=rows.length*size
 row:∀(r:Nat)(row:List D),rows[r]?=some row->row.length=size
 cell:∀(r:Nat)(row:List D)(j:Nat)(d:D),rows[r]?=some row->row[j]?=some d->∃v,cs[r*size+j]?=some v/\Rel I dM v d/\v.oneCell'=true
theorem eE.set{size:Nat}{cs:List Value}{rows:List (List D)}(h:eE I size cs rows){i:Nat}{us:List Value}{row:List D}(hi:i<rows.length)(hr:cT I dM us row)(hl:row.length=size):
    eE I size (bt cs (i*size) us) (rows.set i row):=by
  have hul:us.length=size:=hr.1.1.trans hl;have hle:i*size+us.length<=cs.length:=by
   rw[h.len,hul]
   calc i*size+size=(i+1)*size:=by rw[Nat.add_mul,Nat.one_mul]
    _<=rows.length*size:=Nat.mul_le_mul_right _ hi
  refine⟨?_,?_,?_⟩
  .simp only[bt,List.length_append,List.length_take,List.length_drop,List.length_set,h.len]at*
   omega
  .intro r ib e8
   rw[List.getElem?_set]at e8;split at e8
   .simp at e8;subst e8;exact hl
   exact h.row r ib e8
  intro r ib j d e8 hd;rw[List.getElem?_set]at e8;rw[fW _ _ _ _ hle];split at e8
  .rename_i e
   subst e;simp at e8;subst e8;have hj:j<row.length:=(List.getElem?_eq_some_iff.1 hd).1;rw[if_pos (by omega)];obtain⟨v,hv,h1,h2⟩:=hr.get hd;exact⟨v,by rw[<-hv];congr 1;omega,h1,h2⟩
  rename_i e;have hj:j<size:=by rw[<-h.row r ib e8];exact(List.getElem?_eq_some_iff.1 hd).1
  have eh:¬(i*size<=r*size+j/\r*size+j<i*size+us.length):=by
   rw[hul];rcases Nat.lt_or_gt_of_ne e with cG|cG
   .have:(i+1)*size<=r*size:=Nat.mul_le_mul_right _ cG
    rw[Nat.add_mul,Nat.one_mul]at this;omega
   have:(r+1)*size<=i*size:=Nat.mul_le_mul_right _ cG;rw[Nat.add_mul,Nat.one_mul]at this;omega
  rw[if_neg eh];exact h.cell r ib j d e8 hd
theorem nE{size:Nat}:∀{ps:List (Nat×Value)}{l:List (Nat×D)}{cs:Array Value}{rows sX:List (List D)},ps.length=l.length->
      (∀(i:Nat)(x:Nat×Value)(y:Nat×D),ps[i]?=some x->l[i]?=some y->x.1=y.1/\Rel I β x.2 y.2)->eE I size cs.toList rows->fw size rows l=some sX->
      ∃xI,Instr.fill (λi=>some (i*size,size)) cs ps=some xI/\eE I size xI.toList sX/\sX.length=rows.length
  |[],[],cs,rows,sX,_,_,hr,h=>by simp[fw]at h;subst h;exact⟨cs,rfl,hr,rfl⟩
  |[],_::_,_,_,_,hl,_,_,_=>by simp at hl
  |_::_,[],_,_,_,hl,_,_,_=>by simp at hl
  |(i,v)::ps,(j,d)::l,cs,rows,sX,hl,aq,hr,h=>by
   obtain⟨Bh,Nw⟩:=aq 0 (i,v) (j,d) rfl rfl;simp only at Bh Nw;subst Bh;simp only[fw]at h;cases hc:cellsOf d with
   |none=>rw[hc]at h;simp at h
   |some es=>
    rw[hc]at h;simp only at h;split at h
    .rename_i h1 h2 h3
     have h1:=Nat.eq_of_beq_eq_true h1;have h3:i<rows.length:=by simpa[Nat.blt_eq]using h3
     have JB:=Nw.cells hc;have hcn:cT I dM v.cells.toList es:=⟨⟨JB.1.1,λj v d hv hd=>(JB.1.2 j v d hv hd).gr (gW h2 hd)⟩,JB.2⟩;have dQ:v.cells.size=size:=by have:=JB.1.1;simp at this;omega
     have hle:i*size+size<=cs.size:=by
      have:=hr.len;simp at this;rw[this]
      calc i*size+size=(i+1)*size:=by rw[Nat.add_mul,Nat.one_mul]
       _<=rows.length*size:=Nat.mul_le_mul_right _ h3
     have gH:=xQ v cs (i*size) (by omega);obtain⟨xI,hf,e8,hlen⟩:=nE (cs:=(bt cs.toList (i*size) v.cells.toList).toArray) (by simpa using hl) (λi x y hx hy=>aq (i+1) x y (by simpa using hx) (by simpa using hy))
      (by simpa using hr.set h3 hcn h1) h
     refine⟨xI,?_,e8,by simpa using hlen⟩;unfold Instr.fill;have hb:(decide (v.cells.size≠size)||decide (i*size+v.cells.size>cs.size))=false:=by
      simp;omega
     simp only[hb,Bool.false_eq_true,if_false];rw[gH];exact hf
    cases h
theorem rV{ti:TI}{z:Value}(hz:cT I β z.cells.toList ti.zero)(ZG:ti.zero.length=ti.size)(hf:cu ti.zero=true)(n:Nat):
    eE I ti.size ((Array.range (n*ti.size)).map (z.cells[·%z.cells.size]!)).toList (List.replicate n ti.zero):=by
  have UK:z.cells.size=ti.size:=by have:=hz.1.1;simp at this;omega
  refine⟨by simp,?_,?_⟩
  .intro r row hr
   rw[List.getElem?_replicate]at hr;split at hr
   .cases hr;exact ZG
   cases hr
  intro r row j d hr hd;rw[List.getElem?_replicate]at hr;split at hr
  .rename_i cG
   cases hr;have hj:j<ti.zero.length:=(List.getElem?_eq_some_iff.1 hd).1;obtain⟨v,hv,h1,h2⟩:=hz.get hd;have dv:r*ti.size+j<n*ti.size:=by
    calc r*ti.size+j<r*ti.size+ti.size:=by omega
     _=(r+1)*ti.size:=by rw[Nat.add_mul,Nat.one_mul]
     _<=n*ti.size:=Nat.mul_le_mul_right _ cG
   refine⟨v,?_,h1.gr (gW hf hd),h2⟩;have hm:(r*ti.size+j)%z.cells.size=j:=by rw[UK,Nat.mul_comm,Nat.mul_add_mod];exact Nat.mod_eq_of_lt (by omega)
   have ZI:z.cells[j]! =v:=by
    have:z.cells[j]?=some v:=by simpa using hv
    simp[Array.getElem!_eq_getD,Array.getD_eq_getD_getElem?,this]
   simp[dv,hm,ZI]
  cases hr
theorem pb(hT:br P T){t:TypeId}{ti te:TI}(ht:T t=some ti){e:TypeId}(hd:ti.desc=.slice e)(eU:aj P e te){len:Nat}{ps:Array (Nat×Operand)}
    {l:List (Nat×D)}(hl:l.length=ps.toList.length/\∀(i:Nat)(x:Nat×Operand)(y:Nat×D),ps.toList[i]?=some x->l[i]?=some y->x.1=y.1/\Rel I β (a.eval x.2) y.2)(dw:0<te.size)(Hm:len*te.size<=16777216)(sY:cu te.zero=true){rows:List (List D)}
    (hf:fw te.size (List.replicate len te.zero) l=some rows):
    ∃cs:Array Value,(Instr.buildSlice t len (ps.map λ(i,x)=>(i,a.eval x))).run P w=.ok (.slice (some ⟨w.heap.size,0,none⟩) len len) (w.alloc (.cells cs e))/\eE I te.size cs.toList rows/\rows.length=len:=by
  have h:=hT t ti ht;obtain⟨z,hz,Hl⟩:=eU.nD (P:=P) w I β;obtain⟨y8,aq⟩:=hl;have jj:∀(i:Nat)(x:Nat×Value)(y:Nat×D),(ps.map λ(i,x)=>(i,a.eval x)).toList[i]?=some x->l[i]?=some y->x.1=y.1/\Rel I β x.2 y.2:=by
   intro i x y hx hy;simp only[Array.toList_map,List.getElem?_map,Option.map_eq_some_iff]at hx;obtain⟨u,hu,rfl⟩:=hx;exact aq i u y hu hy
  have hlen:(ps.map λ(i,x)=>(i,a.eval x)).toList.length=l.length:=by simp[y8]
  have ZJ:¬len*te.size>2^24:=by omega
  obtain⟨cs,hc,hr,gi⟩:=nE hlen jj (rV Hl eU.u7 sY len) hf;refine⟨cs,?_,hr,by simpa using gi⟩;unfold Instr.buildSlice;simp only[Sem.run_bind,run_underlying h.desc,hd,Result.andThen_ok,eU.run_sizeOf,if_neg ZJ,Sem.run_ite,Sem.run_pure];by_cases h0:len*te.size=0
  · have xR:len=0:=by
      rcases Nat.mul_eq_zero.1 h0 with h|h
      .exact h
      omega
    subst xR;simp only[Nat.zero_mul,if_true];have e0:∀(f g:Nat->Value),(Array.range 0).map f=(Array.range 0).map g:=λf g=>by simp
    simp only[Nat.zero_mul]at hc;rw[e0 _ (z.cells[·%z.cells.size]!),hc];rfl
  .simp only[if_neg h0,hz,Result.andThen_ok]
   rw[hc];rfl
theorem rW(hT:br P T)(hs:bf cx V U β I S N a w){t:TypeId}{ti te:TI}(ht:T t=some ti){e:TypeId}(hd:ti.desc=.slice e)(eU:aj P e te){len:Nat}{ps:Array (Nat×Operand)}
    (hV:∀x t,x∈ps.toList->x.2=.tmp t->V t){l:List (Nat×D)}(hl:U.AK ps.toList=some l)(dw:0<te.size)(Hm:len*te.size<=16777216)(sY:cu te.zero=true){rows:List (List D)}
    (hf:fw te.size (List.replicate len te.zero) l=some rows):
    ∃cs:Array Value,(Instr.buildSlice t len (ps.map λ(i,x)=>(i,a.eval x))).run P w=.ok (.slice (some ⟨w.heap.size,0,none⟩) len len) (w.alloc (.cells cs e))/\eE I te.size cs.toList rows/\rows.length=len:=
  pb hT ht hd eU (oH hs hV hl) dw Hm sY hf
theorem tX(hT:br P T){t:TypeId}{ti te:TI}(ht:T t=some ti){e:TypeId}(hd:ti.desc=.slice e)(eU:aj P e te){n:Int}(h0:0<=n)(hb:te.bytes*n<=ay)
    (hn:n<=9223372036854775807)(sY:cu te.zero=true):
    ∃cs:Array Value,(Instr.makeSlice t (.int .i64 n) (.int .i64 n)).run P w=.ok (.slice (some ⟨w.heap.size,0,none⟩) n.toNat n.toNat) (w.alloc (.cells cs e))/\eE I te.size cs.toList (List.replicate n.toNat te.zero):=by
  have h:=hT t ti ht;obtain⟨z,hz,Hl⟩:=eU.nD (P:=P) w I dM;obtain⟨i,hi,his,ZK,_⟩:=eU.run_typeInfo (P:=P) w;refine⟨_,?_,rV Hl eU.u7 sY n.toNat⟩;have hw:IntKind.i64.wrap n=n:=by rw[IntKind.wrap_i64];omega
  have tY:¬n<0:=by omega
  have JC:¬(i.bytes:Int)*n>2^48:=by rw[ZK];unfold ay at hb;omega
  unfold Instr.makeSlice;simp only[Sem.run_bind,run_underlying h.desc,hd,Result.andThen_ok,asInt,asIntOf,Sem.run_pure,hi,hw,tY,JC,decide_false,Bool.or_self,Bool.false_eq_true,Int.lt_irrefl,gt_iff_lt,if_false,eU.run_sizeOf];have abM:¬(2:Int)^48<(i.bytes:Int)*n:=by omega
  simp only[Sem.run_bind,run_askRoom,Result.andThen_ok,Sem.run_ite];by_cases TV:n.toNat*te.size=0
  .have e0:∀(f g:Nat->Value),(Array.range 0).map f=(Array.range 0).map g:=λf g=>by simp
   simp only[TV,if_true,Sem.run_pure,Result.andThen_ok];rw[e0 _ (z.cells[·%z.cells.size]!)];rfl
  simp only[if_neg TV,hz,Result.andThen_ok,Sem.run_pure];rfl
end
end Go.V
namespace Go.V
open Go.RowKit
open Classical in
noncomputable def bQ(L:List Nat)(β:BE)(w:World)(I:aW):aW:=λB off=>
 if(∃i b,i∈L/\β i=some b/\b.R=some B)/\cN w B off≠some jh/\¬Mem I B then cN w B off else I B off
section
variable{P:Program}{cx:Cx}{V:Nat->Prop}{U:St}{β:BE}{I:aW}{S:Nat->Prop}{N:Nat}{a:Act}{w:World}
theorem dU(h:bc I w)(L:List Nat)(β:BE):I.le (bQ L β w I):=λB off v hv=>by
 unfold bQ;split
 .exact h B off v hv
 exact hv
theorem db(h:bc I w)(L:List Nat)(β:BE):bc (bQ L β w I) w where
 cell:=λB off v hv=>by
  unfold bQ at hv;split at hv
  .exact hv
  exact h B off v hv
 ex:=λB c h1 off v h2=>by
  unfold bQ at h1 h2;split at h1
  .rename_i hc;exact absurd h1 hc.2.1
  split at h2
  .rename_i hc;exact absurd ⟨c,h1⟩ hc.2.2
  exact h.ex B c h1 off v h2
theorem ux{v:Value}(h:v.oneCell'=true):v≠jh:=λe=>by rw[e]at h;cases h
theorem JD{es:Array MapEntry}:A5 es≠jh:=λe=>by
 have h3:=congrArg Array.toList (Value.tuple.inj e);simp only[Array.toList_map]at h3;cases h:es.toList with
 |nil=>rw[h]at h3;cases h3
 |cons x r=>rw[h]at h3;simp at h3
theorem nF{L:List Nat}{i:Nat}{b:BI}{R:Nat}(hi:i∈L)(hb:β i=some b)(hR:b.R=some R){off:Nat}{v:Value}(hv:cN w R off=some v)(eh:v≠jh)(hn:¬Mem I R):bQ L β w I R off=some v:=by
 unfold bQ;rw[if_pos ⟨⟨i,b,hi,hb,hR⟩,λe=>eh (Option.some.inj (hv.symm.trans e)),hn⟩,hv]
theorem oI{L:List Nat}{B:Nat}(h:Mem (bQ L β w I) B):Mem I B:=by
 obtain⟨c,h⟩:=h;unfold bQ at h;split at h
 .rename_i hc;exact absurd h hc.2.1
 exact⟨c,h⟩
theorem dG.plus{L:List Nat}{w w':World}(h:dG (bQ L β w I) w w'):dG I w w':=h.mono λ_ hk=>⟨hk.1,λhm=>hk.2 (oI hm)⟩
theorem mc{f:D->Option D}:∀{ds es:List D},bY f ds=some es->es.length=ds.length/\∀(i:Nat)(e:D),es[i]?=some e->∃d,ds[i]?=some d/\f d=some e
 |[],es,h=>by simp[bY]at h;subst h;exact⟨rfl,λi e h=>by simp at h⟩
 |d::r,es,h=>by
  simp only[bY]at h;cases h1:f d with
  |none=>rw[h1]at h;cases h
  |some x=>
   rw[h1]at h;cases h2:bY f r with
   |none=>rw[h2]at h;cases h
   |some l=>
    rw[h2]at h;cases h;obtain⟨hl,hr⟩:=mc h2;refine⟨by simp[hl],λi e he=>?_⟩;cases i with
    |zero=>simp at he;subst he;exact⟨d,rfl,h1⟩
    |succ i=>exact hr i e (by simpa using he)
theorem mJ{l:List D}{f:D->List Nat}{j:Nat}{d:D}(h:l[j]?=some d){i:Nat}(hi:i∈f d):i∈l.flatMap f:=
 List.mem_flatMap.2 ⟨d,List.mem_of_getElem? h,hi⟩
theorem DV{l:List Value}{o n off j:Nat}{v:Value}(h:(((l.drop o).take n).drop off)[j]?=some v):l[o+(off+j)]?=some v:=by
 rw[List.getElem?_drop,List.getElem?_take]at h;split at h
 .rwa[List.getElem?_drop]at h
 cases h
theorem lN{sz:Nat}:∀{n:Nat}{l:List D},(chunk sz n l).length=n
 |0,_=>rfl
 |n+1,l=>by simp[chunk,lN (n:=n)]
theorem xS{sz:Nat}:∀{n:Nat}{l:List D}{r:Nat}{row:List D},(chunk sz n l)[r]?=some row->r<n/\row=(l.drop (r*sz)).take sz
 |0,_,_,_,h=>by simp[chunk]at h
 |n+1,l,0,row,h=>by simp[chunk]at h;simp[h]
 |n+1,l,r+1,row,h=>by
  simp only[chunk,List.getElem?_cons_succ]at h;obtain⟨h1,rfl⟩:=xS h;refine⟨by omega,?_⟩;rw[List.drop_drop,Nat.add_mul,Nat.one_mul,Nat.add_comm]
theorem jk{bs:List af}(lB:bc I w)(fp:∀i b,β i=some b->∃box,bs[i]?=some box/\bA I β w b box)(Ny:∀i b,β i=some b->∀R,b.R=some R->¬Mem I R)(L:List Nat):
    ∀(n:Nat){d d':D}{v:Value},Rel I β v d->reify bs n d=some d'->(∀i,i∈aF bs n d->i∈L)->Rel (bQ L β w I) dM v d':=by
  intro n
  induction n with
  |zero=>intro d d' v _ h;cases h
  |succ n ih=>
   intro d d' v hr h hL;have hle:=dU lB L β;have list:∀{ds es:List D}{vs:List Value},bn I β vs ds->bY (reify bs n) ds=some es->(∀i,i∈ds.flatMap (aF bs n)->i∈L)->bn (bQ L β w I) dM vs es:=by
    intro ds es vs gi hm hLL;obtain⟨hl,hg⟩:=mc hm;refine⟨by rw[hl];exact gi.1,λi v e hv he=>?_⟩;obtain⟨d,hd,hf⟩:=hg i e he;exact ih (gi.2 i v d hv hd) hf λj hj=>hLL j (mJ hd hj)
   cases d with
   |eL|j7|j8|iY|pO=>cases h
   |bM=>cases h
   |gp=>cases h;cases hr;exact .gp _ _
   |dY c=>cases h;cases hr with|dY R _ hI=>exact .dY R c (hle _ _ _ hI)
   |tt=>cases h;cases hr;exact .bool true
   |ff=>cases h;cases hr;exact .bool false
   |agg cs=>
    simp only[reify]at h;cases hm:bY (reify bs n) cs with
    |none=>rw[hm]at h;cases h
    |some l=>
     rw[hm]at h;cases h;obtain⟨xs,rfl,rU⟩:=hr.gM;have:=list rU.1 hm (λi hi=>hL i (by simpa[aF]using hi));exact .agg _ _ this.1 rU.2 this.2
   |b9 cs=>
    simp only[reify]at h;cases hm:bY (reify bs n) cs with
    |none=>rw[hm]at h;cases h
    |some l=>
     rw[hm]at h;cases h;obtain⟨xs,rfl,rU⟩:=hr.qv;have:=list rU hm (λi hi=>hL i (by simpa[aF]using hi));exact .b9 _ _ this.1 this.2
   |bR fn fs cs=>
    simp only[reify]at h;cases hm:bY (reify bs n) fs with
    |none=>rw[hm]at h;cases h
    |some l=>
     rw[hm]at h;cases Dr:bY (reify bs n) cs with
     |none=>rw[Dr]at h;cases h
     |some l'=>
      rw[Dr]at h;cases h;cases hr with
      |bR _ vs us _ _ uw Hn h1 h2=>
       have e1:=list ⟨uw,h1⟩ hm (λi hi=>hL i (by simp only[aF,List.mem_append];exact .inl hi));have e2:=list ⟨Hn,h2⟩ Dr (λi hi=>hL i (by simp only[aF,List.mem_append];exact .inr hi));exact .bR _ _ _ _ _ e1.1 e2.1 e1.2 e2.2
   |loc i off|bH i off=>
    simp only[reify]at h;cases hb:bs[i]? with
    |none=>rw[hb]at h;cases h
    |some box=>
     rw[hb]at h;cases box with
     |rows=>cases h
     |map=>cases h
     |aA=>cases h
     |aJ=>cases h
     |flat fz cells=>
      simp only at h;cases hm:bY (reify bs n) (cells.drop off)with
      |none=>rw[hm]at h;cases h
      |some l=>
       rw[hm]at h;cases h;have main:∀b R,β i=some b->b.R=some R->Rel (bQ L β w I) dM (.pointer (some ⟨R,b.o+off,none⟩)) (.ro l):=by
        intro b R hβ hR;obtain⟨box',dD,cV⟩:=fp i b hβ;rw[hb]at dD;cases dD;obtain⟨_,R',c,t,dh,hh,vc⟩:=cV;rw[hR]at dh;cases dh;have Qz:i∈L:=hL i (by simp[aF]);have sZ:=vc.drop off;have fS:=list sZ.1 hm (λj hj=>hL j (by
         simp only[aF,hb,List.mem_cons];obtain⟨d,hd,hj⟩:=List.mem_flatMap.1 hj;exact .inr (List.mem_flatMap.2 ⟨d,hd,hj⟩)))
        have ca:∀j,j<l.length->(((c.toList.drop b.o).take cells.length).drop off)[j]?=some ((((c.toList.drop b.o).take cells.length).drop off).getD j undef):=by
         intro j hj;have:j<(((c.toList.drop b.o).take cells.length).drop off).length:=by rw[fS.1];exact hj
         rw[List.getD_eq_getElem?_getD,List.getElem?_eq_getElem this];rfl
        refine .ro R (b.o+off) l (λj=>(((c.toList.drop b.o).take cells.length).drop off).getD j undef) (λj hj=>?_) (λj hj=>?_) (λj d hd=>?_)
        .exact nF Qz hβ hR (iq hh (by have:=DV (ca j hj);rw[Nat.add_assoc];simpa using this) (sZ.2 _ (List.mem_of_getElem? (ca j hj)))) (ux (sZ.2 _ (List.mem_of_getElem? (ca j hj)))) (Ny _ _ hβ _ hR)
        .exact sZ.2 _ (List.mem_of_getElem? (ca j hj))
        exact fS.2 j _ d (ca j ((List.getElem?_eq_some_iff.1 hd).1)) hd
       first
        |(cases hr with|loc _ _ b R hβ _ hR=>exact main b R hβ hR)
        |(cases hr with|bH _ _ b R hβ _ hR=>exact main b R hβ hR)
   |gj i off sz len=>
    simp only[reify]at h;cases hb:bs[i]? with
    |none=>rw[hb]at h;cases h
    |some box=>
     rw[hb]at h;cases box with
     |rows=>cases h
     |map=>cases h
     |aA=>cases h
     |aJ=>cases h
     |flat fz cells=>
      simp only at h;cases hf:fits cells off (len*sz)with
      |false=>rw[hf]at h;cases h
      |true=>
       rw[hf]at h;have hf:=Nat.le_of_ble_eq_true hf;cases hm:bY (reify bs n) ((cells.drop off).take (len*sz))with
       |none=>rw[hm]at h;cases h
       |some l=>
        rw[hm]at h;cases h;cases hr with
        |gj A cc _ _ _ _ b R hβ _ hR hl ha=>
         rcases Nat.eq_zero_or_pos len with h0|h0
         .subst h0
          exact .dj _ _ _
         obtain rfl:=ha (by omega);obtain⟨box',dD,cV⟩:=fp i b hβ;rw[hb]at dD;cases dD;obtain⟨_,R',c,t,dh,hh,vc⟩:=cV;rw[hR]at dh;cases dh;have Qz:i∈L:=hL i (by simp[aF]);have sZ:=(vc.drop off).take (len*sz);have fS:=list sZ.1 hm (λj hj=>hL j (by
          simp only[aF,hb,List.mem_cons];exact .inr hj))
         have y8:l.length=len*sz:=by rw[(mc hm).1];simp;omega
         have cG:∀r j,r<len->j<sz->r*sz+j<len*sz:=λr j hr hj=>by
          have:(r+1)*sz<=len*sz:=Nat.mul_le_mul_right _ hr;rw[Nat.add_mul,Nat.one_mul]at this;omega
         have ca:∀m,m<len*sz->((((c.toList.drop b.o).take cells.length).drop off).take (len*sz))[m]?=some (c.getD (b.o+off+m) undef):=λm Dr=>by
          have h1:m<((((c.toList.drop b.o).take cells.length).drop off).take (len*sz)).length:=by rw[fS.1,y8];exact Dr
          have h2:=List.getElem?_eq_getElem h1;rw[h2];rw[List.getElem?_take,if_pos Dr]at h2;have:=DV h2;simp only[Array.getElem?_toList]at this;rw[Array.getD_eq_getD_getElem?,Nat.add_assoc,this];rfl
         have h1:∀m,m<len*sz->(c.getD (b.o+off+m) undef).oneCell'=true:=λm Dr=>sZ.2 _ (List.mem_of_getElem? (ca m Dr));have aI:∀(r:Nat)(row:List D),(chunk sz len l)[r]?=some row->r<len/\row=(l.drop (r*sz)).take sz:=λr row=>xS
         have:=Rel.list (I:=bQ L β w I) (β:=dM) R (b.o+off) cc sz (chunk sz len l) (λr j=>c.getD (b.o+off+(r*sz+j)) undef) (by rw[lN];exact hl) (λr row hr=>by
             obtain⟨h3,rfl⟩:=aI r row hr;have:=cG r (sz-1) h3;rcases Nat.eq_zero_or_pos sz with hz|hz
             .simp[hz]
             have:=cG r (sz-1) h3 (by omega);simp only[List.length_take,List.length_drop,y8];omega)
           (λr j hr hj=>by
            rw[lN]at hr;have h2:=cG r j hr hj;refine nF Qz hβ hR (iq hh ?_ (h1 _ h2)) (ux (h1 _ h2)) (Ny _ _ hβ _ hR);have h3:=ca _ h2;rw[List.getElem?_take,if_pos h2]at h3;have:=DV h3;rw[<-Nat.add_assoc]at this;simpa using this)
           (λr j hr hj=>by rw[lN]at hr;exact h1 _ (cG r j hr hj))
           (λr row j d hr hj=>by
            obtain⟨h3,rfl⟩:=aI r row hr;rw[List.getElem?_take]at hj;split at hj
            .rename_i hjs
             rw[List.getElem?_drop]at hj;exact fS.2 _ _ d (ca _ (cG r j h3 hjs)) hj
            cases hj)
         rw[lN]at this;exact this
   |ao=>cases h;cases hr;exact .dj _ _ _
   |fh=>cases h;cases hr;exact .fh
   |dI=>cases h;cases hr;exact .dI
   |nk ks vs=>cases h;cases hr with|nk R es _ _ hI hb hl hm h1 h2=>exact .nk R es ks vs (hle _ _ _ hI) hb hl hm (λi e d he hd=>(h1 i e d he hd).mono hle (BE.le_refl _)) λi e d he hd=>(h2 i e d he hd).mono hle (BE.le_refl _)
   |cn i=>
    simp only[reify]at h;cases hb:bs[i]? with
    |none=>rw[hb]at h;cases h
    |some box=>
     rw[hb]at h;cases box with
     |flat=>cases h
     |rows=>cases h
     |aA=>cases h
     |aJ=>cases h
     |map fz ks vs=>
      cases h;cases hr with
      |cn _ b R hβ _ hR=>
       obtain⟨box',dD,cV⟩:=fp i b hβ;rw[hb]at dD;cases dD;obtain⟨_,R',es,clock,dh,hh,_,hm⟩:=cV;rw[hR]at dh;cases dh;have Qz:i∈L:=hL i (by simp[aF]);refine .nk R es.toList ks vs ?_ hm.born hm.kl hm.vl (λi e d he hd=>(hm.k i e d he hd).mono hle (BE.le_refl _)) λi e d he hd=>(hm.v i e d he hd).mono hle (BE.le_refl _);exact nF Qz hβ hR (G8 hh) JD (Ny _ _ hβ _ hR)
   |sl i g off len=>
    simp only[reify]at h;cases hb:bs[i]? with
    |none=>rw[hb]at h;cases h
    |some box=>
     rw[hb]at h;cases box with
     |flat=>cases h
     |map=>cases h
     |aA=>cases h
     |aJ=>cases h
     |rows fz g' sz rs=>
      simp only at h;cases mI:Nat.beq g g' with
      |false=>rw[mI]at h;cases h
      |true=>
       rw[mI]at h;cases h;have mI:=Nat.eq_of_beq_eq_true mI;cases hr with
       |cJ _ _ _ _ _ _ b hβ _ hg=>
        obtain⟨box',dD,cV⟩:=fp i b hβ;rw[hb]at dD;cases dD;obtain⟨_,h2,_⟩:=cV;omega
       |sl A c _ _ _ _ b hβ _ hg hc hl hn ha=>
        obtain⟨box',dD,cV⟩:=fp i b hβ;rw[hb]at dD;cases dD;obtain⟨_,_,dQ,Yx,aI,ia,hm⟩:=cV;have Qz:i∈L:=hL i (by simp[aF]);have hlen:((rs.drop off).take len).length=len:=by simp;omega
        rcases Nat.eq_zero_or_pos len with h0|h0
        .subst h0
         have:(rs.drop off).take 0=[]:=rfl;rw[this];exact .dj _ _ _
        obtain⟨R,hR,rfl⟩:=ha (by omega);rw[hR]at hm;obtain⟨cc,t,hh,fS,hd⟩:=hm;have cM:∀(r:Nat)(row:List D),((rs.drop off).take len)[r]?=some row->rs[off+r]?=some row:=by
         intro r row hr;rw[List.getElem?_take]at hr;split at hr
         .simpa using hr
         cases hr
        have dv:∀r,r<len->∃row,rs[off+r]?=some row/\row.length=sz:=by
         intro r hr;have:off+r<rs.length:=by omega
         exact⟨_,List.getElem?_eq_getElem this,aI _ _ (List.getElem?_eq_getElem this)⟩
        have ca:∀r j,r<len->j<sz->∃v,cc[b.o+((off+r)*sz+j)]?=some v/\v.oneCell'=true:=by
         intro r j hr hj;obtain⟨row,h1,h2⟩:=dv r hr;obtain⟨v,h3,_,h5⟩:=hd (off+r) row j _ h1 (List.getElem?_eq_getElem (by omega));exact⟨v,h3,h5⟩
        have:=Rel.list (I:=bQ L β w I) (β:=dM) R (b.o+off*b.sz) c sz ((rs.drop off).take len) (λr j=>cc.getD (b.o+((off+r)*sz+j)) undef) (by omega) (λr row hr=>aI _ _ (cM r row hr))
         (λr j hr hj=>by
          obtain⟨v,h3,h5⟩:=ca r j (by omega) hj;rw[dQ,Nat.add_assoc,<-Nat.add_assoc (off*sz),<-Nat.add_mul];have h6:(cc.getD (b.o+((off+r)*sz+j)) undef).oneCell'=true:=by simpa[Array.getD_eq_getD_getElem?,h3]using h5
          refine nF Qz hβ hR (iq hh ?_ h6) (ux h6) (Ny _ _ hβ _ hR);rw[h3];simp[Array.getD_eq_getD_getElem?,h3])
         (λr j hr hj=>by
          obtain⟨v,h3,h5⟩:=ca r j (by omega) hj;simpa[Array.getD_eq_getD_getElem?,h3]using h5)
         (λr row j d hr hj=>by
          obtain⟨v,h3,h4,_⟩:=hd (off+r) row j d (cM r row hr) hj;simpa[Array.getD_eq_getD_getElem?,h3]using h4.mono hle (BE.le_refl _))
        rw[hlen]at this;exact this
   |bool b=>cases h;exact(hr.gr rfl).mono hle (BE.le_refl _)
   |int k m=>cases h;exact(hr.gr rfl).mono hle (BE.le_refl _)
   |str s=>cases h;exact(hr.gr rfl).mono hle (BE.le_refl _)
   |cO=>cases h;exact(hr.gr rfl).mono hle (BE.le_refl _)
   |ro cs=>cases h;exact(hr.gr rfl).mono hle (BE.le_refl _)
   |list sz rows=>cases h;exact(hr.gr rfl).mono hle (BE.le_refl _)
   |a7=>cases h;exact(hr.gr rfl).mono hle (BE.le_refl _)
theorem ft{bs:List af}(lB:bc I w)(fp:∀i b,β i=some b->∃box,bs[i]?=some box/\bA I β w b box)(Ny:∀i b,β i=some b->∀R,b.R=some R->¬Mem I R){ds es:List D}{vs:List Value}(hr:bn I β vs ds)
    (h:fi bs ds=some es):bn (bQ (ds.flatMap (aF bs fuel)) β w I) dM vs es:=by
  obtain⟨hl,hg⟩:=mc h;refine⟨by rw[hl];exact hr.1,λi v e hv he=>?_⟩;obtain⟨d,hd,hf⟩:=hg i e he;exact jk lB fp Ny _ fuel (hr.2 i v d hv hd) hf λj hj=>mJ hd hj
def FW(F:Fence):Prop:=F=Fence.wide\/∃l,F=Fence.wide.inRound l
theorem FW.fn{F:Fence}(h:FW F)(f:FuncId):F.fn f:=by
 rcases h with rfl|⟨l,rfl⟩
 .trivial
 trivial
theorem FW.depth{F:Fence}(h:FW F):F.depth=none:=by
 rcases h with rfl|⟨l,rfl⟩
 .rfl
 rfl
theorem FW.calls{F:Fence}(h:FW F){n:Nat}{f:FuncId}{args:Array Value}{R:Ending->World->Prop}(hc:Calls P f args w R):CallsIn F n P f args w R:=by
 rcases h with rfl|⟨l,rfl⟩
 .exact callsIn_wide.2 hc
 exact(callsIn_wide (n:=n)).2 hc
theorem cz{F:Fence}(hF:FW F){n:Nat}{o:Oper}{next:Act->World->Prop}{Q:Exit->Act->World->Prop}(hd:∀c,o.op≠.defer c){v:Value}{w':World}
    (hr:(execOp a.eval o).run P w=.ok (.value v) w')(h:next (a.put o.dst v) w'):o.wpIn F n P a w next Q:=by
  refine⟨λf _=>hF.fn f,?_⟩;rw[Oper.semAt_eq _ _ _ hd,hr];exact h
theorem gS{F:Fence}(hF:FW F){n:Nat}{o:Oper}{next:Act->World->Prop}{Q:Exit->Act->World->Prop}(hd:∀c,o.op≠.defer c){w':World}
    (hr:(execOp a.eval o).run P w=.ok .skip w')(h:next (a.put o.dst undef) w'):o.wpIn F n P a w next Q:=by
  refine⟨λf _=>hF.fn f,?_⟩;rw[Oper.semAt_eq _ _ _ hd,hr];exact h
theorem qz{F:Fence}(hF:FW F){n:Nat}{o:Oper}{next:Act->World->Prop}{Q:Exit->Act->World->Prop}(hd:∀c,o.op≠.defer c){f:FuncId}{args:Array Value}
    (hr:(execOp a.eval o).run P w=.ok (.enter f args) w){R:Value->World->Prop}(hc:Calls P f args w λe w'=>∃v,e=.returned v/\R v w')(h:∀v w',R v w'->next (a.put o.dst v) w'):o.wpIn F n P a w next Q:=by
  refine⟨λf _=>hF.fn f,?_⟩;rw[Oper.semAt_eq _ _ _ hd,hr];refine⟨λhh=>absurd hh (by rw[hF.depth];simp),(hF.calls hc).mono ?_⟩;rintro e w'⟨v,rfl,hR⟩;exact h v w' hR
theorem gI{o:Oper}{c:Call}{f:Operand}(ho:o.op=.call c)(hc:c.callee=.value f){fk:FuncId}{vs us:Array Value}(hv:a.eval f=.func (.func fk) vs us)(he:Enters P fk):
    (execOp a.eval o).run P w=.ok (.enter fk ((vs++c.args.map a.eval)++us)) w:=by
  unfold execOp;simp only[ho,resolve,hc,hv,Deferred.ofValue,Sem.run_bind,Sem.run_pure,Result.andThen_ok,invoke];exact he _ _
open Classical in
theorem JE(gT:bc I w)(c:Nat):∃I',Grow w.heap.size I I'/\bc I' (w.alloc (.map #[] 0))/\Rel I' dM (.map (some w.heap.size)) (.dY c):=by
 have hk:=gT.aE (aB.alloc w (.map #[] 0));refine⟨λB off=>if B=w.heap.size/\off=c+1 then some jh else I B off,⟨λB off v hv=>?_,λB off hB=>?_⟩,⟨λB off v hv=>?_,λB q h1 off v h2=>?_⟩,.dY _ _ (by simp)⟩
 .have:=cy (gT B off v hv)
  show(if _ then _ else _)=_;rw[if_neg (by omega)];exact hv
 .show(if _ then _ else _)=_
  rw[if_neg (by omega)]
 .split at hv
  .rename_i hc
   obtain⟨rfl,rfl⟩:=hc;cases hv;exact o8 (World.alloc_heap_new w _) λe he=>by simp at he
  exact hk B off v hv
 split at h1
 .rename_i hc
  obtain⟨rfl,hq⟩:=hc;split at h2
  .rename_i hc;omega
  rw[gT.out (Nat.le_refl _)]at h2;cases h2
 split at h2
 .rename_i hc
  obtain⟨rfl,rfl⟩:=hc;rw[gT.out (Nat.le_refl _)]at h1;cases h1
 exact gT.ex B q h1 off v h2
theorem Ho(β:BE)(w:World)(I:aW):bQ [] β w I=I:=by
 funext B off;unfold bQ;rw[if_neg];rintro⟨⟨i,b,h,_⟩,_⟩;cases h
end
end Go.V
