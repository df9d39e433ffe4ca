/- What ballasted_holds leans on, part UA. No condition. -/
import GoSem.Core.Machine
import GoSem.Dispatch
import Derived.CallsIn
import Derived.Laws.Entries

set_option linter.all false
namespace Go.V
inductive D where
 |eL
 |tt
 |ff
 |bool (b:Bool)
 |int (k:IntKind) (n:Int)
 |str (s:ByteArray)
 |agg (cs:List D)
 |b9 (cs:List D)
 |cO
 |loc (i off:Nat)
 |bH (i off:Nat)
 |bM (i g r off:Nat)
 |ro (cs:List D)
 |list (sz:Nat) (rows:List (List D))
 |ao
 |sl (i g off len:Nat)
 |bR (fn:Fn) (first captured:List D)
 |a7
 |j7
 |j8 (l:Nat)
 |fh
 |dI
 |cn (i:Nat)
 |nk (ks vs:List D)
 |iY (i:Nat)
 |gj (i off sz len:Nat)
 |gp (g off:Nat)
 |pO (ks vs:List D)
 |dY (c:Nat)
instance:Inhabited D:=⟨.eL⟩
inductive af where
 |flat (fz:Bool) (cells:List D)
 |rows (fz:Bool) (g sz:Nat) (rs:List (List D))
 |map (fz:Bool) (ks vs:List D)
 |aA (fz:Bool) (s:ByteArray) (pos:Nat)
 |aJ (fz:Bool) (i:Nat) (ks vs:List D) (seen:List Nat)
instance:Inhabited af:=⟨.flat true []⟩
def af.freeze:af->af
 |.flat _ cs=>.flat true cs
 |.rows _ g sz rs=>.rows true g sz rs
 |.map _ ks vs=>.map true ks vs
 |.aA _ s pos=>.aA true s pos
 |.aJ _ i ks vs seen=>.aJ true i ks vs seen
def af.fz:af->Bool
 |.flat f _=>f
 |.rows f _ _ _=>f
 |.map f _ _=>f
 |.aA f _ _=>f
 |.aJ f _ _ _ _=>f
def DC:List af->Bool
 |[]=>true
 |b::r=>match b.fz with|true=>false|false=>DC r
structure TI where
 desc:TypeDesc
 agg:Bool
 size:Nat
 bytes:Nat
 zero:List D
 eqs:Bool
inductive eG where
 |aQ
 |rem (l:Nat) (xs:List (List D))
 |gk
structure St where
 tmps:List (Nat×D)
 boxes:List af
 y:eG
def look:List (Nat×D)->Nat->Option D
 |[],_=>none
 |(k,d)::r,t=>match Nat.beq k t with
  |true=>some d
  |false=>look r t
def St.put(U:St)(dst:Option Nat)(d:D):St:=
 match dst with
 |none=>U
 |some t=>⟨(t,d)::U.tmps,U.boxes,U.y⟩
def ofConst:Value->Option D
 |.bool true=>some .tt
 |.bool false=>some .ff
 |.int k n=>some (.int k n)
 |.string s=>some (.str s)
 |.pointer none=>some .cO
 |.slice none 0 0=>some .ao
 |.nilFunc=>some .a7
 |.map none=>some .fh
 |.nilIface=>some .dI
 |_=>none
def St.ev(U:St):Operand->Option D
 |.tmp t=>look U.tmps t
 |.const v=>ofConst v
 |.func f=>some (.bR (.func f) [] [])
 |.global g=>some (.gp g 0)
def St.jv(U:St):List Operand->Option (List D)
 |[]=>some []
 |x::r=>match U.ev x with
  |none=>none
  |some d=>match U.jv r with
   |none=>none
   |some l=>some (d::l)
def cellsOf:D->Option (List D)
 |.eL|.b9 _|.j7=>none
 |.agg cs=>some cs
 |d=>some [d]
def cd(cs:List D)(off:Nat)(ds:List D):List D:=cs.take off++(ds++cs.drop (off+ds.length))
def fits(cs:List D)(off n:Nat):Bool:=Nat.ble (off+n) cs.length
def D.free:D->Bool
 |.tt|.ff|.bool _|.int _ _|.str _|.cO|.ro _|.list _ _|.ao|.a7|.fh|.dI|.nk _ _|.dY _=>true
 |.bR _ [] []=>true
 |_=>false
def cu:List D->Bool
 |[]=>true
 |d::r=>match d.free with|true=>cu r|false=>false
mutual
def en(nb:Nat):D->Bool
 |.agg cs|.b9 cs=>da nb cs
 |.bR _ fs cs=>match da nb fs with|true=>da nb cs|false=>false
 |.loc i _|.bH i _|.bM i _ _ _|.sl i _ _ _|.cn i|.iY i|.gj i _ _ _=>Nat.blt i nb
 |_=>true
def da(nb:Nat):List D->Bool
 |[]=>true
 |d::r=>match en nb d with|true=>da nb r|false=>false
end
def fF(nb:Nat):List (Nat×D)->Bool
 |[]=>true
 |(_,d)::r=>match en nb d with|true=>fF nb r|false=>false
def aS(nb:Nat):List af->Bool
 |[]=>true
 |.flat _ cs::r=>match da nb cs with|true=>aS nb r|false=>false
 |.rows ..::r=>aS nb r
 |.map ..::r=>aS nb r
 |.aA ..::r=>aS nb r
 |.aJ _ i _ _ _::r=>match Nat.blt i nb with|true=>aS nb r|false=>false
mutual
def plain:D->Bool
 |.agg cs|.b9 cs=>bT cs
 |.bR _ fs cs=>match bT fs with|true=>bT cs|false=>false
 |.eL|.tt|.ff|.bool _|.int _ _|.str _|.cO|.ao|.a7|.fh|.dI=>true
 |_=>false
def bT:List D->Bool
 |[]=>true
 |d::r=>match plain d with|true=>bT r|false=>false
end
def chunk(sz:Nat):Nat->List D->List (List D)
 |0,_=>[]
 |n+1,l=>l.take sz::chunk sz n (l.drop sz)
def bY(f:D->Option D):List D->Option (List D)
 |[]=>some []
 |d::r=>match f d with
  |none=>none
  |some x=>match bY f r with
   |none=>none
   |some l=>some (x::l)
def reify(bs:List af):Nat->D->Option D
 |0,_=>none
 |n+1,d=>
  match d with
  |.eL|.j7|.j8 _|.iY _|.pO _ _=>none
  |.tt=>some (.bool true)
  |.ff=>some (.bool false)
  |.agg cs=>match bY (reify bs n) cs with|some l=>some (.agg l)|none=>none
  |.b9 cs=>match bY (reify bs n) cs with|some l=>some (.b9 l)|none=>none
  |.loc i off|.bH i off=>match bs[i]? with
   |some (.flat _ cells)=>match bY (reify bs n) (cells.drop off)with|some l=>some (.ro l)|none=>none
   |_=>none
  |.gj i off sz len=>match bs[i]? with
   |some (.flat _ cells)=>match fits cells off (len*sz)with
    |true=>match bY (reify bs n) ((cells.drop off).take (len*sz))with|some l=>some (.list sz (chunk sz len l))|none=>none
    |false=>none
   |_=>none
  |.bM _ _ _ _=>none
  |.ao=>some (.list 0 [])
  |.cn i=>match bs[i]? with
   |some (.map _ ks vs)=>some (.nk ks vs)
   |_=>none
  |.sl i g off len=>match bs[i]? with
   |some (.rows _ g' sz rs)=>match Nat.beq g g' with
    |true=>some (.list sz ((rs.drop off).take len))
    |false=>none
   |_=>none
  |.bR fn fs cs=>match bY (reify bs n) fs with
   |none=>none
   |some l=>match bY (reify bs n) cs with
    |none=>none
    |some m=>some (.bR fn l m)
  |d=>some d
def aF(bs:List af):Nat->D->List Nat
 |0,_=>[]
 |n+1,d=>
  match d with
  |.agg cs|.b9 cs=>cs.flatMap (aF bs n)
  |.bR _ fs cs=>fs.flatMap (aF bs n)++cs.flatMap (aF bs n)
  |.loc i off|.bH i off=>i::(match bs[i]? with
   |some (.flat _ cells)=>(cells.drop off).flatMap (aF bs n)
   |_=>[])
  |.gj i off sz len=>i::(match bs[i]? with
   |some (.flat _ cells)=>((cells.drop off).take (len*sz)).flatMap (aF bs n)
   |_=>[])
  |.bM i _ _ _|.sl i _ _ _|.cn i|.iY i=>[i]
  |_=>[]
def fuel:Nat:=8
def fi(bs:List af)(l:List D):Option (List D):=bY (reify bs fuel) l
def au:List af->Nat->List Nat->List af
 |[],_,_=>[]
 |b::r,i,l=>(match l.contains i with|true=>b.freeze|false=>b)::au r (i+1) l
def aK(bs:List af)(d:D)(args:List D):List af:=
 match plain d with
 |true=>bs
 |false=>au bs 0 (args.flatMap (aF bs fuel))
structure xa where
 den:Nat->List D->D->Prop
 shr:Nat->List D->List af->eG->(D->List af->eG->Prop)->Prop
 sh:Nat->Bool
 new:Nat->List D->af->Prop
 nw:Nat->Bool
 gt:Nat->Nat->Option (IntKind×Int)
 Qn:Nat->List D->Option Value->Prop
 mp:Option Nat
def pP(c:Nat)(k:Int):Int:=((Nat.shiftRight c (4*k.toNat))%16:Nat)
structure MT where
 it:Nat->List D->List (List D)->Prop
 itx:Nat->List D->List af->List (List D)->Prop
 sh:Nat->Bool
 ls:Nat->Bool
mutual
def eg(f:Nat->Nat):D->D
 |.agg cs=>.agg (mY f cs)
 |.b9 cs=>.b9 (mY f cs)
 |.bR fn fs cs=>.bR fn (mY f fs) (mY f cs)
 |.loc i off=>.loc (f i) off
 |.bH i off=>.bH (f i) off
 |.bM i g r off=>.bM (f i) g r off
 |.sl i g off len=>.sl (f i) g off len
 |.cn i=>.cn (f i)
 |.iY i=>.iY (f i)
 |.gj i off sz n=>.gj (f i) off sz n
 |d=>d
def mY(f:Nat->Nat):List D->List D
 |[]=>[]
 |d::r=>eg f d::mY f r
end
def af.eg(f:Nat->Nat):af->af
 |.flat fz cs=>.flat fz (mY f cs)
 |.rows fz g sz rs=>.rows fz g sz rs
 |.map fz ks vs=>.map fz ks vs
 |.aA fz s pos=>.aA fz s pos
 |.aJ fz i ks vs seen=>.aJ fz (f i) ks vs seen
def xf:af->Nat->D
 |.map _ _ _,i=>.cn i
 |.rows _ g _ rs,i=>.sl i g 0 rs.length
 |_,_=>.eL
def jg:af->Bool
 |.map false ks vs=>match bT ks with|true=>bT vs|false=>false
 |.rows false _ _ rs=>rs.all bT
 |_=>false
def uQ:af->Bool
 |.rows false _ _ rs=>rs.all cu
 |_=>false
def jL(sel:List Nat)(n i:Nat):Nat:=match sel[i]? with|some j=>j|none=>n+(i-sel.length)
def iP:List Nat->Bool
 |[]=>true
 |i::r=>match r.contains i with|true=>false|false=>iP r
def FL(sel:List Nat)(n:Nat):Bool:=iP sel&&sel.all λi=>Nat.blt i n
def ed:List af->List Nat->List af->List af
 |bs,[],l=>bs++l
 |bs,i::sel,b::l=>ed (bs.set i b) sel l
 |bs,_::_,[]=>bs
def j9(bs:List af):List Nat->List (Option af)
 |[]=>[]
 |i::r=>bs[i]?::j9 bs r
inductive bE where
 |val (d:D)
 |dJ (d:D) (bs:List af) (y:eG)
 |new (b:af) (mk:Nat->D)
 |set (i:Nat) (b:af) (d:D)
 |res (d:D) (args:List D)
 |yielded (b:Bool) (y:eG)
 |eo (b:af) (mk:Nat->D) (L:List Nat)
 |fO (b:Bool) (y:eG) (nb:Nat)
def pQ(d:D)(k:D->Prop):Prop:=
 match d with
 |.eL=>k .eL
 |.tt=>k .tt
 |.ff=>k .ff
 |.bool b=>k (.bool b)
 |.int kd n=>k (.int kd n)
 |.str s=>k (.str s)
 |.agg cs=>k (.agg cs)
 |.b9 cs=>k (.b9 cs)
 |.cO=>k .cO
 |.loc i off=>k (.loc i off)
 |.bH i off=>k (.bH i off)
 |.bM i g r off=>k (.bM i g r off)
 |.ro cs=>k (.ro cs)
 |.list sz rows=>k (.list sz rows)
 |.ao=>k .ao
 |.sl i g off len=>k (.sl i g off len)
 |.bR fn fs cs=>k (.bR fn fs cs)
 |.a7=>k .a7
 |.j7=>k .j7
 |.j8 l=>k (.j8 l)
 |.fh=>k .fh
 |.dI=>k .dI
 |.cn i=>k (.cn i)
 |.nk ks vs=>k (.nk ks vs)
 |.iY i=>k (.iY i)
 |.gj i off sz n=>k (.gj i off sz n)
 |.gp g off=>k (.gp g off)
 |.dY c=>k (.dY c)
 |.pO ks vs=>k (.pO ks vs)
def ig{α:Type}:List α->(List α->Prop)->Prop
 |[],k=>k []
 |a::r,k=>ig r λr=>k (a::r)
def DD(n:Nat)(k:Nat->Prop):Prop:=
 match n with
 |0=>k 0
 |1=>k 1
 |2=>k 2
 |3=>k 3
 |4=>k 4
 |5=>k 5
 |6=>k 6
 |7=>k 7
 |8=>k 8
 |9=>k 9
 |10=>k 10
 |11=>k 11
 |12=>k 12
 |13=>k 13
 |14=>k 14
 |15=>k 15
 |16=>k 16
 |17=>k 17
 |18=>k 18
 |19=>k 19
 |20=>k 20
 |21=>k 21
 |22=>k 22
 |23=>k 23
 |24=>k 24
 |25=>k 25
 |26=>k 26
 |27=>k 27
 |28=>k 28
 |29=>k 29
 |30=>k 30
 |31=>k 31
 |32=>k 32
 |33=>k 33
 |34=>k 34
 |35=>k 35
 |36=>k 36
 |37=>k 37
 |38=>k 38
 |39=>k 39
 |40=>k 40
 |n=>k n
def jM:List af->(List af->Prop)->Prop
 |[],k=>k []
 |.flat fz cs::r,k=>jM r λr=>k (.flat fz cs::r)
 |.rows fz g sz rs::r,k=>jM r λr=>k (.rows fz g sz rs::r)
 |.map fz ks vs::r,k=>jM r λr=>k (.map fz ks vs::r)
 |.aA fz s pos::r,k=>jM r λr=>k (.aA fz s pos::r)
 |.aJ fz i ks vs seen::r,k=>jM r λr=>k (.aJ fz i ks vs seen::r)
theorem jW(d:D)(k:D->Prop):pQ d k=k d:=by cases d<;>rfl
theorem cg{α:Type}:∀(l:List α)(k:List α->Prop),ig l k=k l
 |[],_=>rfl
 |a::r,k=>cg r λr=>k (a::r)
theorem fT:∀(l:List af)(k:List af->Prop),jM l k=k l
 |[],_=>rfl
 |.flat fz cs::r,k=>fT r λr=>k (.flat fz cs::r)
 |.rows fz g sz rs::r,k=>fT r λr=>k (.rows fz g sz rs::r)
 |.map fz ks vs::r,k=>fT r λr=>k (.map fz ks vs::r)
 |.aA fz s pos::r,k=>fT r λr=>k (.aA fz s pos::r)
 |.aJ fz i ks vs seen::r,k=>fT r λr=>k (.aJ fz i ks vs seen::r)
theorem ba(n:Nat)(k:Nat->Prop):DD n k=k n:=by unfold DD;split<;>rfl
def uR(d:D)(k:D->Prop):Prop:=
 match d with
 |.agg cs=>ig cs λcs=>k (.agg cs)
 |d=>k d
theorem ax(d:D)(k:D->Prop):uR d k=k d:=by
 cases d<;>first|rfl|exact cg _ _
def cQ(cs:List D)(off n:Nat):Option D:=
 match fits cs off n with
 |true=>some (.agg ((cs.drop off).take n))
 |false=>none
def same:IntKind->IntKind->Bool
 |.i8,.i8|.i16,.i16|.i32,.i32|.i64,.i64|.u8,.u8|.u16,.u16|.u32,.u32|.u64,.u64=>true
 |_,_=>false
def Nf:D->D->Option Bool
 |.int k a,.int k' b=>match same k k' with|true=>some (a==b)|false=>none
 |_,_=>none
def I9:List D->List D->Option Bool
 |[],[]=>some true
 |x::xs,y::ys=>match Nf x y with
  |none=>none
  |some a=>match I9 xs ys with
   |none=>none
   |some b=>some (a&&b)
 |_,_=>none
def di:D->Option Bool
 |.tt=>some true
 |.ff=>some false
 |.bool b=>some b
 |_=>none
def Qo:List UInt8->List UInt8->Bool
 |[],[]=>true
 |a::r,b::s=>match Nat.beq a.toNat b.toNat with
  |true=>Qo r s
  |false=>false
 |_,_=>false
theorem yQ:∀{a b:List UInt8},Qo a b=true↔a=b
 |[],[]=>by simp[Qo]
 |[],_::_=>by simp[Qo]
 |_::_,[]=>by simp[Qo]
 |a::r,b::s=>by
  have ih:=@yQ r s;unfold Qo;cases h:Nat.beq a.toNat b.toNat with
  |true=>
   have:=UInt8.toNat_inj.1 (Nat.eq_of_beq_eq_true h);simp only[ih,this,List.cons.injEq,true_and]
  |false=>
   simp only[Bool.false_eq_true,List.cons.injEq,false_iff,not_and];intro e;subst e;simp at h
def MU(a b:ByteArray):Bool:=Qo a.data.toList b.data.toList
theorem yR{a b:ByteArray}:MU a b=true↔a=b:=by
 unfold MU;rw[yQ];constructor
 .intro h
  cases a;cases b;simp only at h;congr 1;exact Array.toList_inj.1 h
 rintro rfl;rfl
def ka:List D->List D->List D->Option Bool
 |[],[],[]=>some true
 |.int _ _::z,x::xs,y::ys=>match Nf x y with
  |none=>none
  |some a=>match ka z xs ys with
   |none=>none
   |some b=>some (a&&b)
 |.ff::z,x::xs,y::ys=>match di x,di y with
  |some a,some c=>match ka z xs ys with
   |none=>none
   |some b=>some ((a==c)&&b)
  |_,_=>none
 |.str _::z,.str a::xs,.str c::ys=>match ka z xs ys with
  |none=>none
  |some b=>some (MU a c&&b)
 |_,_,_=>none
def dK(b:Bool)(p:Prop):Prop:=
 match b with
 |true=>p
 |false=>False
def rJ:D->D->Option Bool
 |.cO,.cO=>some true
 |.loc _ _,.cO=>some false
 |.ro _,.cO=>some false
 |_,_=>none
def jN(ti:TI)(op:BinOp)(x y:D)(k:D->Prop):Prop:=
 match x,y with
 |.int kx a,.int ky b=>
  match op with
  |.shl=>0<=b/\∃r,kx.wrap (a*2^(min b.toNat kx.bits))=r/\k (.int kx r)
  |.shr=>0<=b/\∃r,a.fdiv (2^(min b.toNat kx.bits))=r/\k (.int kx r)
  |.add=>dK (same kx ky) (∃r,kx.wrap (a+b)=r/\k (.int kx r))
  |.sub=>dK (same kx ky) (∃r,kx.wrap (a-b)=r/\k (.int kx r))
  |.mul=>dK (same kx ky) (∃r,kx.wrap (a*b)=r/\k (.int kx r))
  |.quo=>dK (same kx ky) (b≠0/\∃r,kx.wrap (a.tdiv b)=r/\k (.int kx r))
  |.rem=>dK (same kx ky) (b≠0/\∃r,a.tmod b=r/\k (.int kx r))
  |.and=>dK (same kx ky) (∃r,bits .and kx a b=r/\k (.int kx r))
  |.or=>dK (same kx ky) (∃r,bits .or kx a b=r/\k (.int kx r))
  |.xor=>dK (same kx ky) (∃r,bits .xor kx a b=r/\k (.int kx r))
  |.andNot=>dK (same kx ky) (∃r,bits .andNot kx a b=r/\k (.int kx r))
  |.eql=>dK (same kx ky) (k (.bool (a==b)))
  |.neq=>dK (same kx ky) (k (.bool (a !=b)))
  |.lss=>dK (same kx ky) (k (.bool (decide (a<b))))
  |.leq=>dK (same kx ky) (k (.bool (decide (a<=b))))
  |.gtr=>dK (same kx ky) (k (.bool (decide (a>b))))
  |.geq=>dK (same kx ky) (k (.bool (decide (a>=b))))
 |.str a,.str b=>
  match op with
  |.add=>(a.size:Int)+b.size<=9223372036854775807/\k (.str (a++b))
  |.eql=>k (.bool (a.toList==b.toList))
  |.neq=>k (.bool (!(a.toList==b.toList)))
  |.lss=>k (.bool (Op.bytesLess a.toList b.toList))
  |_=>False
 |.agg xs,.agg ys=>
  match ti.eqs,op,ka ti.zero xs ys with
  |true,.eql,some b=>dK (Nat.beq xs.length ti.size) (k (.bool b))
  |true,.neq,some b=>dK (Nat.beq xs.length ti.size) (k (.bool (!b)))
  |_,_,_=>False
 |x,y=>
  match rJ x y with
  |some b=>(match ti.desc,op with
   |.pointer _,.eql=>k (.bool b)
   |.pointer _,.neq=>k (.bool (!b))
   |_,_=>False)
  |none=>match ti.desc,op,di x,di y with
   |.bool,.eql,some a,some b=>k (.bool (a==b))
   |.bool,.neq,some a,some b=>k (.bool (!(a==b)))
   |_,_,_,_=>False
def yS:List D->(D->Prop)->Prop
 |[.int kx a,.int ky b],k=>dK (same kx ky) (k (.int kx (min a b)))
 |[.int kx a,.int ky b,.int kz c],k=>dK (match same kx ky with|true=>same kx kz|false=>false) (k (.int kx (min (min a b) c)))
 |_,_=>False
def AR:List D->(D->Prop)->Prop
 |[.int kx a,.int ky b],k=>dK (same kx ky) (k (.int kx (max a b)))
 |_,_=>False
def xg:TypeDesc->Bool
 |.slice _=>true
 |.string=>true
 |_=>false
def rowsOf(bs:List af):D->Option (Nat×List (List D))
 |.str s=>some (1,s.data.toList.map λb=>[.int .u8 b.toNat])
 |.list sz rows=>some (sz,rows)
 |.ao=>some (0,[])
 |.sl i g off len=>match bs[i]? with
  |some (.rows _ g' sz rs)=>match Nat.beq g g' with
   |true=>some (sz,(rs.drop off).take len)
   |false=>none
  |_=>none
 |_=>none
def DE:D->(D->Prop)->Prop
 |.list _ rows,k=>k (.int .i64 rows.length)
 |.ao,k=>k (.int .i64 0)
 |.sl _ _ _ len,k=>k (.int .i64 len)
 |.gj _ _ _ len,k=>k (.int .i64 len)
 |_,_=>False
def ay:Nat:=140737488355328
theorem ij{rs:List (List D)}{len:Nat}(h:len=rs.length):(rs.drop 0).take len=rs:=by subst h;simp
def Zv:TypeDesc->Nat
 |.slice e=>e
 |_=>0
def dR(n g e:Nat):Nat:=n+5+((g+1)*1099511627776+e)
def gL(e:Nat)(bs:List af)(size bytes:Nat)(s:D)(ys:D)(k:bE->Prop):Prop:=
 match rowsOf bs ys with
 |none=>False
 |some (sz,rows)=>
  (match Nat.beq sz size with|true=>True|false=>rows=[])/\
  match s with
  |.ao=>rows.length*bytes<=ay/\k (.new (.rows false 0 size rows) λi=>.sl i 0 0 rows.length)
  |.sl i g off len=>
   match bs[i]? with
   |some (.rows false g' Ng rs)=>
    dK (match Nat.beq g g' with|true=>Nat.beq Ng size|false=>false) (off+len<=rs.length/\(len+rows.length)*bytes<=ay/\
    ∃dP,(rs.drop off).take len=dP/\∃all,dP++rows=all/\k (.set i (.rows false (g+1) size all) (.sl i (g+1) 0 all.length)))
   |some (.aA false b pos)=>match ys with
    |.str x=>dK (match Nat.beq size 1,Nat.beq off 0,Nat.beq len b.size,Nat.beq pos (dR b.size g e),Nat.blt e 1099511627776 with|true,true,true,true,true=>true|_,_,_,_,_=>false)
     ((len+x.size)*bytes<=ay/\k (.set i (.aA false (b++x) (dR (len+x.size) (g+1) e)) (.sl i (g+1) 0 (len+x.size))))
    |_=>False
   |_=>False
  |_=>False
def fw(size:Nat):List (List D)->List (Nat×D)->Option (List (List D))
 |rows,[]=>some rows
 |rows,(i,d)::r=>match cellsOf d with
  |none=>none
  |some cs=>match Nat.beq cs.length size,cu cs,Nat.blt i rows.length with
   |true,true,true=>fw size (rows.set i cs) r
   |_,_,_=>none
def nq(bs:List af):List (Nat×D)->Option (List (Nat×D))
 |[]=>some []
 |(i,d)::r=>match reify bs fuel d with
  |none=>none
  |some e=>match nq bs r with
   |none=>none
   |some l=>some ((i,e)::l)
def rK(bs:List af)(l:List (Nat×D)):List Nat:=l.flatMap λx=>aF bs fuel x.2
def gm(place:Nat->Option (Nat×Nat)):List D->List (Nat×D)->Option (List D)
 |cells,[]=>some cells
 |cells,(i,d)::r=>match place i,cellsOf d with
  |some (off,size),some cs=>match Nat.beq cs.length size,fits cells off size with
   |true,true=>gm place (cd cells off cs) r
   |_,_=>none
  |_,_=>none
def St.AK(U:St):List (Nat×Operand)->Option (List (Nat×D))
 |[]=>some []
 |(i,x)::r=>match U.ev x with
  |none=>none
  |some d=>match U.AK r with
   |none=>none
   |some l=>some ((i,d)::l)
def yT:D->D->Option Bool
 |.int k a,.int k' b=>match same k k' with|true=>some (a==b)|false=>none
 |.agg xs,.agg ys=>I9 xs ys
 |_,_=>none
def kS(i:Nat):List af->Bool
 |[]=>true
 |.aJ _ j _ _ _::r=>match Nat.beq j i with|true=>false|false=>kS i r
 |.flat ..::r=>kS i r
 |.rows ..::r=>kS i r
 |.map ..::r=>kS i r
 |.aA ..::r=>kS i r
def uS(sel:List Nat)(bs:List af):Bool:=match FL sel bs.length with|true=>sel.all λi=>kS i bs|false=>false
def fx(k:D):List D->Option (Option Nat)
 |[]=>some none
 |x::r=>match yT k x with
  |none=>none
  |some true=>some (some 0)
  |some false=>match fx k r with
   |none=>none
   |some none=>some none
   |some (some i)=>some (some (i+1))
def nr:D->Bool
 |.agg cs=>cu cs
 |d=>d.free
def eZ(ks vs:List D)(key z:D)(ok:Bool)(k:bE->Prop):Prop:=
 match ok with
 |false=>∃o,fx key ks=some o/\∃d,(match o with|some i=>vs[i]?=some d|none=>d=z)/\k (.val d)
 |true=>∃o,fx key ks=some o/\∃d b,(match o with|some i=>vs[i]?=some d/\b=D.tt|none=>d=z/\b=D.ff)/\k (.val (.b9 [d,b]))
def rM:List D->Bool
 |[]=>true
 |.int _ _::r=>rM r
 |_::_=>false
def gG(tk:TI):D->Bool
 |.int _ _=>match tk.desc with|.int _=>true|_=>false
 |.agg xs=>match tk.eqs,Nat.beq xs.length tk.size,rM tk.zero with|true,true,true=>rM xs|_,_,_=>false
 |_=>false
def AS(tk:TI)(bs:List af)(m key x:D)(k:bE->Prop):Prop:=
 match m with
 |.cn i=>match bs[i]? with
  |some (.map false ks vs)=>dK (match gG tk key,nr x with|true,true=>kS i bs|_,_=>false) (∃o,fx key ks=some o/\∃TS oz,(match o with|some i=>TS=ks/\oz=vs.set i x|none=>TS=ks++[key]/\oz=vs++[x])/\k (.set i (.map false TS oz) .eL))
  |_=>False
 |_=>False
def kT(ti:TI):D:=match ti.agg with
 |true=>.agg ti.zero
 |false=>match ti.zero with|d::_=>d|[]=>.eL
def AT(c:Nat)(tk te:TI)(key:D)(ok:Bool)(k:bE->Prop):Prop:=
 match key,tk.desc,kT te,ok with
 |.int .i64 n,.int .i64,.int .i64 0,true=>k (.val (.b9 [.int .i64 (pP c n),.tt]))/\k (.val (.b9 [.int .i64 0,.ff]))
 |_,_,_,_=>False
def AU(c:Nat)(tk:TI)(key x:D)(k:bE->Prop):Prop:=
 match key,tk.desc,x with
 |.int .i64 n,.int .i64,.int .i64 v=>v=pP c n/\k (.res .eL [])
 |_,_,_=>False
def fy(ti:TI)(bs:List af)(p:D)(k:bE->Prop):Prop:=
 match p with
 |.loc i off=>match bs[i]? with
  |some (.flat _ cells)=>match ti.agg with
   |true=>match cQ cells off ti.size with
    |some d=>uR d λd=>k (.val d)
    |none=>False
   |false=>match cells[off]? with
    |some d=>k (.val d)
    |none=>False
  |_=>False
 |.bH i off=>match bs[i]? with
  |some (.flat _ cells)=>match ti.agg with
   |true=>∃cs,(cells.drop off).take ti.size=cs/\cs.length=ti.size/\k (.val (.agg cs))
   |false=>∃d,cells[off]?=some d/\k (.val d)
  |_=>False
 |.ro cells=>match ti.agg with
  |true=>match cQ cells 0 ti.size with
   |some d=>uR d λd=>k (.val d)
   |none=>False
  |false=>match cells with
   |d::_=>k (.val d)
   |[]=>False
 |.bM i g r off=>match bs[i]? with
  |some (.rows _ g' _ rs)=>dK (Nat.beq g g') (∃row,rs[r]?=some row/\match ti.agg with
   |true=>match cQ row off ti.size with
    |some d=>uR d λd=>k (.val d)
    |none=>False
   |false=>match row[off]? with
    |some d=>k (.val d)
    |none=>False)
  |_=>False
 |_=>False
def nu(ti:TI)(bs:List af)(p x:D)(k:bE->Prop):Prop:=
 match cellsOf x with
 |none=>False
 |some ds=>
  dK (Nat.beq ds.length ti.size)<|
  match p with
  |.loc i off=>match bs[i]? with
   |some (.flat false cells)=>match fits cells off ds.length with
    |true=>k (.set i (.flat false (cd cells off ds)) .eL)
    |false=>False
   |_=>False
  |.bH i off=>match bs[i]? with
   |some (.flat false cells)=>off+ds.length<=cells.length/\∃cs,cd cells off ds=cs/\k (.set i (.flat false cs) .eL)
   |_=>False
  |.bM i g r off=>match bs[i]? with
   |some (.rows false g' sz rs)=>dK (match Nat.beq g g' with|true=>cu ds|false=>false) (∃row,rs[r]?=some row/\off+ds.length<=row.length/\∃O6,rs.set r (cd row off ds)=O6/\k (.set i (.rows false g' sz O6) .eL))
   |_=>False
  |_=>False
def pR(p d:D):Bool:=match p with
 |.bM _ _ _ _=>nr d
 |_=>true
def Jj(ti:TI)(bs:List af)(y:eG)(p d:D)(k:bE->Prop):Prop:=
 ∃d',reify bs fuel d=some d'/\nu ti (au bs 0 (aF bs fuel d)) p d' λe=>match e with
  |.set i b _=>k (.dJ .eL ((au bs 0 (aF bs fuel d)).set i b) y)
  |_=>False
def eA(p:D)(off:Nat)(k:bE->Prop):Prop:=
 match p with
 |.loc i o=>DD (o+off) λn=>k (.val (.loc i n))
 |.bH i o=>k (.val (.bH i (o+off)))
 |.bM i g r o=>k (.val (.bM i g r (o+off)))
 |.ro cs=>k (.val (.ro (cs.drop off)))
 |_=>False
def isConst:Operand->Bool
 |.const _=>true
 |_=>false
def fU:Operand->Bool
 |.const (.slice none 0 0)=>true
 |.const .nilIface=>true
 |_=>false
def eB(bs:List af)(desc:TypeDesc)(cS:Nat)(lit:Bool)(p i:D)(k:bE->Prop):Prop:=
 match i with
 |.int _ n=>
  match desc with
  |.array len _=>
   (0<=n/\n<len)/\
   match p with
   |.loc b o=>match lit with
    |true=>DD (o+n.toNat*cS) λn=>k (.val (.loc b n))
    |false=>∃m,n.toNat*cS=m/\k (.val (.bH b (o+m)))
   |.bH b o=>∃m,n.toNat*cS=m/\k (.val (.bH b (o+m)))
   |.bM b g r o=>match lit with
    |true=>k (.val (.bM b g r (o+n.toNat*cS)))
    |false=>False
   |.ro cs=>∃xI,cs.drop (n.toNat*cS)=xI/\k (.val (.ro xI))
   |.gp g o=>∃m,n.toNat*cS=m/\k (.val (.gp g (o+m)))
   |_=>False
  |.slice _=>
   match p with
   |.list sz rows=>dK (Nat.beq sz cS) (0<=n/\∃row,rows[n.toNat]?=some row/\k (.val (.ro row)))
   |.sl b g off len=>match bs[b]? with
    |some (.rows _ g' sz _)=>dK (match Nat.beq g g' with|true=>Nat.beq sz cS|false=>false) (0<=n/\n<len/\∃m,off+n.toNat=m/\k (.val (.bM b g m 0)))
    |_=>False
   |.gj b off sz len=>dK (Nat.beq sz cS) (0<=n/\n<len/\∃m,off+n.toNat*sz=m/\k (.val (.bH b m)))
   |_=>False
  |_=>False
 |_=>False
def DF(lo hi:Option D)(n:Nat)(k:Nat->Nat->Prop):Prop:=
 match lo,hi with
 |none,none=>k 0 n
 |some (.int _ a),none=>(0<=a/\a<=n)/\k a.toNat n
 |none,some (.int _ b)=>(0<=b/\b<=n)/\k 0 b.toNat
 |some (.int _ a),some (.int _ b)=>(0<=a/\a<=b/\b<=n)/\k a.toNat b.toNat
 |_,_=>False
theorem qq{lo hi:Option D}{n:Nat}{k:Nat->Nat->Prop}(h:DF lo hi n k):∃l h',l<=h'/\h'<=n/\k l h'/\
    ((lo=none/\l=0)\/∃kd a,lo=some (.int kd a)/\0<=a/\l=a.toNat)/\((hi=none/\h'=n)\/∃kd b,hi=some (.int kd b)/\0<=b/\h'=b.toNat)/\∀k':Nat->Nat->Prop,k' l h'->DF lo hi n k':=by
  unfold DF at h;split at h
  .exact⟨_,_,by omega,Nat.le_refl _,h,.inl ⟨rfl,rfl⟩,.inl ⟨rfl,rfl⟩,λ_ h=>h⟩
  .exact⟨_,_,by omega,Nat.le_refl _,h.2,.inr ⟨_,_,rfl,h.1.1,rfl⟩,.inl ⟨rfl,rfl⟩,λ_ h'=>⟨h.1,h'⟩⟩
  .exact⟨_,_,by omega,by omega,h.2,.inl ⟨rfl,rfl⟩,.inr ⟨_,_,rfl,h.1.1,rfl⟩,λ_ h'=>⟨h.1,h'⟩⟩
  .exact⟨_,_,by omega,by omega,h.2,.inr ⟨_,_,rfl,h.1.1,rfl⟩,.inr ⟨_,_,rfl,by omega,rfl⟩,λ_ h'=>⟨h.1,h'⟩⟩
  exact h.elim
def jx(bs:List af)(desc:TypeDesc)(cS:Nat)(p:D)(lo hi:Option D)(k:bE->Prop):Prop:=
 match desc with
 |.slice _=>
  match p with
  |.list sz rows=>
   dK (Nat.beq sz cS)<|match lo,hi with
   |none,none=>k (.val (.list sz rows))
   |some (.int _ a),none=>(0<=a/\a<=rows.length)/\∃l,rows.drop a.toNat=l/\k (.val (.list sz l))
   |none,some (.int _ b)=>(0<=b/\b<=rows.length)/\∃l,rows.take b.toNat=l/\k (.val (.list sz l))
   |some (.int _ a),some (.int _ b)=>(0<=a/\a<=b/\b<=rows.length)/\∃l,(rows.take b.toNat).drop a.toNat=l/\k (.val (.list sz l))
   |_,_=>False
  |.sl i g off len=>match bs[i]? with
   |some (.rows _ g' sz _)=>
    dK (match Nat.beq g g' with|true=>Nat.beq sz cS|false=>false)<|match lo,hi with
    |none,none=>k (.val (.sl i g off len))
    |some (.int _ a),none=>(0<=a/\a<=len)/\k (.val (.sl i g (off+a.toNat) (len-a.toNat)))
    |none,some (.int _ b)=>(0<=b/\b<=len)/\k (.val (.sl i g off b.toNat))
    |some (.int _ a),some (.int _ b)=>(0<=a/\a<=b/\b<=len)/\k (.val (.sl i g (off+a.toNat) (b.toNat-a.toNat)))
    |_,_=>False
   |_=>False
  |.gj i off sz len=>dK (Nat.beq sz cS)<|DF lo hi len λl h=>k (.val (.gj i (off+l*sz) sz (h-l)))
  |_=>False
 |.array n _=>
  match p with
  |.loc i off=>DF lo hi n λl h=>k (.val (.gj i (off+l*cS) cS (h-l)))
  |_=>False
 |_=>False
def Jk(ti:TI):Bool:=match ti.agg,ti.zero with
 |true,[.cO,.ao]=>true
 |_,_=>false
def l5(t:Nat)(ti:TI):af:=match Jk ti with
 |true=>.aA false ⟨#[]⟩ (5+t)
 |false=>.flat false ti.zero
def ur:List D->Option D
 |[z]=>some z
 |_=>none
def xJ(te:TI)(j:Nat)(k:bE->Prop):Prop:=
 match(match te.desc with|.slice _=>ur te.zero|_=>none)with
 |some z=>∃cs,List.replicate j z=cs/\k (.new (.flat false cs) λi=>.gj i 0 1 j)
 |none=>∃rs,List.replicate j te.zero=rs/\k (.new (.rows false 0 te.size rs) λi=>.sl i 0 0 j)
theorem xK{te:TI}{j:Nat}{k:bE->Prop}(h:xJ te j k):
    ((∃z,te.zero=[z]/\k (.new (.flat false (List.replicate j z)) λi=>.gj i 0 1 j))\/k (.new (.rows false 0 te.size (List.replicate j te.zero)) λi=>.sl i 0 0 j))/\
    ∃b mk,k (.new b mk)/\b.fz=false/\∀k':bE->Prop,k' (.new b mk)->xJ te j k':=by
  unfold xJ at h⊢;split at h
  .rename_i z hz
   obtain⟨cs,rfl,h⟩:=h;refine⟨.inl ⟨z,?_,h⟩,_,_,h,rfl,λk' h'=>⟨_,rfl,h'⟩⟩;split at hz
   .unfold ur at hz
    split at hz
    .rename_i hh;cases hz;exact hh
    cases hz
   cases hz
  obtain⟨rs,rfl,h⟩:=h;exact⟨.inr h,_,_,h,rfl,λk' h'=>⟨_,rfl,h'⟩⟩
def gn(rs:List (List D))(off len:Nat)(z:List D):List (List D):=rs.take off++(List.replicate len z++rs.drop (off+len))
def uT(bs:List af)(te:TI)(x:D)(k:bE->Prop):Prop:=
 match x with
 |.ao=>k (.val (.b9 []))
 |.sl i g off len=>(len=0->k (.val (.b9 [])))/\(len≠0->match bs[i]? with
  |some (.rows false g' sz rs)=>dK (match Nat.beq g g',Nat.beq sz te.size with|true,true=>cu te.zero|_,_=>false) (∃O6,gn rs off len te.zero=O6/\k (.set i (.rows false g' sz O6) (.b9 [])))
  |_=>False)
 |_=>False
def kU(desc:TypeDesc)(p:D)(lo hi:Option D)(k:bE->Prop):Prop:=
 match desc,p,lo,hi with
 |.string,.str s,none,some (.int _ b)=>(0<=b/\b<=s.size)/\k (.val (.str (s.extract 0 b.toNat)))
 |.string,.str s,some (.int _ a),none=>(0<=a/\a<=s.size)/\k (.val (.str (s.extract a.toNat s.size)))
 |.string,.str s,some (.int _ a),some (.int _ b)=>((0<=a/\a<=b)/\(0<=b/\b<=s.size))/\k (.val (.str (s.extract a.toNat b.toNat)))
 |_,_,_,_=>False
def jO(m:Option D)(te:Option TI)(desc:TypeDesc)(p:D)(lo hi:Option D)(k:bE->Prop):Prop:=
 match m,te,desc,lo,hi with
 |some (.int _ 0),some _,.slice _,none,some (.int _ 0)=>(match p with
  |.list _ _=>k (.val .ao)
  |.sl _ _ _ _=>k (.val .ao)
  |.ao=>k (.val .ao)
  |_=>False)
 |_,_,_,_,_=>False
theorem kV{m:Option D}{te:Option TI}{desc:TypeDesc}{p:D}{lo hi:Option D}{k:bE->Prop}(h:jO m te desc p lo hi k):
    ∃km kh t' e,m=some (.int km 0)/\te=some t'/\desc=.slice e/\lo=none/\hi=some (.int kh 0)/\((∃sz rows,p=.list sz rows)\/(∃i g off len,p=.sl i g off len)\/p=.ao)/\k (.val .ao):=by
  unfold jO at h;split at h
  .rename_i km t' e kh
   refine⟨km,kh,t',e,rfl,rfl,rfl,rfl,rfl,?_⟩;split at h
   .exact⟨.inl ⟨_,_,rfl⟩,h⟩
   .exact⟨.inr (.inl ⟨_,_,_,_,rfl⟩),h⟩
   .exact⟨.inr (.inr rfl),h⟩
   exact h.elim
  exact h.elim
theorem DG{m:Option D}{te:Option TI}{desc:TypeDesc}{p:D}{lo hi:Option D}{k k':bE->Prop}(h:jO m te desc p lo hi k)(hk:k' (.val .ao)):jO m te desc p lo hi k':=by
 obtain⟨km,kh,t',e,rfl,rfl,rfl,rfl,rfl,hp,_⟩:=kV h;rcases hp with⟨_,_,rfl⟩|⟨_,_,_,_,rfl⟩|rfl<;>exact hk
section
variable(T:Nat->Option TI)(C:xa)(It:MT)
def ee(desc:TypeDesc):Option TI:=
 match desc with
 |.array _ e=>T e
 |.slice e=>T e
 |_=>none
def eN(desc:TypeDesc):Option TI:=
 match desc with
 |.slice e=>T e
 |_=>none
def fK(desc:TypeDesc)(f:Nat):Option (Nat×TI):=
 match desc with
 |.struct fs=>match fs[f]? with
  |some x=>match T x.type with
   |some ti=>some (x.offset,ti)
   |none=>none
  |none=>none
 |_=>none
def l6(desc:TypeDesc)(i:Nat):Option (Nat×Nat):=
 match desc with
 |.struct fs=>match fs[i]? with
  |some x=>match T x.type with
   |some ti=>some (x.offset,ti.size)
   |none=>none
  |none=>none
 |.array _ e=>match T e with
  |some ti=>some (i*ti.size,ti.size)
  |none=>none
 |_=>none
def typeAt(c:Call)(i:Nat):Option TI:=
 match c.argTypes[i]? with
 |some t=>T t
 |none=>none
def buildable(desc:TypeDesc):Bool:=
 match desc with
 |.struct _=>true
 |.array _ e=>match T e with|some _=>true|none=>false
 |_=>false
def eV(U:St):Option Operand->Option (Option D)
 |none=>some none
 |some x=>match U.ev x with
  |some d=>some (some d)
  |none=>none
def dC(U:St)(o:Oper)(k:bE->Prop):Prop:=
 match o.op with
 |.move x|.assign x=>match U.ev x with
  |some d=>k (.val d)
  |none=>False
 |.pick c a b=>match U.ev c with
  |some .tt=>match U.ev a with|some d=>k (.val d)|none=>False
  |some .ff=>match U.ev b with|some d=>k (.val d)|none=>False
  |some (.bool t)=>(t=true->match U.ev a with|some d=>k (.val d)|none=>False)/\(t=false->match U.ev b with|some d=>k (.val d)|none=>False)
  |_=>False
 |.alloc t=>match T t with
  |some ti=>k (.new (l5 t ti) λi=>.loc i 0)
  |none=>False
 |.box _ x=>match U.ev x with
  |some d=>match cellsOf d with
   |some cs=>k (.new (.flat false cs) λi=>.loc i 0)
   |none=>False
  |none=>False
 |.build t ps=>match T t,U.AK ps.toList with
  |some ti,some l=>match buildable T ti.desc,gm (l6 T ti.desc) ti.zero l with
   |true,some cs=>ig cs λcs=>k (.val (.agg cs))
   |_,_=>False
  |_,_=>False
 |.buildSlice t len ps=>match T t,U.AK ps.toList with
  |some ti,some l=>match eN T ti.desc with
   |some te=>match fw te.size (List.replicate len te.zero) l with
    |some rows=>dK (match Nat.blt 0 te.size,Nat.ble (len*te.size) 16777216 with|true,true=>cu te.zero|_,_=>false) (k (.new (.rows false 0 te.size rows) λi=>match Nat.beq len 0 with|true=>.ao|false=>.sl i 0 0 len))
    |none=>∃l',nq U.boxes l=some l'/\∃rows,fw te.size (List.replicate len te.zero) l'=some rows/\
        dK (match Nat.blt 0 te.size,Nat.ble (len*te.size) 16777216 with|true,true=>cu te.zero|_,_=>false) (k (.eo (.rows false 0 te.size rows) (λi=>match Nat.beq len 0 with|true=>.ao|false=>.sl i 0 0 len) (rK U.boxes l)))
   |none=>False
  |_,_=>False
 |.load t a=>match T t,U.ev a with
  |some ti,some (.gp g off)=>(match ti.agg with|false=>∃kd n,C.gt g off=some (kd,n)/\k (.val (.int kd n))|true=>False)
  |some ti,some p=>fy ti U.boxes p k
  |_,_=>False
 |.store t a x=>match T t,U.ev a,U.ev x with
  |some ti,some p,some d=>(match pR p d with
   |true=>nu ti U.boxes p d k
   |false=>Jj ti U.boxes U.y p d k)
  |_,_,_=>False
 |.nilCheck x=>match U.ev x with
  |some (.loc i o)=>k (.val (.loc i o))
  |some (.ro cs)=>k (.val (.ro cs))
  |some (.bM i g r o)=>k (.val (.bM i g r o))
  |some (.bH i o)=>k (.val (.bH i o))
  |_=>False
 |.binOp op t x y _=>match T t,U.ev x,U.ev y with
  |some ti,some (.list _ rows),some .ao=>(match ti.desc,op,fU y with
   |.slice _,.eql,true=>∀b:Bool,(b=true->rows=[])->k (.val (.bool b))
   |_,_,_=>False)
  |some ti,some (.sl i g _ len),some .ao=>(match ti.desc,op,fU y with
   |.slice _,.eql,true=>(match U.boxes[i]? with
    |some (.rows _ g' _ _)=>dK (Nat.beq g g') (∀b:Bool,(b=true->len=0)->k (.val (.bool b)))
    |_=>False)
   |_,_,_=>False)
  |some ti,some .ao,some .ao=>(match ti.desc,op,fU y with
   |.slice _,.eql,true=>∀b:Bool,k (.val (.bool b))
   |_,_,_=>False)
  |some ti,some .dI,some .dI=>(match ti.desc,op,fU y with
   |.interface _,.eql,true=>k (.val (.bool true))
   |.interface _,.neq,true=>k (.val (.bool false))
   |_,_,_=>False)
  |some ti,some a,some b=>jN ti op a b λd=>k (.val d)
  |_,_,_=>False
 |.unOp op _ x=>match op,U.ev x with
  |.not,some .tt=>k (.val .ff)
  |.not,some .ff=>k (.val .tt)
  |.not,some (.bool b)=>k (.val (.bool (!b)))
  |.neg,some (.int kx a)=>∃r,kx.wrap (0-a)=r/\k (.val (.int kx r))
  |_,_=>False
 |.convert s d x=>match T s,T d,U.ev x with
  |some ts,some td,some v=>match ts.desc,td.desc,v with
   |.int _,.int kd,.int _ n=>∃r,kd.wrap n=r/\k (.val (.int kd r))
   |_,_,_=>False
  |_,_,_=>False
 |.makeFunc fn fs cs=>match U.jv fs.toList,U.jv cs.toList with
  |some l,some m=>k (.val (.bR fn l m))
  |_,_=>False
 |.makeSlice t l c=>match T t,U.ev l,U.ev c with
  |some ti,some (.int .i64 n),some (.int .i64 m)=>match eN T ti.desc with
   |some te=>dK (match Nat.blt 0 te.size,Nat.blt 0 te.bytes with|true,true=>cu te.zero|_,_=>false) (0<=n/\n=m/\te.bytes*n<=ay/\
       ∃j,n.toNat=j/\xJ te j k)
   |none=>False
  |_,_,_=>False
 |.slice t x lo hi mx=>match mx,T t,U.ev x,eV U lo,eV U hi with
  |none,some ti,some p,some l,some h=>match ee T ti.desc with
   |some te=>jx U.boxes ti.desc te.size p l h k
   |none=>kU ti.desc p l h k
  |some m,some ti,some p,some l,some h=>jO (U.ev m) (ee T ti.desc) ti.desc p l h k
  |_,_,_,_,_=>False
 |.fieldAddr t x f=>match T t,U.ev x with
  |some ti,some p=>match fK T ti.desc f with
   |some (off,tf)=>dK (Nat.blt 0 tf.size) (eA p off k)
   |none=>False
  |_,_=>False
 |.field t x f=>match T t,U.ev x with
  |some ti,some (.agg cs)=>match fK T ti.desc f with
   |some (off,tf)=>match tf.agg with
    |true=>match cQ cs off tf.size with
     |some d=>uR d λd=>k (.val d)
     |none=>False
    |false=>match cs[off]? with
     |some d=>k (.val d)
     |none=>False
   |none=>False
  |_,_=>False
 |.indexAddr t x i=>match T t,U.ev x,U.ev i with
  |some ti,some p,some n=>match ee T ti.desc with
   |some te=>eB U.boxes ti.desc te.size (isConst i) p n k
   |none=>False
  |_,_,_=>False
 |.index t x i=>match T t,U.ev x,U.ev i with
  |some ti,some (.str s),some (.int _ n)=>match ti.desc with
   |.string=>0<=n/\∃b,s[n.toNat]?=some b/\k (.val (.int .u8 b.toNat))
   |_=>False
  |some ti,some (.agg cs),some (.int _ n)=>match ti.desc,ee T ti.desc with
   |.array len _,some te=>(0<=n/\n<len)/\match te.agg with
    |true=>∃ds,(cs.drop (n.toNat*te.size)).take te.size=ds/\ds.length=te.size/\k (.val (.agg ds))
    |false=>∃d,cs[n.toNat*te.size]?=some d/\k (.val d)
   |_,_=>False
  |_,_,_=>False
 |.makeMap t r=>match T t,r with
  |some ti,none=>match ti.desc with
   |.map _ _=>(match C.mp with
    |none=>k (.new (.map false [] []) λi=>.cn i)
    |some c=>k (.res (.dY c) []))
   |_=>False
  |_,_=>False
 |.lookup t x i ok=>match T t,U.ev x,U.ev i with
  |some ti,some m,some key=>match ti.desc with
   |.map kt et=>match T kt,T et with
    |some tk,some te=>dK (gG tk key) (match m with
     |.cn j=>match U.boxes[j]? with
      |some (.map _ ks vs)=>eZ ks vs key (kT te) ok k
      |_=>False
     |.nk ks vs=>eZ ks vs key (kT te) ok k
     |.fh=>eZ [] [] key (kT te) ok k
     |.dY c=>AT c tk te key ok k
     |_=>False)
    |_,_=>False
   |_=>False
  |_,_,_=>False
 |.mapUpdate t x i y|.insert t x i y=>match T t,U.ev x,U.ev i,U.ev y with
  |some ti,some m,some key,some v=>match ti.desc with
   |.map kt _=>match T kt with
    |some tk=>(match m with
     |.dY c=>AU c tk key v k
     |_=>AS tk U.boxes m key v k)
    |none=>False
   |_=>False
  |_,_,_,_=>False
 |.range t x=>match T t,U.ev x with
  |some ti,some (.str s)=>match ti.desc with
   |.string=>k (.new (.aA false s 0) λi=>.iY i)
   |_=>False
  |some ti,some (.cn j)=>match ti.desc,U.boxes[j]? with
   |.map _ _,some (.map _ ks vs)=>k (.new (.aJ false j ks vs []) λi=>.iY i)
   |_,_=>False
  |_,_=>False
 |.next x str=>match str,U.ev x with
  |true,some (.iY i)=>match U.boxes[i]? with
   |some (.aA false s pos)=>(pos<s.size->∃c wd,Utf8.decode s pos=(c,wd)/\k (.set i (.aA false s (pos+wd)) (.b9 [.tt,.int .i64 pos,.int .i32 c])))/\(¬pos<s.size->pos<s.size+5/\k (.set i (.aA false s pos) (.b9 [.ff])))
   |_=>False
  |false,some (.iY i)=>match U.boxes[i]? with
   |some (.aJ false j ks vs seen)=>(∀(q:Nat)(kd vd:D),ks[q]?=some kd->vs[q]?=some vd->q∉seen->k (.set i (.aJ false j ks vs (q::seen)) (.b9 [.tt,kd,vd])))/\
       ((∀q:Nat,q<ks.length->q∈seen)->k (.set i (.aJ false j ks vs seen) (.b9 [.ff])))
   |_=>False
  |_,_=>False
 |.entry x=>match U.ev x with
  |some (.iY i)=>match U.boxes[i]? with
   |some (.aJ _ _ ks vs (q::_))=>∃kd vd,ks[q]?=some kd/\vs[q]?=some vd/\k (.val (.b9 [kd,vd]))
   |_=>False
  |_=>False
 |.extract t i=>match U.ev t with
  |some (.b9 ds)=>match ds[i]? with
   |some d=>k (.val d)
   |none=>False
  |_=>False
 |.call c=>match c.callee with
  |.value f=>match U.ev f,U.jv c.args.toList with
   |some (.j8 l),some as=>match U.y with
    |.rem l' (x::r)=>match as with
     |[.cn i]=>match U.boxes[i]? with
      |some (.map false ks vs)=>l=l'/\x=[.pO ks vs]/\dK (match bT ks,bT vs with|true,true=>aS i (U.boxes.take i)|_,_=>false) (k (.fO true (.rem l' r) i)/\k (.fO false .gk i))
      |_=>False
     |as=>l=l'/\(∃rs,fi U.boxes as=some rs/\rs=x)/\k (.yielded true (.rem l' r))/\k (.yielded false .gk)
    |_=>False
   |some (.bR (.func fk) fs cs),some as=>match C.nw fk with
    |true=>∃rs,fi U.boxes (fs++(as++cs))=some rs/\∃b,C.new fk rs b/\(match jg b with|true=>k (.new b (xf b))|false=>dK (uQ b) (k (.eo b (xf b) ((fs++(as++cs)).flatMap (aF U.boxes fuel)))))
    |false=>match C.sh fk with
     |false=>∃rs,fi U.boxes (fs++(as++cs))=some rs/\∃d,C.den fk rs d/\k (.res d (fs++(as++cs)))
     |true=>(∃rs,fi U.boxes (fs++(as++cs))=some rs/\∃d,C.den fk rs d/\k (.res d (fs++(as++cs))))\/
      ∃(sel:List Nat)(jG:List D)(uU:List af)(Q:D->List af->eG->Prop),uS sel U.boxes=true/\DC uU=true/\mY (jL sel U.boxes.length) jG=fs++(as++cs)/\
       uU.map (λb=>some (b.eg (jL sel U.boxes.length)))=j9 U.boxes sel/\C.shr fk jG uU U.y Q/\(∃d bu y',Q d bu y')/\
       ∀d bu y',Q d bu y'->∃X,ed U.boxes sel (bu.map (af.eg (jL sel U.boxes.length)))=X/\k (.dJ (eg (jL sel U.boxes.length) d) X y')
   |_,_=>False
  |.builtin b=>match U.jv c.args.toList with
   |none=>False
   |some as=>
    match b with
    |.len=>match as with
     |[x]=>match typeAt T c 0 with
      |some ti=>match ti.desc with
       |.array n _=>k (.val (.int .i64 n))
       |.slice _=>DE x λd=>k (.val d)
       |.string=>match x with
        |.str s=>k (.val (.int .i64 s.size))
        |_=>False
       |_=>False
      |none=>False
     |_=>False
    |.min=>yS as λd=>k (.val d)
    |.max=>AR as λd=>k (.val d)
    |.clear=>match as with
     |[x]=>match typeAt T c 0 with
      |some ti=>match eN T ti.desc with
       |some te=>uT U.boxes te x k
       |none=>False
      |none=>False
     |_=>False
    |.append=>match as with
     |[s,x]=>match typeAt T c 0,typeAt T c 1 with
      |some ti,some tx=>match xg tx.desc with
       |true=>match eN T ti.desc with
        |some te=>dK (match Nat.blt 0 te.size with|true=>Nat.blt 0 te.bytes|false=>false) (gL (Zv ti.desc) U.boxes te.size te.bytes s x k)
        |none=>False
       |false=>False
      |_,_=>False
     |_=>False
    |_=>False
  |_=>False
 |_=>False
def nv(U:St):bE->D
 |.val d=>d
 |.dJ d _ _=>d
 |.new _ mk=>mk U.boxes.length
 |.set _ _ d=>d
 |.res d _=>d
 |.yielded b _=>match b with|true=>.tt|false=>.ff
 |.eo _ mk _=>mk U.boxes.length
 |.fO b _ _=>match b with|true=>.tt|false=>.ff
def cD(U:St):bE->List af
 |.val _=>U.boxes
 |.dJ _ bs _=>bs
 |.new b _=>U.boxes++[b]
 |.set i b _=>U.boxes.set i b
 |.res d args=>aK U.boxes d args
 |.yielded _ _=>U.boxes
 |.eo b _ L=>au U.boxes 0 L++[b]
 |.fO _ _ nb=>U.boxes.take nb
def Jl(U:St):bE->eG
 |.yielded _ y=>y
 |.fO _ y _=>y
 |.dJ _ _ y=>y
 |_=>U.y
def DH(nb:Nat):List (Nat×D)->List (Nat×D)
 |[]=>[]
 |(t,d)::r=>match en nb d with
  |true=>(t,d)::DH nb r
  |false=>(t,.eL)::DH nb r
def G4(U:St):bE->List (Nat×D)
 |.fO _ _ nb=>DH nb U.tmps
 |_=>U.tmps
def bJ(U:St)(dst:Option Nat)(e:bE):St:=St.put ⟨G4 U e,cD U e,Jl U e⟩ dst (nv U e)
def fj(ops:List Oper)(i:Nat):Bool:=
 ops.any λo=>match o.guard with|some (j,_)=>Nat.beq j i|none=>false
def uV(tm:List (Nat×D))(dst:Option Nat)(d:D)(k:List (Nat×D)->Prop):Prop:=
 match dst with
 |none=>k tm
 |some t=>k ((t,d)::tm)
def fP(U:St)(dst:Option Nat)(e:bE)(K:St->Prop):Prop:=
 match U with
 |⟨tm,bs,y⟩=>match e with
  |.val d=>pQ d λd=>uV tm dst d λtm=>K ⟨tm,bs,y⟩
  |.new b mk=>DD bs.length λn=>pQ (mk n) λd=>ig (bs++[b]) λbs=>uV tm dst d λtm=>K ⟨tm,bs,y⟩
  |.set i b d=>ig (bs.set i b) λbs=>pQ d λd=>uV tm dst d λtm=>K ⟨tm,bs,y⟩
  |.res d as=>pQ d λd=>jM (aK bs d as) λbs=>uV tm dst d λtm=>K ⟨tm,bs,y⟩
  |.dJ d bs y=>pQ d λd=>jM bs λbs=>uV tm dst d λtm=>K ⟨tm,bs,y⟩
  |.yielded b y=>match b with
   |true=>uV tm dst .tt λtm=>K ⟨tm,bs,y⟩
   |false=>uV tm dst .ff λtm=>K ⟨tm,bs,y⟩
  |.eo b mk L=>DD bs.length λn=>pQ (mk n) λd=>jM (au bs 0 L++[b]) λbs=>uV tm dst d λtm=>K ⟨tm,bs,y⟩
  |.fO b y nb=>ig (bs.take nb) λbs=>ig (DH nb tm) λtm=>match b with
   |true=>uV tm dst .tt λtm=>K ⟨tm,bs,y⟩
   |false=>uV tm dst .ff λtm=>K ⟨tm,bs,y⟩
theorem kW(tm:List (Nat×D))(dst:Option Nat)(d:D)(bs:List af)(y:eG)(K:St->Prop):(uV tm dst d λtm=>K ⟨tm,bs,y⟩)=K (St.put ⟨tm,bs,y⟩ dst d):=by
 cases dst<;>rfl
theorem kY(U:St)(dst:Option Nat)(e:bE)(K:St->Prop):fP U dst e K=K (bJ U dst e):=by
 cases U with
 |mk tm bs y=>
  cases e with
  |val d=>unfold fP;simp only[jW,kW];rfl
  |new b mk=>unfold fP;simp only[ba,jW,cg,kW];rfl
  |set i b d=>unfold fP;simp only[jW,cg,kW];rfl
  |res d as=>unfold fP;simp only[jW,fT,kW];rfl
  |dJ d bs y=>unfold fP;simp only[jW,fT,kW];rfl
  |yielded b y=>cases b<;>(unfold fP;simp only[kW];rfl)
  |eo b mk L=>unfold fP;simp only[ba,jW,fT,kW];rfl
  |fO b y nb=>cases b<;>(unfold fP;simp only[cg,kW];rfl)
def oX(lo:Nat):bE->Bool:=λe=>match e with|.fO _ _ nb=>(match Nat.ble lo nb with|true=>false|false=>true)|_=>false
def mZ:bE->Bool:=λe=>match e with|.yielded _ _=>true|.dJ _ _ _=>true|.eo _ _ _=>true|.fO _ _ _=>true|_=>false
def xi:bE->Bool:=λe=>match e with|.fO _ _ _=>true|_=>false
def tR:bE->Bool:=λe=>match e with|.yielded _ _=>true|.set _ _ _=>true|.dJ _ _ _=>true|.eo _ _ _=>true|.fO _ _ _=>true|_=>false
def ik(fb:bE->Bool)(g:Bool)(U:St)(o:Oper)(K:St->Prop):Prop:=
 dC T C U o λe=>
  match fb e with
  |true=>False
  |false=>match g with
  |false=>fP U o.dst e K
  |true=>match e with
   |.val (.bool b)=>(b=true->fP U o.dst (.val .tt) K)/\(b=false->fP U o.dst (.val .ff) K)
   |.res (.bool b) as=>(b=true->fP U o.dst (.res .tt as) K)/\(b=false->fP U o.dst (.res .ff as) K)
   |.dJ (.bool b) bs y=>(b=true->fP U o.dst (.dJ .tt bs y) K)/\(b=false->fP U o.dst (.dJ .ff bs y) K)
   |e=>fP U o.dst e K
def nx(fb:bE->Bool)(g:Bool)(U:St)(dst:Option Nat)(K:St->Prop)(e:bE):Prop:=
 match fb e with
 |true=>False
 |false=>match g with
  |false=>K (bJ U dst e)
  |true=>match e with
   |.val (.bool b)=>(b=true->K (bJ U dst (.val .tt)))/\(b=false->K (bJ U dst (.val .ff)))
   |.res (.bool b) as=>(b=true->K (bJ U dst (.res .tt as)))/\(b=false->K (bJ U dst (.res .ff as)))
   |.dJ (.bool b) bs y=>(b=true->K (bJ U dst (.dJ .tt bs y)))/\(b=false->K (bJ U dst (.dJ .ff bs y)))
   |e=>K (bJ U dst e)
def yU(fb:bE->Bool)(g:Bool)(U:St)(o:Oper)(K:St->Prop):Prop:=dC T C U o (nx fb g U o.dst K)
theorem AV(fb:bE->Bool)(g:Bool)(U:St)(o:Oper)(K:St->Prop):ik T C fb g U o K=yU T C fb g U o K:=by
 unfold ik yU;congr 1;funext e;unfold nx;simp only[kY]
def guardOf(ops:List Oper)(U:St)(j:Nat):Option Bool:=
 match ops[j]? with
 |some o=>match o.dst with
  |some t=>match look U.tmps t with
   |some .tt=>some true
   |some .ff=>some false
   |_=>none
  |none=>none
 |none=>none
def cq(ops:List Oper)(U:St)(j:Nat):Bool:=
 match ops[j]? with
 |some o=>match o.dst with
  |some t=>match look U.tmps t with
   |some .j7=>true
   |_=>false
  |none=>false
 |none=>false
def aL(fb:bE->Bool)(ops:List Oper):List Oper->Nat->St->(St->Prop)->Prop
 |[],_,U,K=>K U
 |o::rest,i,U,K=>
  match o.guard with
  |none=>ik T C fb (fj ops i) U o λσ'=>aL fb ops rest (i+1) σ' K
  |some (j,want)=>
   match cq ops U j with
   |true=>aL fb ops rest (i+1) (U.put o.dst .j7) K
   |false=>
    match guardOf ops U j,want with
    |some true,true=>ik T C fb (fj ops i) U o λσ'=>aL fb ops rest (i+1) σ' K
    |some false,false=>ik T C fb (fj ops i) U o λσ'=>aL fb ops rest (i+1) σ' K
    |some true,false=>aL fb ops rest (i+1) (U.put o.dst .j7) K
    |some false,true=>aL fb ops rest (i+1) (U.put o.dst .j7) K
    |none,_=>False
def kb(ops:List Oper)(done:List Nat):List Nat:=(List.range ops.length).filter λi=>!(done.contains i)&&(ops.getD i default).after.toList.all λe=>!(match e.ground with|.gcOnly _|.textOnly _=>false|_=>true)||done.contains e.on
def Nh:List Nat->(Nat->Prop)->Prop
 |[],_=>True
 |i::r,p=>p i/\Nh r p
def l7(ops:List Oper):Nat->List Nat->St->(St->Prop)->Prop
 |0,_,_,_=>False
 |f+1,done,U,K=>match kb ops done with
  |[]=>K U
  |l=>Nh l λi=>aL T C xi ops [ops.getD i default] i U λσ'=>l7 ops f (i::done) σ' K
inductive Ex where
 |normal
 |exit (id:Nat)
 |ret
 |panic (v:Value)
def dL:List Nat->List D->List (Nat×D)->List (Nat×D)
 |t::ts,d::ds,tm=>dL ts ds ((t,d)::tm)
 |_,_,tm=>tm
def il(tm:List (Nat×D)):List Nat->List (Nat×D)
 |[]=>[]
 |t::r=>match look tm t with
  |some d=>(t,d)::il tm r
  |none=>il tm r
def St.clean(U:St)(aE:List Nat)(nb:Nat):St:=⟨il U.tmps aE,U.boxes.take nb,U.y⟩
inductive Pl where
 |slot (t:Nat)
 |cell (i off:Nat)
 |uW (t:Nat)
 |swap (i j:Nat)
 |free
 |rN (t:Nat)
def qt:List (Nat×D)->Nat->D->List (Nat×D)
 |[],_,_=>[]
 |(k,e)::r,t,d=>match Nat.beq k t with
  |true=>(k,d)::r
  |false=>(k,e)::qt r t d
def St.vec(U:St):List (Pl×Nat)->St
 |[]=>U
 |(.slot t,sz)::r=>match look U.tmps t with
  |some .ao=>St.vec ⟨qt U.tmps t (.sl U.boxes.length 0 0 0),U.boxes++[.rows false 0 sz []],U.y⟩ r
  |_=>St.vec U r
 |(.cell i off,sz)::r=>match U.boxes[i]? with
  |some (.flat false cs)=>match cs[off]? with
   |some .ao=>St.vec ⟨U.tmps,U.boxes.set i (.flat false (cs.set off (.sl U.boxes.length 0 0 0)))++[.rows false 0 sz []],U.y⟩ r
   |_=>St.vec U r
  |_=>St.vec U r
 |(.uW _,_)::r=>St.vec U r
 |(.swap _ _,_)::r=>St.vec U r
 |(.free,_)::r=>St.vec U r
 |(.rN t,_)::r=>match look U.tmps t with
  |some (.sl i g off len)=>match U.boxes[i]? with
   |some (.rows false g' sz (row::rs))=>match Nat.beq g g' with
    |true=>St.vec ⟨qt U.tmps t (.gj U.boxes.length (off*sz) sz len),U.boxes.set i (.rows false (g+1) sz [])++[.flat false (row::rs).flatten],U.y⟩ r
    |false=>St.vec U r
   |_=>St.vec U r
  |_=>St.vec U r
def AW:List (Pl×Nat)->Nat
 |[]=>0
 |(.slot _,_)::r=>AW r+1
 |(.cell _ _,_)::r=>AW r+1
 |(.uW _,_)::r=>AW r
 |(.swap _ _,_)::r=>AW r
 |(.free,_)::r=>AW r
 |(.rN _,_)::r=>AW r+1
def mG(i j k:Nat):Nat:=match Nat.beq k i with
 |true=>j
 |false=>match Nat.beq k j with
  |true=>i
  |false=>k
def Ni(f:Nat->Nat):List (Nat×D)->List (Nat×D)
 |[]=>[]
 |(t,d)::r=>(t,eg f d)::Ni f r
def St.swap(lo:Nat)(U:St)(i j:Nat):St:=
 match Nat.ble lo i,Nat.ble lo j,U.boxes[i]?,U.boxes[j]? with
 |true,true,some bi,some bj=>⟨Ni (mG i j) U.tmps,((U.boxes.set i bj).set j bi).map (af.eg (mG i j)),U.y⟩
 |_,_,_,_=>U
def St.rO(U:St)(lo:Nat):List (Pl×Nat)->St
 |[]=>U
 |(.slot _,_)::r=>St.rO U lo r
 |(.cell _ _,_)::r=>St.rO U lo r
 |(.uW t,sz)::r=>match look U.tmps t with
  |some .ao=>St.rO ⟨qt U.tmps t (.list sz []),U.boxes,U.y⟩ lo r
  |some (.sl i g off len)=>match reify U.boxes fuel (.sl i g off len)with
   |some d=>St.rO ⟨qt U.tmps t d,au U.boxes 0 [i],U.y⟩ lo r
   |none=>St.rO U lo r
  |_=>St.rO U lo r
 |(.swap i j,_)::r=>St.rO (St.swap lo U i j) lo r
 |(.free,_)::r=>St.rO U lo r
 |(.rN _,_)::r=>St.rO U lo r
def cF:List (Nat×Nat×Nat)->List (Pl×Nat)
 |[]=>[]
 |(i,off,sz)::r=>(.cell i off,sz)::cF r
def St.qu(U:St)(nb:Nat):Prop:=fF nb U.tmps=true/\aS nb U.boxes=true
def St.cl(U:St)(lo:Nat)(vs:List (Pl×Nat))(aE:List Nat)(nb:Nat):St:=match vs with
 |(.free,_)::_=>⟨il U.tmps aE,U.boxes,U.y⟩
 |vs=>(U.rO lo vs).clean aE nb
def St.gd(U:St)(lo:Nat)(vs:List (Pl×Nat))(aE:List Nat)(nb:Nat):Prop:=match vs with
 |(.free,_)::_=>True
 |vs=>((U.rO lo vs).clean aE nb).qu nb
def dS(o:Oper):Bool:=
 match o.op with
 |.binOp _ _ _ y _=>!(fU y)
 |.move _|.assign _|.pick .. |.alloc _|.box .. |.build .. |.buildSlice .. |.load .. |.nilCheck _|.unOp .. |.convert .. |.makeFunc .. |.makeSlice .. |.makeMap ..
 |.slice .. |.fieldAddr .. |.field .. |.indexAddr .. |.index .. |.extract ..=>true
 |.call c=>match c.callee with
  |.value _=>true
  |.builtin b=>match b with
   |.len|.min|.max=>true
   |_=>false
  |_=>false
 |_=>false
def isApp(o:Oper):Bool:=
 match o.op with
 |.call c=>match c.callee with
  |.builtin b=>match b with
   |.append=>true
   |_=>false
  |_=>false
 |_=>false
def AX(o:Oper):Bool:=dS o||isApp o
def uX(o:Oper):Bool:=match o.op with|.assign _=>true|_=>false
def yV(e:Edge):Bool:=match e.ground with|.gcOnly _|.textOnly _=>false|_=>true
def fm(o:Oper)(j:Nat):Bool:=o.after.toList.any λe=>Nat.beq e.on j&&(match e.ground with|.gcOnly _|.textOnly _=>false|_=>true)
def tmpsOf(o:Oper):List Nat:=o.op.operands.toList.filterMap λ|.tmp t=>some t|_=>none
def ny(ops:List Oper)(m:Nat):Bool:=
 let n:=ops.length
 let at_ (i:Nat):Oper:=ops.getD i default
 (List.range n).all (λi=>
  (at_ i).after.toList.all (λe=>Nat.blt e.on i||!(yV e))&&
  (match(at_ i).guard with|some (g,_)=>Nat.blt g i|none=>true)&&
  (Nat.blt i m||(List.range i).all (λj=>(List.range (i+1)).any λs=>Nat.blt j s&&fm (at_ s) j)))&&
 (List.range m).all (λi=>
  (List.range m).all (λj=>
   match(at_ j).dst with
   |some t=>(!((tmpsOf (at_ i)).contains t)||(Nat.blt j i&&fm (at_ i) j))&&(Nat.beq i j||(match(at_ i).dst with|some u=>!(Nat.beq u t)|none=>true))
   |none=>true)&&
  (match(at_ i).guard with|some (g,_)=>fm (at_ i) g|none=>true))
def ly(ops:List Oper):Bool:=
 ny ops (ops.takeWhile dS).length||ny ops (ops.takeWhile λo=>dS o&&!(uX o)).length
def oA(ops:List Oper)(m:Nat):Bool:=match Nat.ble m (ops.takeWhile dS).length with|true=>ny ops m|false=>false
def iJ(o:Oper):Bool:=
 match o.op with
 |.binOp _ _ _ y _=>!(fU y)
 |.move _|.assign _|.fieldAddr .. |.field .. |.extract .. |.load .. |.convert .. |.slice .. |.build .. |.indexAddr ..=>true
 |.call c=>match c.callee with
  |.builtin b=>match b with
   |.len|.min|.max=>true
   |_=>false
  |_=>false
 |_=>false
def jP:Op->Option (Nat->D)
 |.alloc _=>some λi=>.loc i 0
 |.box _ _=>some λi=>.loc i 0
 |.buildSlice _ len _=>match Nat.beq len 0 with|true=>none|false=>some λi=>.sl i 0 0 len
 |_=>none
def iZ:Op->Bool
 |.buildSlice _ len _=>Nat.beq len 0
 |_=>false
def xL(o:Oper):Bool:=match jP o.op with|some _=>true|none=>iZ o.op
def DI(o:Oper):Bool:=match iJ o with|true=>true|false=>xL o
def yW(o:Oper):Bool:=(match o.guard with|some _=>false|none=>true)&&(match iJ o with|true=>true|false=>xL o)
def xM(ops:List Oper):Nat->Nat
 |0=>0
 |j+1=>match iJ (ops.getD j default)with|true=>xM ops j|false=>xM ops j+1
def yX(o:Oper):Bool:=
 match o.op with
 |.store ..=>true
 |_=>dS o||isApp o
def jy(ops:List Oper)(m:Nat)(late:List Nat):Bool:=
 let n:=ops.length
 let at_ (i:Nat):Oper:=ops.getD i default
 Nat.ble m (ops.takeWhile AX).length&&
 (List.range n).all (λi=>
  (at_ i).after.toList.all (λe=>Nat.blt e.on i||!(yV e))&&
  (match(at_ i).guard with|some (g,_)=>Nat.blt g i&&Nat.blt i m|none=>true)&&
  (Nat.blt i m||(yX (at_ i)&&!(fj ops i)&&
   (List.range i).all (λj=>late.contains j||(List.range (i+1)).any λs=>Nat.blt j s&&(fm (at_ s) j&&(Nat.beq s i||!(late.contains s))))&&
   (List.range i).all (λj=>match(at_ j).dst with
    |some t=>(Nat.ble m j&&!(late.contains j))||((!((tmpsOf (at_ i)).contains t)||!(late.contains j)||fm (at_ i) j)&&(match(at_ i).dst with|some u=>!(Nat.beq u t)|none=>true))
    |none=>true))))&&
 (List.range m).all (λi=>
  (List.range m).all (λj=>
   match(at_ j).dst with
   |some t=>(!((tmpsOf (at_ i)).contains t)||(Nat.blt j i&&fm (at_ i) j))&&(Nat.beq i j||(match(at_ i).dst with|some u=>!(Nat.beq u t)|none=>true))
   |none=>true)&&
  (match(at_ i).guard with|some (g,_)=>fm (at_ i) g|none=>true))&&
 late.all λj=>(match(at_ j).guard with|some _=>false|none=>true)&&(match Nat.blt j m with
  |true=>DI (at_ j)&&(match iZ (at_ j).op with|true=>(List.range j).all λs=>yW (at_ s)|false=>true)
  |false=>Nat.blt m j&&(iJ (at_ j)&&late.all λi=>Nat.blt j i||(match(at_ j).dst with|some t=>!((tmpsOf (at_ i)).contains t)|none=>true)))
def Jm(f:Nat->Nat)(e:Edge):Edge:={e with on:=f e.on}
def xN(f:Nat->Nat)(o:Oper):Oper:={o with after:=(o.after.toList.map (Jm f)).toArray,guard:=match o.guard with|some x=>some (f x.1,x.2)|none=>none}
def rP:List Nat->Nat->Nat
 |[],_=>0
 |i::r,j=>match Nat.beq i j with|true=>0|false=>rP r j+1
def e7(ops:List Oper)(p:List Nat):List Oper:=p.map λi=>xN (rP p) (ops.getD i default)
def rQ(n:Nat)(p:List Nat):Bool:=Nat.beq p.length n&&(iP p&&((p.all λi=>Nat.blt i n)&&(List.range n).all λi=>p.contains i))
def still(U:St)(o:Oper):Prop:=
 dC T C U o λe=>match e,o.dst with
  |.val d,some t=>look U.tmps t=some d
  |.val _,none=>True
  |.new b mk,some t=>∃n,look U.tmps t=some (mk n)/\U.boxes[n]?=some b
  |_,_=>False
def uY(ops:List Oper)(nb:Nat)(U:St)(j:Nat):Prop:=match iZ (ops.getD j default).op with
 |false=>still T C U (ops.getD j default)
 |true=>dC T C U (ops.getD j default) λe=>match e,(ops.getD j default).dst with
  |.new b mk,some t=>look U.tmps t=some (mk 0)/\U.boxes[nb+xM ops j]?=some b
  |_,_=>False
def cI(ops:List Oper)(nb:Nat)(U:St):List Nat->Prop
 |[]=>True
 |j::r=>uY T C ops nb U j/\cI ops nb U r
def bN(o:Oper):List Nat->List Nat
 |[]=>[]
 |j::r=>match fm o j with|true=>bN o r|false=>j::bN o r
def na(m:Nat):List Nat->List Nat
 |[]=>[]
 |j::r=>match Nat.blt j m with|true=>j::na m r|false=>na m r
def xO(r:List Oper)(late:List Nat)(p:Prop):Prop:=match r,late with
 |[],[]=>p
 |_,_=>False
def cB(ops:List Oper)(nb:Nat)(all:List Nat):Nat->List Nat->List Oper->St->(St->Prop)->Prop
 |_,_,[],U,K=>K U
 |i,late,o::r,U,K=>match all.contains i with
  |true=>dC T C U o λe=>match e with
   |.val d=>fP U o.dst (.val d) λU=>cI T C ops nb U (i::late)/\cB ops nb all (i+1) (i::late) r U K
   |_=>False
  |false=>dC T C U o λe=>match e with
   |.val d=>fP U o.dst (.val d) λU=>cI T C ops nb U (bN o late)/\cB ops nb all (i+1) (bN o late) r U K
   |.set i' b d=>fP U o.dst (.set i' b d) λU=>cI T C ops nb U (bN o late)/\cB ops nb all (i+1) (bN o late) r U K
   |.res d as=>fP U o.dst (.res d as) λU=>cI T C ops nb U (bN o late)/\cB ops nb all (i+1) (bN o late) r U K
   |.new b mk=>fP U o.dst (.new b mk) λU=>cI T C ops nb U (bN o late)/\cB ops nb all (i+1) (bN o late) r U K
   |.eo b mk L=>fP U o.dst (.eo b mk L) λU=>cI T C ops nb U (bN o late)/\cB ops nb all (i+1) (bN o late) r U K
   |.dJ d bs y=>xO r (bN o late) (fP U o.dst (.dJ d bs y) K)
   |_=>False
def O7(x:List D):Bool:=
 match x with
 |[.pO ks us]=>match bT ks with|true=>bT us|false=>false
 |x=>bT x
def Qp:D->Bool
 |.list _ rows=>rows.all bT
 |d=>plain d
def Uz:D->Bool
 |.agg cs=>cs.all Qp
 |d=>Qp d
def Zw(ls:Bool)(x:List D):Bool:=match ls with
 |false=>O7 x
 |true=>x.all Uz
def O8:D->Bool
 |.loc _ _|.bH _ _|.bM _ _ _ _|.sl _ _ _ _|.gj _ _ _ _|.cn _|.iY _|.j8 _|.gp _ _=>true
 |d=>plain d
def xP(d:D):D:=match O8 d with
 |true=>d
 |false=>.eL
def TT:af->af
 |.flat fz cs=>.flat fz (cs.map xP)
 |.rows fz g sz rs=>.rows fz g sz (rs.map (·.map xP))
 |.map fz ks vs=>.map fz (ks.map xP) (vs.map xP)
 |.aA fz s pos=>.aA fz s pos
 |.aJ fz i ks vs seen=>.aJ fz i (ks.map xP) (vs.map xP) seen
def yY:List (Nat×List D)->List af->List af
 |[],bs=>bs.map TT
 |(i,cs)::r,bs=>(yY r bs).set i (.flat true cs)
def G5(ls:Bool)(kp:List (Nat×List D))(bs:List af):List af:=match ls with
 |false=>bs
 |true=>yY kp bs
def FM(nb:Nat)(bs:List af):List (Nat×List D)->Prop
 |[]=>True
 |(i,cs)::r=>(bs[i]?=some (.flat true cs)/\cu cs=true/\0<cs.length/\i<nb)/\FM nb bs r
def Jn(ps:List Nat)(x:List D)(tm:List (Nat×D))(bs:List af)(y:eG):St:=
 match x with
 |[.pO ks us]=>⟨dL ps [.cn bs.length] tm,bs++[.map false ks us],y⟩
 |x=>⟨dL ps x tm,bs,y⟩
def yZ(ps:List Nat)(x:List D)(tm:List (Nat×D))(bs:List af)(y:eG)(k:St->Prop):Prop:=
 match x with
 |[.pO ks us]=>DD bs.length λn=>ig (bs++[.map false ks us]) λbs=>k ⟨dL ps [.cn n] tm,bs,y⟩
 |x=>k ⟨dL ps x tm,bs,y⟩
theorem Nj(ps:List Nat)(x:List D)(tm:List (Nat×D))(bs:List af)(y:eG)(k:St->Prop):yZ ps x tm bs y k=k (Jn ps x tm bs y):=by
 unfold yZ Jn;split
 .simp only[ba,cg]
 rfl
noncomputable def panics(l:List Oper):Bool:=
 List.rec (motive:=λ_=>Bool) false (λo r ih=>match r with
  |[]=>(match o.op with
   |.panic _=>true
   |.call c=>(match c.callee with
    |.value (.func f)=>(match C.sh f with|true=>C.nw f|false=>false)
    |_=>false)
   |_=>false)
  |_::_=>ih) l
def uZ(u:Nat):List (Nat×D)->List (Nat×D)
 |[]=>[]
 |(t,d)::r=>match Nat.beq t u with|true=>uZ u r|false=>(t,d)::uZ u r
theorem l8{u t:Nat}{d:D}:∀{l:List (Nat×D)},look (uZ u l) t=some d->t≠u/\look l t=some d
 |[],h=>by cases h
 |(k,e)::r,h=>by
  unfold uZ at h;split at h
  .rename_i hb
   have hb:=Nat.eq_of_beq_eq_true hb;subst hb;obtain⟨h1,h2⟩:=l8 h;refine⟨h1,?_⟩;simp only[look];rw[show Nat.beq k t=false from Bool.eq_false_iff.2 λhh=>h1 (Nat.eq_of_beq_eq_true hh).symm];exact h2
  rename_i hb;simp only[look]at h⊢;split at h
  .rename_i jQ
   have jQ:=Nat.eq_of_beq_eq_true jQ;subst jQ;refine⟨λe2=>?_,h⟩;subst e2;simp at hb
  exact l8 h
def xj(U:St)(o:Oper)(Q:Ex->St->Prop):Prop:=
 match o.guard,o.op with
 |none,.call c=>match c.callee with
  |.value f=>match U.ev f,U.jv c.args.toList with
   |some (.bR (.func fk) fs cs),some as=>∃rs,fi U.boxes (fs++(as++cs))=some rs/\∃v,C.Qn fk rs v/\match v with
    |none=>(∀t,o.dst=some t->look U.tmps t=none)/\Q .normal U
    |some v=>Q (.panic v) U
   |_,_=>False
  |_=>False
 |_,_=>False
def G6(run:List Oper->St->(St->Prop)->Prop)(ops:List Oper)(U:St)(Q:Ex->St->Prop):Prop:=
 match ops with
 |[o1,o2]=>(match o1.op,o2.op,o1.guard,o2.guard,o1.dst with
  |.makeInterface t (.const (.int k n)),.panic (.tmp u),none,none,some u'=>u=u'/\(∃ti kd,T t=some ti/\ti.desc=.int kd)/\Q (.panic (.iface t (.int k n))) ⟨uZ u U.tmps,U.boxes,U.y⟩
  |_,_,_,_,_=>run [o1] U λτ=>xj C τ o2 Q)
 |ops=>run ops.dropLast U λτ=>match ops.getLast? with
  |some o=>xj C τ o Q
  |none=>False
def DJ(kf:Nat)(cs:List D)(ps:List Nat)(lo:Nat)(U:St)(Q:Ex->St->Prop)(wa wc:Nat->St->(Ex->St->Prop)->Prop):Prop:=
 ∃(m:Nat)(FN:List D)(Ja:List af),mY (λi=>i+m) FN=cs/\Ja.map (af.eg λi=>i+m)=U.boxes.drop m/\DC Ja=true/\∃xs,It.itx kf FN Ja xs/\
  ∃(aE:List Nat)(nb:Nat)(vs:List (Nat×Nat×Nat))(Inv:Nat->List af->eG->Prop),Nat.ble nb m=true/\Nat.ble lo nb=true/\(U.clean aE nb).qu nb/\
   Inv 0 (St.vec (U.clean aE nb) (cF vs)).boxes U.y/\
   (∀i x bs y,xs[i]?=some x->Inv i bs y->yZ ps x (U.clean aE nb).tmps bs y λσ₀=>wa (nb+vs.length) σ₀ λe σ₁=>match e with
    |.normal=>wc (nb+vs.length) σ₁ λe σ₂=>match e with
     |.normal=>aS (nb+vs.length) (σ₂.boxes.take (nb+vs.length))=true/\Inv (i+1) (σ₂.boxes.take (nb+vs.length)) σ₂.y
     |.exit id=>Q (.exit id) ⟨(U.clean aE nb).tmps,σ₂.boxes,σ₂.y⟩
     |.ret=>Q .ret ⟨(U.clean aE nb).tmps,σ₂.boxes,σ₂.y⟩
     |.panic _=>False
    |_=>False)/\
   (∀x,x∈xs->x.length=ps.length/\O7 x=true)/\
   ∀bs y,Inv xs.length bs y->Q .normal ⟨(U.clean aE nb).tmps,bs,y⟩
def DK(kf:Nat)(cs:List D)(ps:List Nat)(lo:Nat)(U:St)(Q:Ex->St->Prop)(wa wc:Nat->St->(Ex->St->Prop)->Prop):Prop:=
 ∃rs,fi U.boxes cs=some rs/\∃xs,It.it kf rs xs/\∃(kp:List (Nat×List D))(nb:Nat)(vs:List (Nat×Nat×Nat))(Inv:Nat->List af->eG->Prop)(Nk O9:List af),
  Nat.ble lo nb=true/\fF nb U.tmps=true/\(au U.boxes 0 (cs.flatMap (aF U.boxes fuel))).take nb=Nk/\aS nb Nk=true/\au (St.vec ⟨U.tmps,Nk,U.y⟩ (cF vs)).boxes 0 (kp.map (·.1))=O9/\FM nb O9 kp/\Inv 0 O9 U.y/\
  (∀i x bs y,xs[i]?=some x->Inv i bs y->yZ ps x U.tmps bs y λσ₀=>wa (nb+vs.length) σ₀ λe σ₁=>match e with
   |.normal=>wc (nb+vs.length) σ₁ λe σ₂=>match e with
    |.normal=>aS (nb+vs.length) ((yY kp σ₂.boxes).take (nb+vs.length))=true/\Inv (i+1) ((yY kp σ₂.boxes).take (nb+vs.length)) σ₂.y
    |.exit id=>Q (.exit id) ⟨U.tmps,yY kp σ₂.boxes,σ₂.y⟩
    |.ret=>Q .ret ⟨U.tmps,yY kp σ₂.boxes,σ₂.y⟩
    |.panic _=>False
   |_=>False)/\
  (∀x,x∈xs->x.length=ps.length/\x.all Uz=true)/\
  ∀bs y,Inv xs.length bs y->Q .normal ⟨U.tmps,bs,y⟩
def W:Nat->Code->St->(Ex->St->Prop)->Prop
 |_,.skip,U,Q=>Q .normal U
 |lo,.region _ ops dr,U,Q=>
  match dr with
  |false=>match panics C ops.toList with
   |false=>aL T C (oX lo) ops.toList ops.toList 0 U λσ'=>Q .normal σ'
   |true=>G6 T C (λl U K=>aL T C (oX lo) ops.toList l 0 U K) ops.toList U Q
  |true=>(ly ops.toList=true/\aL T C mZ ops.toList ops.toList 0 U λσ'=>Q .normal σ')\/
      ((∃(m:Nat)(late:List Nat),jy ops.toList m late=true/\aL T C tR ops.toList (ops.toList.take m) 0 U λτ=>cB T C ops.toList U.boxes.length late m (na m late) (ops.toList.drop m) τ λσ'=>Q .normal σ')\/
      ((∃(p:List Nat)(m:Nat)(late:List Nat),(rQ ops.toList.length p&&jy (e7 ops.toList p) m late)=true/\aL T C tR (e7 ops.toList p) ((e7 ops.toList p).take m) 0 U λτ=>cB T C (e7 ops.toList p) U.boxes.length late m (na m late) ((e7 ops.toList p).drop m) τ λσ'=>Q .normal σ')\/
      (∃m:Nat,oA ops.toList m=true/\aL T C mZ ops.toList (ops.toList.take m) 0 U λτ=>aL T C xi ops.toList (ops.toList.drop m) m τ λσ'=>Q .normal σ')\/
      (∃(aE:List Nat)(τ:St),l7 T C ops.toList (ops.toList.length+1) [] U (λσ'=>(⟨il σ'.tmps aE,σ'.boxes,σ'.y⟩:St)=τ)/\Q .normal τ)))
 |lo,.seq a b,U,Q=>W lo a U λe σ'=>match e with
  |.normal=>W lo b σ' Q
  |.exit id=>Q (.exit id) σ'
  |.ret=>Q .ret σ'
  |.panic v=>Q (.panic v) σ'
 |lo,.cond c a b,U,Q=>match U.ev c with
  |some .tt=>W lo a U Q
  |some .ff=>W lo b U Q
  |some (.bool t)=>(t=true->W lo a U Q)/\(t=false->W lo b U Q)
  |_=>False
 |lo,.block id c,U,Q=>W lo c U λe σ'=>match e with
  |.normal=>Q .normal σ'
  |.exit DL=>match Nat.beq DL id with
   |true=>Q .normal σ'
   |false=>Q (.exit DL) σ'
  |.ret=>Q .ret σ'
  |.panic v=>Q (.panic v) σ'
 |lo,.loop c,U,Q=>∃(aE:List Nat)(nb:Nat)(vs:List (Pl×Nat))(Inv:St->Prop)(μ:St->Nat),
    Nat.ble lo nb=true/\U.gd lo vs aE nb/\Inv ((U.cl lo vs aE nb).vec vs)/\
    ∀σ',Inv σ'->W lo c σ' λe uu=>match e with
     |.normal=>uu.gd lo vs aE (nb+AW vs)/\Inv (uu.cl lo vs aE (nb+AW vs))/\μ (uu.cl lo vs aE (nb+AW vs))<μ σ'
     |.exit id=>Q (.exit id) uu
     |.ret=>Q .ret uu
     |.panic v=>Q (.panic v) uu
 |_,.exit id,U,Q=>Q (.exit id) U
 |_,.ret,U,Q=>Q .ret U
 |_,.label _,U,Q=>Q .normal U
 |lo,.scope c,U,Q=>W lo c U Q
 |_,.goto _,_,_=>False
 |lo,.rangeFunc f ps as c,U,Q=>match U.ev f with
  |some (.bR (.func kf) fs cs)=>fs=[]/\match It.sh kf with
   |true=>DJ It kf cs ps.toList lo U Q (λlo U Q=>W lo as U Q) (λlo U Q=>W lo c U Q)
   |false=>match It.ls kf with
    |true=>DK It kf cs ps.toList lo U Q (λlo U Q=>W lo as U Q) (λlo U Q=>W lo c U Q)
    |false=>∃rs,fi U.boxes cs=some rs/\∃xs,It.it kf rs xs/\∃(nb:Nat)(vs:List (Nat×Nat×Nat))(Inv:Nat->List af->eG->Prop),
     Nat.ble lo nb=true/\fF nb U.tmps=true/\aS nb ((au U.boxes 0 (cs.flatMap (aF U.boxes fuel))).take nb)=true/\
     Inv 0 (St.vec ⟨U.tmps,(au U.boxes 0 (cs.flatMap (aF U.boxes fuel))).take nb,U.y⟩ (cF vs)).boxes U.y/\
     (∀i x bs y,xs[i]?=some x->Inv i bs y->yZ ps.toList x U.tmps bs y λσ₀=>W (nb+vs.length) as σ₀ λe σ₁=>match e with
      |.normal=>W (nb+vs.length) c σ₁ λe σ₂=>match e with
       |.normal=>aS (nb+vs.length) (σ₂.boxes.take (nb+vs.length))=true/\Inv (i+1) (σ₂.boxes.take (nb+vs.length)) σ₂.y
       |.exit id=>Q (.exit id) ⟨U.tmps,σ₂.boxes,σ₂.y⟩
       |.ret=>Q .ret ⟨U.tmps,σ₂.boxes,σ₂.y⟩
       |.panic _=>False
      |_=>False)/\
     (∀x,x∈xs->x.length=ps.size/\O7 x=true)/\
     ∀bs y,Inv xs.length bs y->Q .normal ⟨U.tmps,bs,y⟩
  |_=>False
 |_,.refuse _,_,_=>False
def Zy:Nat->St->(St->Prop)->Prop:=λ_ U K=>K U
def Pa(fb:bE->Bool)(ops:List Oper)(o:Oper)(_:List Oper)(ih:Nat->St->(St->Prop)->Prop):Nat->St->(St->Prop)->Prop:=λi U K=>
 match o.guard with
 |none=>ik T C fb (fj ops i) U o λσ'=>ih (i+1) σ' K
 |some (j,want)=>
  match cq ops U j with
  |true=>ih (i+1) (U.put o.dst .j7) K
  |false=>
   match guardOf ops U j,want with
   |some true,true=>ik T C fb (fj ops i) U o λσ'=>ih (i+1) σ' K
   |some false,false=>ik T C fb (fj ops i) U o λσ'=>ih (i+1) σ' K
   |some true,false=>ih (i+1) (U.put o.dst .j7) K
   |some false,true=>ih (i+1) (U.put o.dst .j7) K
   |none,_=>False
def xk(fb:bE->Bool)(ops l:List Oper):Nat->St->(St->Prop)->Prop:=
 List.rec (motive:=λ_=>Nat->St->(St->Prop)->Prop) Zy (Pa T C fb ops) l
theorem FO(fb:bE->Bool)(ops:List Oper):∀l,xk T C fb ops l=aL T C fb ops l
 |[]=>rfl
 |o::rest=>by
  have ih:=FO fb ops rest;have e:xk T C fb ops (o::rest)=Pa T C fb ops o rest (xk T C fb ops rest):=rfl;rw[e,ih];funext i U K;rfl
def Zz:Nat->List Nat->St->(St->Prop)->Prop:=λ_ _ U K=>K U
def Pb(ops:List Oper)(nb:Nat)(all:List Nat)(o:Oper)(r:List Oper)(ih:Nat->List Nat->St->(St->Prop)->Prop):Nat->List Nat->St->(St->Prop)->Prop:=λi late U K=>
 match all.contains i with
 |true=>dC T C U o λe=>match e with
  |.val d=>fP U o.dst (.val d) λU=>cI T C ops nb U (i::late)/\ih (i+1) (i::late) U K
  |_=>False
 |false=>dC T C U o λe=>match e with
  |.val d=>fP U o.dst (.val d) λU=>cI T C ops nb U (bN o late)/\ih (i+1) (bN o late) U K
  |.set i' b d=>fP U o.dst (.set i' b d) λU=>cI T C ops nb U (bN o late)/\ih (i+1) (bN o late) U K
  |.res d as=>fP U o.dst (.res d as) λU=>cI T C ops nb U (bN o late)/\ih (i+1) (bN o late) U K
  |.new b mk=>fP U o.dst (.new b mk) λU=>cI T C ops nb U (bN o late)/\ih (i+1) (bN o late) U K
  |.eo b mk L=>fP U o.dst (.eo b mk L) λU=>cI T C ops nb U (bN o late)/\ih (i+1) (bN o late) U K
  |.dJ d bs y=>xO r (bN o late) (fP U o.dst (.dJ d bs y) K)
  |_=>False
def A1(ops:List Oper)(nb:Nat)(all:List Nat)(i:Nat)(late:List Nat)(l:List Oper):St->(St->Prop)->Prop:=
 List.rec (motive:=λ_=>Nat->List Nat->St->(St->Prop)->Prop) Zz (Pb T C ops nb all) l i late
theorem A2(ops:List Oper)(nb:Nat)(all:List Nat):∀(l:List Oper)(i:Nat)(late:List Nat),A1 T C ops nb all i late l=cB T C ops nb all i late l
 |[],_,_=>rfl
 |o::rest,i,late=>by
  have ih:=A2 ops nb all rest;have e:A1 T C ops nb all i late (o::rest)=Pb T C ops nb all o rest (λi late=>A1 T C ops nb all i late rest) i late:=rfl;rw[e];simp only[ih];funext U K;rfl
abbrev u0:=Nat->St->(Ex->St->Prop)->Prop
def UA:u0:=λ_ U Q=>Q .normal U
def y0(_:Nat)(ops:Array Oper)(dr:Bool):u0:=λlo U Q=>
 match dr with
 |false=>match panics C ops.toList with
  |false=>xk T C (oX lo) ops.toList ops.toList 0 U λσ'=>Q .normal σ'
  |true=>G6 T C (λl U K=>xk T C (oX lo) ops.toList l 0 U K) ops.toList U Q
 |true=>(ly ops.toList=true/\xk T C mZ ops.toList ops.toList 0 U λσ'=>Q .normal σ')\/
     ((∃(m:Nat)(late:List Nat),jy ops.toList m late=true/\xk T C tR ops.toList (ops.toList.take m) 0 U λτ=>A1 T C ops.toList U.boxes.length late m (na m late) (ops.toList.drop m) τ λσ'=>Q .normal σ')\/
     ((∃(p:List Nat)(m:Nat)(late:List Nat),(rQ ops.toList.length p&&jy (e7 ops.toList p) m late)=true/\xk T C tR (e7 ops.toList p) ((e7 ops.toList p).take m) 0 U λτ=>A1 T C (e7 ops.toList p) U.boxes.length late m (na m late) ((e7 ops.toList p).drop m) τ λσ'=>Q .normal σ')\/
     (∃m:Nat,oA ops.toList m=true/\xk T C mZ ops.toList (ops.toList.take m) 0 U λτ=>xk T C xi ops.toList (ops.toList.drop m) m τ λσ'=>Q .normal σ')\/
     (∃(aE:List Nat)(τ:St),l7 T C ops.toList (ops.toList.length+1) [] U (λσ'=>(⟨il σ'.tmps aE,σ'.boxes,σ'.y⟩:St)=τ)/\Q .normal τ)))
def UB(_ _:Code)(wa wb:u0):u0:=λlo U Q=>wa lo U λe σ'=>match e with
 |.normal=>wb lo σ' Q
 |.exit id=>Q (.exit id) σ'
 |.ret=>Q .ret σ'
 |.panic v=>Q (.panic v) σ'
def Pc(c:Operand)(_ _:Code)(wa wb:u0):u0:=λlo U Q=>match U.ev c with
 |some .tt=>wa lo U Q
 |some .ff=>wb lo U Q
 |some (.bool t)=>(t=true->wa lo U Q)/\(t=false->wb lo U Q)
 |_=>False
def Jo(id:Nat)(_:Code)(wc:u0):u0:=λlo U Q=>wc lo U λe σ'=>match e with
 |.normal=>Q .normal σ'
 |.exit DL=>match Nat.beq DL id with
  |true=>Q .normal σ'
  |false=>Q (.exit DL) σ'
 |.ret=>Q .ret σ'
 |.panic v=>Q (.panic v) σ'
def Pd(_:Code)(wc:u0):u0:=λlo U Q=>∃(aE:List Nat)(nb:Nat)(vs:List (Pl×Nat))(Inv:St->Prop)(μ:St->Nat),
 Nat.ble lo nb=true/\U.gd lo vs aE nb/\Inv ((U.cl lo vs aE nb).vec vs)/\
 ∀σ',Inv σ'->wc lo σ' λe uu=>match e with
  |.normal=>uu.gd lo vs aE (nb+AW vs)/\Inv (uu.cl lo vs aE (nb+AW vs))/\μ (uu.cl lo vs aE (nb+AW vs))<μ σ'
  |.exit id=>Q (.exit id) uu
  |.ret=>Q .ret uu
  |.panic v=>Q (.panic v) uu
def Jp(f:Operand)(ps:Array Nat)(_ _:Code)(wa wc:u0):u0:=λlo U Q=>match U.ev f with
 |some (.bR (.func kf) fs cs)=>fs=[]/\match It.sh kf with
  |true=>DJ It kf cs ps.toList lo U Q wa wc
  |false=>match It.ls kf with
   |true=>DK It kf cs ps.toList lo U Q wa wc
   |false=>∃rs,fi U.boxes cs=some rs/\∃xs,It.it kf rs xs/\∃(nb:Nat)(vs:List (Nat×Nat×Nat))(Inv:Nat->List af->eG->Prop),
    Nat.ble lo nb=true/\fF nb U.tmps=true/\aS nb ((au U.boxes 0 (cs.flatMap (aF U.boxes fuel))).take nb)=true/\
    Inv 0 (St.vec ⟨U.tmps,(au U.boxes 0 (cs.flatMap (aF U.boxes fuel))).take nb,U.y⟩ (cF vs)).boxes U.y/\
    (∀i x bs y,xs[i]?=some x->Inv i bs y->yZ ps.toList x U.tmps bs y λσ₀=>wa (nb+vs.length) σ₀ λe σ₁=>match e with
     |.normal=>wc (nb+vs.length) σ₁ λe σ₂=>match e with
      |.normal=>aS (nb+vs.length) (σ₂.boxes.take (nb+vs.length))=true/\Inv (i+1) (σ₂.boxes.take (nb+vs.length)) σ₂.y
      |.exit id=>Q (.exit id) ⟨U.tmps,σ₂.boxes,σ₂.y⟩
      |.ret=>Q .ret ⟨U.tmps,σ₂.boxes,σ₂.y⟩
      |.panic _=>False
     |_=>False)/\
    (∀x,x∈xs->x.length=ps.size/\O7 x=true)/\
    ∀bs y,Inv xs.length bs y->Q .normal ⟨U.tmps,bs,y⟩
 |_=>False
def UC(id:Nat):u0:=λ_ U Q=>Q (.exit id) U
def Jq(_:Code)(wc:u0):u0:=λlo U Q=>wc lo U Q
def Qr(_:Nat):u0:=λ_ U Q=>Q .normal U
def UD(_:Nat):u0:=λ_ _ _=>False
def ZA:u0:=λ_ U Q=>Q .ret U
def Nl(_:String):u0:=λ_ _ _=>False
def WR(c:Code):u0:=
 Code.rec (motive:=λ_=>u0) UA (y0 T C) UB Pc Jo Pd (Jp It) UC Jq Qr UD ZA Nl c
theorem sU:∀c:Code,WR T C It c=λlo U Q=>W T C It lo c U Q:=by
 intro c
 induction c with
 |skip=>rfl
 |region id ops dr=>
  funext lo U Q;show y0 T C id ops dr lo U Q=_;unfold y0;simp only[FO,A2];cases dr<;>rfl
 |seq a b ql FP=>
  show UB a b (WR T C It a) (WR T C It b)=_;rw[ql,FP];rfl
 |cond x a b ql FP=>
  show Pc x a b (WR T C It a) (WR T C It b)=_;rw[ql,FP];rfl
 |block id x ih=>
  show Jo id x (WR T C It x)=_;rw[ih];rfl
 |loop x ih=>
  show Pd x (WR T C It x)=_;rw[ih];rfl
 |rangeFunc f ps as x ql Jb=>
  show Jp It f ps as x (WR T C It as) (WR T C It x)=_;rw[ql,Jb];rfl
 |exit id=>rfl
 |scope x ih=>
  show Jq x (WR T C It x)=_;rw[ih];rfl
 |label l=>rfl
 |goto l=>rfl
 |ret=>rfl
 |refuse o7=>rfl
def DM(U:St):ResultVar->Option D
 |.tmp t=>look U.tmps t
 |.cell a t=>match T t,look U.tmps a with
  |some ti,some (.loc i off)=>match U.boxes[i]? with
   |some (.flat _ cells)=>match ti.agg with
    |true=>cQ cells off ti.size
    |false=>cells[off]?
   |_=>none
  |_,_=>none
def A3(U:St):List ResultVar->Option (List D)
 |[]=>some []
 |r::rs=>match DM T U r with
  |none=>none
  |some d=>match A3 U rs with
   |none=>none
   |some l=>some (d::l)
def resultD(fn:Func)(U:St):Option D:=
 match A3 T U fn.results.toList with
 |none=>none
 |some l=>match l with
  |[d]=>reify U.boxes fuel d
  |l=>reify U.boxes fuel (.b9 l)
def kZ:List D->Nat->List (Nat×D)
 |[],_=>[]
 |d::r,i=>(i,d)::kZ r (i+1)
def Body(fn:Func)(args:List D)(d:D):Prop:=
 match fn.body with
 |some c=>ig (kZ args 0) λtm=>WR T C It c 0 ⟨tm,[],.aQ⟩ λe U=>match e with
  |.exit _=>False
  |.panic _=>False
  |_=>resultD T fn U=some d
 |none=>False
def Jr:D->D
 |.tt=>.bool true
 |.ff=>.bool false
 |d=>d
inductive Wk:D->D->Prop
 |refl (d:D):Wk d d
 |nil (a b:Nat):Wk (.list a []) (.list b [])
 |rows (sz:Nat) (rows:List (List D)):Wk (.list sz rows) (.list sz (rows.map (·.map Jr)))
 |eL (d:D):Wk d .eL
 |Qs:Wk (.b9 []) (.b9 [])
 |u6 {a b:D} {r s:List D}:Wk a b->Wk (.b9 r) (.b9 s)->Wk (.b9 (a::r)) (.b9 (b::s))
def nz(fn:Func)(args:List D)(xs:List (List D)):Prop:=
 match fn.body with
 |some c=>∀l,ig (kZ (.j8 l::args) 0) λtm=>WR T C It c 0 ⟨tm,[],.rem l xs⟩ λe U=>match e,U.y with
  |.exit _,_=>False
  |.panic _,_=>False
  |_,.rem _ []=>fn.results.toList.length=0
  |_,.gk=>fn.results.toList.length=0
  |_,_=>False
 |none=>False
def oC(fn:Func)(U:St):Option D:=
 match A3 T U fn.results.toList with
 |none=>none
 |some l=>match l with
  |[d]=>some d
  |l=>some (.b9 l)
def A4(fn:Func)(args:List D)(bs:List af)(y:eG)(Q:D->List af->eG->Prop):Prop:=
 match fn.body with
 |some c=>ig (kZ args 0) λtm=>WR T C It c bs.length ⟨tm,bs,y⟩ λe U=>match e with
  |.exit _=>False
  |.panic _=>False
  |_=>∃d,oC T fn U=some d/\Q d U.boxes U.y
 |none=>False
end
end Go.V
