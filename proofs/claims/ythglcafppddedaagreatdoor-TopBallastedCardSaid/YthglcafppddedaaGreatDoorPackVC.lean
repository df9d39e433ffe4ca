/- What ballasted_holds leans on, part VC. No condition. -/
import Derived.Test.YthglcafppddedaaGreatDoorPackVB
import Derived.Test.YthglcafppddedaaGreatDoorPackUJ

set_option linter.all false
namespace Go.V
open Go.RowKit
abbrev RZ:=D×List af
abbrev KZ:=Nat->D->List af->Option RZ
structure ZP where
 T:Nat->Option TI
 C:xa
 cal:Nat->List D->Option D
 calY:Nat->List D->List af->Option (D×List af)
def ZP.lW(P:ZP)(k:Nat)(as:List D)(bs:List af)(y:eG):Option (D×List af×eG):=
 match y with
 |.aQ=>match P.calY k as bs with
  |some (d,bu)=>some (d,bu,.aQ)
  |none=>none
 |_=>none
noncomputable def oB{α β:Type}(o:Option α)(f:α->Option β):Option β:=@Option.rec α (λ_=>Option β) none f o
theorem aD{α β:Type}{o:Option α}{f:α->Option β}{b:β}(h:oB o f=some b):∃a,o=some a/\f a=some b:=by
 cases o with
 |none=>cases h
 |some a=>exact⟨a,rfl,h⟩
noncomputable def bI{β:Type}(b:Bool)(x:Option β):Option β:=@Bool.rec (λ_=>Option β) none x b
theorem a8{β:Type}{b:Bool}{x:Option β}{r:β}(h:bI b x=some r):b=true/\x=some r:=by
 cases b with
 |false=>cases h
 |true=>exact⟨rfl,h⟩
theorem aX{R:Type}{b:Bool}{x:Option R}{r:R}(h:b=true)(hx:x=some r):ah b x=some r:=by subst h;exact hx
noncomputable def Ch(tm:List (Nat×D)):Nat->Option D:=
 List.rec (motive:=λ_=>Nat->Option D) (λ_=>none) (λp _ ih t=>@Bool.rec (λ_=>Option D) (ih t) (some p.2) (Nat.beq p.1 t)) tm
theorem wo:∀(tm:List (Nat×D))(t:Nat),Ch tm t=look tm t
 |[],_=>rfl
 |(k,d)::r,t=>by
  show@Bool.rec (λ_=>Option D) (Ch r t) (some d) (Nat.beq k t)=(match Nat.beq k t with|true=>some d|false=>look r t);rw[wo r t];cases Nat.beq k t<;>rfl
noncomputable def fR{α:Type}(l:List α):Nat->Option α:=
 List.rec (motive:=λ_=>Nat->Option α) (λ_=>none) (λa _ ih n=>Nat.rec (motive:=λ_=>Option α) (some a) (λm _=>ih m) n) l
theorem ez{α:Type}:∀(l:List α)(n:Nat),fR l n=l[n]?
 |[],_=>by simp[fR]
 |a::r,0=>by show some a=_;simp
 |a::r,n+1=>by
  show fR r n=_;rw[ez r n];simp
noncomputable def mR(x:Operand)(tm:List (Nat×D)):Option D:=
 Operand.rec (motive:=λ_=>List (Nat×D)->Option D) (λt tm=>Ch tm t) (λv _=>ofConst v) (λg _=>some (.gp g 0)) (λf _=>some (.bR (.func f) [] [])) x tm
theorem eF(x:Operand)(tm:List (Nat×D))(bs:List af)(y:eG):mR x tm=St.ev ⟨tm,bs,y⟩ x:=by
 cases x<;>first|exact wo _ _|rfl
noncomputable def xF(l:List Operand):List (Nat×D)->Option (List D):=
 List.rec (motive:=λ_=>List (Nat×D)->Option (List D)) (λ_=>some []) (λx _ ih tm=>oB (mR x tm) λd=>oB (ih tm) λr=>some (d::r)) l
theorem uD(tm:List (Nat×D))(bs:List af)(y:eG):∀l:List Operand,xF l tm=St.jv ⟨tm,bs,y⟩ l
 |[]=>rfl
 |x::r=>by
  show(oB (mR x tm) λd=>oB (xF r tm) λr=>some (d::r))=_;rw[eF x tm bs y,uD tm bs y r];simp only[St.jv];cases St.ev ⟨tm,bs,y⟩ x with
  |none=>rfl
  |some d=>cases St.jv ⟨tm,bs,y⟩ r<;>rfl
noncomputable def ye(bs:List af):af->Nat->(Nat->List af->Option RZ)->Option RZ:=
 List.rec (motive:=λ_=>af->Nat->(Nat->List af->Option RZ)->Option RZ) (λb n k=>fN n λn=>k n [b]) (λc _ ih b n k=>ih b (Nat.succ n) λm r=>k m (c::r)) bs
theorem wq:∀(bs:List af)(b:af)(n:Nat)(k:Nat->List af->Option RZ),ye bs b n k=k (n+bs.length) (bs++[b])
 |[],b,n,k=>by show fN n (λn=>k n [b])=_;rw[mQ];rfl
 |c::r,b,n,k=>by
  show ye r b (Nat.succ n) _=_;rw[wq r];rw[show Nat.succ n+r.length=n+(c::r).length by simp;omega];rfl
noncomputable def EP(bs:List af):Nat->af->(List af->Option RZ)->Option RZ:=
 List.rec (motive:=λ_=>Nat->af->(List af->Option RZ)->Option RZ) (λ_ _ k=>k [])
  (λc r ih n b k=>Nat.rec (motive:=λ_=>Option RZ) (k (b::r)) (λm _=>ih m b λr=>k (c::r)) n) bs
theorem uE:∀(bs:List af)(n:Nat)(b:af)(k:List af->Option RZ),EP bs n b k=k (bs.set n b)
 |[],_,_,_=>rfl
 |_::_,0,_,_=>rfl
 |c::r,n+1,b,k=>by show EP r n b _=_;rw[uE r];rfl
noncomputable def Gs(n:Nat):List D->(List D->Option RZ)->Option RZ:=
 Nat.rec (motive:=λ_=>List D->(List D->Option RZ)->Option RZ) (λ_ k=>k [])
  (λ_ ih l k=>List.rec (motive:=λ_=>Option RZ) none (λc r _=>ih r λs=>k (c::s)) l) n
theorem yf:∀(n:Nat)(l:List D){k:List D->Option RZ}{r:RZ},Gs n l k=some r->n<=l.length/\k (l.take n)=some r
 |0,l,k,r,h=>⟨Nat.zero_le _,by rw[List.take_zero];exact h⟩
 |n+1,[],k,r,h=>by cases h
 |n+1,c::s,k,r,h=>by
  have h:Gs n s (λs=>k (c::s))=some r:=h;obtain⟨h1,h2⟩:=yf n s h;exact⟨Nat.succ_le_succ h1,h2⟩
noncomputable def n8(n:Nat):List D->List D:=
 Nat.rec (motive:=λ_=>List D->List D) (λl=>l) (λ_ ih l=>List.rec (motive:=λ_=>List D) [] (λ_ r _=>ih r) l) n
theorem lX:∀(n:Nat)(l:List D),n8 n l=l.drop n
 |0,_=>rfl
 |n+1,[]=>rfl
 |n+1,_::r=>by show n8 n r=_;rw[lX n r];rfl
noncomputable def Rz(_:TI)(cs:List D)(off:Nat)(k:D->Option RZ):Option RZ:=oB (fR cs off) k
noncomputable def RA(ti:TI)(cs:List D)(off:Nat)(k:D->Option RZ):Option RZ:=bI (Nat.blt 0 ti.size) (Gs ti.size (n8 off cs) λl=>k (.agg l))
noncomputable def iL(ti:TI)(cs:List D)(off:Nat)(k:D->Option RZ):Option RZ:=
 @Bool.rec (λ_=>TI->List D->Nat->(D->Option RZ)->Option RZ) Rz RA ti.agg ti cs off k
theorem uF{ti:TI}{cs:List D}{off:Nat}{k:D->Option RZ}{k':bE->Option RZ}{r:RZ}(hk:∀d,k d=some r->k' (.val d)=some r)(h:iL ti cs off k=some r):iA ti cs off k'=some r:=by
 unfold iL at h;unfold iA;cases ha:ti.agg with
 |false=>
  rw[ha]at h;obtain⟨d,h1,h2⟩:=aD (show oB (fR cs off) k=some r from h);rw[ez]at h1;simp only[h1];exact hk d h2
 |true=>
  rw[ha]at h;obtain⟨h0,h⟩:=a8 (show bI (Nat.blt 0 ti.size) (Gs ti.size (n8 off cs) λl=>k (.agg l))=some r from h);obtain⟨h1,h2⟩:=yf _ _ h;rw[lX]at h1 h2;have h0:=cX h0;simp only[List.length_drop]at h1;unfold cQ fits;rw[show Nat.ble (off+ti.size) cs.length=true from Nat.ble_eq_true_of_le (by omega)];exact hk _ h2
noncomputable def Gt(b:af)(k:List D->Option RZ):Option RZ:=
 af.rec (motive:=λ_=>(List D->Option RZ)->Option RZ) (λ_ cs k=>k cs) (λ_ _ _ _ _=>none) (λ_ _ _ _=>none) (λ_ _ _ _=>none) (λ_ _ _ _ _ _=>none) b k
noncomputable def rj(b:af)(k:Bool->Nat->Nat->List (List D)->Option RZ):Option RZ:=
 af.rec (motive:=λ_=>(Bool->Nat->Nat->List (List D)->Option RZ)->Option RZ) (λ_ _ _=>none) (λfz g sz rs k=>k fz g sz rs) (λ_ _ _ _=>none) (λ_ _ _ _=>none) (λ_ _ _ _ _ _=>none) b k
noncomputable def z7(b:af)(k:List D->Option RZ):Option RZ:=
 af.rec (motive:=λ_=>(List D->Option RZ)->Option RZ) (λfz cs k=>@Bool.rec (λ_=>Option RZ) (k cs) none fz) (λ_ _ _ _ _=>none) (λ_ _ _ _=>none) (λ_ _ _ _=>none) (λ_ _ _ _ _ _=>none) b k
theorem yg{b:af}{k:List D->Option RZ}{r:RZ}(h:Gt b k=some r):∃fz cs,b=.flat fz cs/\k cs=some r:=by
 cases b<;>first|(cases h;done)|exact⟨_,_,rfl,h⟩
theorem oQ{b:af}{k:Bool->Nat->Nat->List (List D)->Option RZ}{r:RZ}(h:rj b k=some r):∃fz g sz rs,b=.rows fz g sz rs/\k fz g sz rs=some r:=by
 cases b<;>first|(cases h;done)|exact⟨_,_,_,_,rfl,h⟩
theorem wu{b:af}{k:List D->Option RZ}{r:RZ}(h:z7 b k=some r):∃cs,b=.flat false cs/\k cs=some r:=by
 cases b<;>first|(cases h;done)|skip
 rename_i fz cs;cases fz with
 |true=>cases h
 |false=>exact⟨_,rfl,h⟩
def fM(_:TI)(_:ZP)(_:List af)(_:KZ):Option RZ:=none
noncomputable def Gu(i off:Nat)(ti:TI)(_:ZP)(bs:List af)(k:KZ):Option RZ:=oB (fR bs i) λb=>Gt b λcs=>iL ti cs off λd=>k 0 d bs
noncomputable def RB(cs:List D)(ti:TI)(_:ZP)(bs:List af)(k:KZ):Option RZ:=iL ti cs 0 λd=>k 0 d bs
noncomputable def K6(i g r off:Nat)(ti:TI)(_:ZP)(bs:List af)(k:KZ):Option RZ:=oB (fR bs i) λb=>rj b λ_ g' _ rs=>bI (Nat.beq g g') (oB (fR rs r) λrow=>iL ti row off λd=>k 0 d bs)
noncomputable def RC(g off:Nat)(ti:TI)(P:ZP)(bs:List af)(k:KZ):Option RZ:=bI (!ti.agg) (oB (P.C.gt g off) λx=>k 0 (.int x.1 x.2) bs)
noncomputable def K7(d:D):TI->ZP->List af->KZ->Option RZ:=
 D.rec (motive_1:=λ_=>TI->ZP->List af->KZ->Option RZ) (motive_2:=λ_=>PUnit.{1}) (motive_3:=λ_=>PUnit.{1})
  fM
  fM
  fM
  (λ_=>fM)
  (λ_ _=>fM)
  (λ_=>fM)
  (λ_ _=>fM)
  (λ_ _=>fM)
  fM
  (λi off=>Gu i off)
  (λi off=>Gu i off)
  (λi g r off=>K6 i g r off)
  (λcs _=>RB cs)
  (λ_ _ _=>fM)
  fM
  (λ_ _ _ _=>fM)
  (λ_ _ _ _ _=>fM)
  fM
  fM
  (λ_=>fM)
  fM
  fM
  (λ_=>fM)
  (λ_ _ _ _=>fM)
  (λ_=>fM)
  (λ_ _ _ _=>fM)
  (λg off=>RC g off)
  (λ_ _ _ _=>fM)
  (λ_=>fM)
  .unit (λ_ _ _ _=>.unit) .unit (λ_ _ _ _=>.unit) d
noncomputable def Gw(ds:List D):List D->(List D->Option RZ)->Option RZ:=
 List.rec (motive:=λ_=>List D->(List D->Option RZ)->Option RZ) (λcs k=>k cs) (λd _ ih cs k=>List.rec (motive:=λ_=>Option RZ) none (λ_ r _=>ih r λs=>k (d::s)) cs) ds
noncomputable def mq(off:Nat):List D->List D->(List D->Option RZ)->Option RZ:=
 Nat.rec (motive:=λ_=>List D->List D->(List D->Option RZ)->Option RZ) (λcs ds k=>Gw ds cs k)
  (λ_ ih cs ds k=>List.rec (motive:=λ_=>Option RZ) none (λc r _=>ih r ds λs=>k (c::s)) cs) off
theorem yh:∀(ds cs:List D){k:List D->Option RZ}{r:RZ},Gw ds cs k=some r->ds.length<=cs.length/\k (ds++cs.drop ds.length)=some r
 |[],cs,k,r,h=>⟨Nat.zero_le _,h⟩
 |d::ds,[],k,r,h=>by cases h
 |d::ds,c::cs,k,r,h=>by
  obtain⟨h1,h2⟩:=yh ds cs (show Gw ds cs (λs=>k (d::s))=some r from h);exact⟨Nat.succ_le_succ h1,h2⟩
theorem lp:∀(off:Nat)(cs ds:List D){k:List D->Option RZ}{r:RZ},mq off cs ds k=some r->off+ds.length<=cs.length/\k (cd cs off ds)=some r
 |0,cs,ds,k,r,h=>by
  obtain⟨h1,h2⟩:=yh ds cs (show Gw ds cs k=some r from h);refine⟨by omega,?_⟩;unfold cd;simpa using h2
 |off+1,[],ds,k,r,h=>by cases h
 |off+1,c::cs,ds,k,r,h=>by
  obtain⟨h1,h2⟩:=lp off cs ds (show mq off cs ds (λs=>k (c::s))=some r from h);refine⟨by simp;omega,?_⟩;unfold cd at h2⊢;rw[show off+1+ds.length=(off+ds.length)+1 by omega];exact h2
def fa(_:List D)(_:List af)(_:KZ):Option RZ:=none
noncomputable def Ci(i off:Nat)(ds:List D)(bs:List af)(k:KZ):Option RZ:=oB (fR bs i) λb=>z7 b λcs=>mq off cs ds λcs=>EP bs i (.flat false cs) λbs=>k 2 .eL bs
noncomputable def Gx(rs:List (List D)):Nat->List D->(List (List D)->Option RZ)->Option RZ:=
 List.rec (motive:=λ_=>Nat->List D->(List (List D)->Option RZ)->Option RZ) (λ_ _ k=>k [])
  (λc r ih n b k=>Nat.rec (motive:=λ_=>Option RZ) (k (b::r)) (λm _=>ih m b λr=>k (c::r)) n) rs
theorem Cj:∀(bs:List (List D))(n:Nat)(b:List D)(k:List (List D)->Option RZ),Gx bs n b k=k (bs.set n b)
 |[],_,_,_=>rfl
 |_::_,0,_,_=>rfl
 |c::r,n+1,b,k=>by show Gx r n b _=_;rw[Cj r];rfl
noncomputable def H7(i g r off:Nat)(ds:List D)(bs:List af)(k:KZ):Option RZ:=oB (fR bs i) λb=>rj b λfz g' sz rs=>bI (!fz) (bI (Nat.beq g g') (bI (cu ds) (oB (fR rs r) λrow=>mq off row ds λrow=>Gx rs r row λrs=>EP bs i (.rows false g' sz rs) λbs=>k 2 .eL bs)))
noncomputable def ER(d:D):List D->List af->KZ->Option RZ:=
 D.rec (motive_1:=λ_=>List D->List af->KZ->Option RZ) (motive_2:=λ_=>PUnit.{1}) (motive_3:=λ_=>PUnit.{1})
  fa
  fa
  fa
  (λ_=>fa)
  (λ_ _=>fa)
  (λ_=>fa)
  (λ_ _=>fa)
  (λ_ _=>fa)
  fa
  (λi off=>Ci i off)
  (λi off=>Ci i off)
  (λi g r off=>H7 i g r off)
  (λ_ _=>fa)
  (λ_ _ _=>fa)
  fa
  (λ_ _ _ _=>fa)
  (λ_ _ _ _ _=>fa)
  fa
  fa
  (λ_=>fa)
  fa
  fa
  (λ_=>fa)
  (λ_ _ _ _=>fa)
  (λ_=>fa)
  (λ_ _ _ _=>fa)
  (λ_ _=>fa)
  (λ_ _ _ _=>fa)
  (λ_=>fa)
  .unit (λ_ _ _ _=>.unit) .unit (λ_ _ _ _=>.unit) d
noncomputable def wv(d:D):Option (List D):=
 D.rec (motive_1:=λ_=>Option (List D)) (motive_2:=λ_=>PUnit.{1}) (motive_3:=λ_=>PUnit.{1})
  none
  (some [.tt])
  (some [.ff])
  (λb=>some [.bool b])
  (λkd n=>some [.int kd n])
  (λs=>some [.str s])
  (λcs _=>some cs)
  (λcs _=>none)
  (some [.cO])
  (λi off=>some [.loc i off])
  (λi off=>some [.bH i off])
  (λi g r off=>some [.bM i g r off])
  (λcs _=>some [.ro cs])
  (λsz rows _=>some [.list sz rows])
  (some [.ao])
  (λi g off len=>some [.sl i g off len])
  (λfn fs cs _ _=>some [.bR fn fs cs])
  (some [.a7])
  none
  (λl=>some [.j8 l])
  (some [.fh])
  (some [.dI])
  (λi=>some [.cn i])
  (λks vs _ _=>some [.nk ks vs])
  (λi=>some [.iY i])
  (λi off sz len=>some [.gj i off sz len])
  (λg off=>some [.gp g off])
  (λks vs _ _=>some [.pO ks vs])
  (λc=>some [.dY c])
  .unit (λ_ _ _ _=>.unit) .unit (λ_ _ _ _=>.unit) d
theorem yi(d:D):wv d=cellsOf d:=by cases d<;>rfl
theorem Ob{T:Nat->Option TI}{ti:TI}{P:ZP}{p:D}{bs:List af}{k:KZ}{k':bE->Option RZ}{r:RZ}(hk:∀d,k 0 d bs=some r->k' (.val d)=some r)(h:K7 p ti P bs k=some r):
    (match p with|.gp g off=>(match ti.agg,P.C.gt g off with|false,some (kd,n)=>k' (.val (.int kd n))|_,_=>none)|p=>v8 ti bs p k')=some r:=by
  cases p<;>first|(cases h;done)|skip
  case gp g off=>
   obtain⟨h1,h⟩:=a8 (show bI (!ti.agg) (oB (P.C.gt g off) λx=>k 0 (.int x.1 x.2) bs)=some r from h);obtain⟨x,h2,h⟩:=aD h;cases ha:ti.agg with
   |true=>rw[ha]at h1;cases h1
   |false=>simp only[h2];exact hk _ h
  case loc i off=>
   obtain⟨b,h1,h⟩:=aD (show(oB (fR bs i) λb=>Gt b λcs=>iL ti cs off λd=>k 0 d bs)=some r from h);obtain⟨fz,cs,rfl,h⟩:=yg h;rw[ez]at h1;simp only[v8,h1];exact uF hk h
  case bH i off=>
   obtain⟨b,h1,h⟩:=aD (show(oB (fR bs i) λb=>Gt b λcs=>iL ti cs off λd=>k 0 d bs)=some r from h);obtain⟨fz,cs,rfl,h⟩:=yg h;rw[ez]at h1;simp only[v8,h1];exact uF hk h
  case ro cs=>exact uF hk h
  case bM i g rr off=>
   obtain⟨b,h1,h⟩:=aD (show(oB (fR bs i) λb=>rj b λ_ g' _ rs=>bI (Nat.beq g g') (oB (fR rs rr) λrow=>iL ti row off λd=>k 0 d bs))=some r from h);obtain⟨fz,g',sz,rs,rfl,h⟩:=oQ h;obtain⟨h2,h⟩:=a8 h;obtain⟨row,h3,h⟩:=aD h;rw[ez]at h1 h3;simp only[v8,h1,h3];exact aX h2 (uF hk h)
theorem K8{ti:TI}{p x:D}{ds:List D}{bs:List af}{k:KZ}{k':bE->Option RZ}{r:RZ}(hc:cellsOf x=some ds)(hl:Nat.beq ds.length ti.size=true)(hk:∀i b,k 2 .eL (bs.set i b)=some r->k' (.set i b .eL)=some r)(h:ER p ds bs k=some r):
    sq ti bs p x k'=some r:=by
  unfold sq;rw[hc];refine aX hl ?_;cases p<;>first|(cases h;done)|skip
  case loc i off=>
   obtain⟨b,h1,h⟩:=aD (show(oB (fR bs i) λb=>z7 b λcs=>mq off cs ds λcs=>EP bs i (.flat false cs) λbs=>k 2 .eL bs)=some r from h);obtain⟨cs,rfl,h⟩:=wu h;obtain⟨h2,h⟩:=lp _ _ _ h;rw[uE]at h;rw[ez]at h1;simp only[h1];exact aX (Nat.ble_eq_true_of_le h2) (hk _ _ h)
  case bH i off=>
   obtain⟨b,h1,h⟩:=aD (show(oB (fR bs i) λb=>z7 b λcs=>mq off cs ds λcs=>EP bs i (.flat false cs) λbs=>k 2 .eL bs)=some r from h);obtain⟨cs,rfl,h⟩:=wu h;obtain⟨h2,h⟩:=lp _ _ _ h;rw[uE]at h;rw[ez]at h1;simp only[h1];exact aX (Nat.ble_eq_true_of_le h2) (hk _ _ h)
  case bM i g rr off=>
   obtain⟨b,h1,h⟩:=aD (show(oB (fR bs i) λb=>rj b λfz g' sz rs=>bI (!fz) (bI (Nat.beq g g') (bI (cu ds) (oB (fR rs rr) λrow=>mq off row ds λrow=>Gx rs rr row λrs=>EP bs i (.rows false g' sz rs) λbs=>k 2 .eL bs))))=some r from h);obtain⟨fz,g',sz,rs,rfl,h⟩:=oQ h;obtain⟨h2,h⟩:=a8 h;obtain⟨h3,h⟩:=a8 h;obtain⟨h4,h⟩:=a8 h;obtain⟨row,h5,h⟩:=aD h;obtain⟨h6,h⟩:=lp _ _ _ h;rw[Cj,uE]at h;rw[ez]at h1 h5;have sa:=hk _ _ h;have hz:fz=false:=by revert h2;cases fz<;>simp
   subst hz;simp only[h1,h5];exact aX (by rw[h3];exact h4) (aX (Nat.ble_eq_true_of_le h6) sa)
noncomputable def Ck(a b:Int):Bool:=Int.rec (motive:=λ_=>Int->Bool) (λm b=>Int.rec (motive:=λ_=>Bool) (λn=>Nat.ble m n) (λ_=>false) b) (λm b=>Int.rec (motive:=λ_=>Bool) (λ_=>true) (λn=>Nat.ble n m) b) a b
theorem n9(a b:Int):Ck a b=gC a b:=by cases a<;>cases b<;>rfl
noncomputable def VY(a b:Int):Bool:=Int.rec (motive:=λ_=>Int->Bool) (λm b=>Int.rec (motive:=λ_=>Bool) (λn=>Nat.beq m n) (λ_=>false) b) (λm b=>Int.rec (motive:=λ_=>Bool) (λ_=>false) (λn=>Nat.beq m n) b) a b
theorem K9(a b:Int):VY a b=H0 a b:=by cases a<;>cases b<;>rfl
noncomputable def fIZ(n:Int)(k:Int->Option RZ):Option RZ:=Int.rec (motive:=λ_=>(Int->Option RZ)->Option RZ) (λm k=>Nat.rec (motive:=λ_=>Option RZ) (k (.ofNat 0)) (λm _=>k (.ofNat (Nat.succ m))) m) (λm k=>Nat.rec (motive:=λ_=>Option RZ) (k (.negSucc 0)) (λm _=>k (.negSucc (Nat.succ m))) m) n k
theorem La(n:Int)(k:Int->Option RZ):fIZ n k=k n:=by cases n<;>rename_i m<;>cases m<;>rfl
noncomputable def PQ(k:IntKind):Int->Int:=
 IntKind.rec (motive:=λ_=>Int->Int) (λn=>iz .i8 n) (λn=>iz .i16 n) (λn=>iz .i32 n)
  (λn=>@Bool.rec (λ_=>Int) (IntKind.i64.wrap n) (@Bool.rec (λ_=>Int) (IntKind.i64.wrap n) n (Ck n 9223372036854775807)) (Ck (-9223372036854775808) n))
  (λn=>iz .u8 n) (λn=>iz .u16 n) (λn=>iz .u32 n) (λn=>iz .u64 n) k
theorem Lb(k:IntKind)(n:Int):PQ k n=iz k n:=by
 cases k<;>first|rfl|skip
 show@Bool.rec (λ_=>Int) (IntKind.i64.wrap n) (@Bool.rec (λ_=>Int) (IntKind.i64.wrap n) n (Ck n 9223372036854775807)) (Ck (-9223372036854775808) n)=_;unfold iz;rw[n9,n9];cases gC (-9223372036854775808) n<;>cases gC n 9223372036854775807<;>rfl
abbrev BZ:=IntKind->IntKind->Int->Int->List af->KZ->Option RZ
noncomputable def Y1(f:Int->Int->Int)(kx ky:IntKind)(a b:Int)(bs:List af)(k:KZ):Option RZ:=bI (same kx ky) (fIZ (PQ kx (f a b)) λr=>k 0 (.int kx r) bs)
noncomputable def RD(f:Int->Int->Bool)(kx ky:IntKind)(a b:Int)(bs:List af)(k:KZ):Option RZ:=bI (same kx ky) (@Bool.rec (λ_=>Option RZ) (k 0 (.bool false) bs) (k 0 (.bool true) bs) (f a b))
def tiU:TI:=⟨.bool,false,0,0,[],false⟩
noncomputable def PR(op:BinOp)(kx ky:IntKind)(a b:Int)(bs:List af)(k:KZ):Option RZ:=ra tiU op (.int kx a) (.int ky b) λd=>Rn d λd=>k 0 d bs
noncomputable def PS(op:BinOp):BZ:=
 BinOp.rec (motive:=λ_=>BZ) (Y1 Int.add) (Y1 Int.sub) (Y1 Int.mul) (PR .quo) (PR .rem) (PR .and) (PR .or) (PR .xor) (PR .shl) (PR .shr) (PR .andNot) (RD VY) (RD λa b=>!(VY a b)) (RD λa b=>!(Ck b a)) (RD Ck) (RD λa b=>!(Ck a b)) (RD λa b=>Ck b a) op
theorem oR{f:Int->Int->Bool}{kx ky:IntKind}{a b:Int}{bs:List af}{k:KZ}{r:RZ}(h:RD f kx ky a b bs k=some r):same kx ky=true/\k 0 (.bool (f a b)) bs=some r:=by
 obtain⟨h1,h⟩:=a8 h;refine⟨h1,?_⟩;cases hf:f a b<;>rw[hf]at h<;>exact h
theorem z8{f:Int->Int->Int}{kx ky:IntKind}{a b:Int}{bs:List af}{k:KZ}{r:RZ}(h:Y1 f kx ky a b bs k=some r):same kx ky=true/\k 0 (.int kx (iz kx (f a b))) bs=some r:=by
 obtain⟨h1,h⟩:=a8 h;rw[La,Lb]at h;exact⟨h1,h⟩
theorem Oc{ti:TI}{op:BinOp}{kx ky:IntKind}{a b:Int}{bs:List af}{k:KZ}{k':D->Option RZ}{r:RZ}(hk:∀d,k 0 d bs=some r->k' d=some r)(h:PS op kx ky a b bs k=some r):ra ti op (.int kx a) (.int ky b) k'=some r:=by
 have el:∀Y2,(ra tiU Y2 (.int kx a) (.int ky b) λd=>Rn d λd=>k 0 d bs)=some r->Y2=op->ra ti op (.int kx a) (.int ky b) k'=some r:=λY2 h0 e=>by
  clear h;subst e;simp only[zH]at h0;unfold ra at h0⊢;cases Y2<;>simp only at h0⊢<;>(obtain⟨h1,h0⟩:=aa h0;refine aX h1 ?_)<;>first|exact hk _ h0|(obtain⟨h1,h0⟩:=aa h0;exact aX h1 (hk _ h0))
 cases op
 case quo=>exact el .quo h rfl
 case rem=>exact el .rem h rfl
 case and=>exact el .and h rfl
 case or=>exact el .or h rfl
 case xor=>exact el .xor h rfl
 case shl=>exact el .shl h rfl
 case shr=>exact el .shr h rfl
 case andNot=>exact el .andNot h rfl
 case add=>obtain⟨h1,h⟩:=z8 (f:=Int.add) h;exact aX h1 (hk _ h)
 case sub=>obtain⟨h1,h⟩:=z8 (f:=Int.sub) h;exact aX h1 (hk _ h)
 case mul=>obtain⟨h1,h⟩:=z8 (f:=Int.mul) h;exact aX h1 (hk _ h)
 case eql=>obtain⟨h1,h⟩:=oR (f:=VY) h;rw[K9]at h;exact aX h1 (hk _ h)
 case neq=>obtain⟨h1,h⟩:=oR (f:=λa b=>!(VY a b)) h;rw[K9]at h;exact aX h1 (hk _ h)
 case lss=>obtain⟨h1,h⟩:=oR (f:=λa b=>!(Ck b a)) h;rw[n9]at h;exact aX h1 (hk _ h)
 case leq=>obtain⟨h1,h⟩:=oR (f:=Ck) h;rw[n9]at h;exact aX h1 (hk _ h)
 case gtr=>obtain⟨h1,h⟩:=oR (f:=λa b=>!(Ck a b)) h;rw[n9]at h;exact aX h1 (hk _ h)
 case geq=>obtain⟨h1,h⟩:=oR (f:=λa b=>Ck b a) h;rw[n9]at h;exact aX h1 (hk _ h)
abbrev BX:=D->TI->BinOp->List af->KZ->Option RZ
noncomputable def ec(x:D)(y:D)(ti:TI)(op:BinOp)(bs:List af)(k:KZ):Option RZ:=ra ti op x y λd=>Rn d λd=>k 0 d bs
noncomputable def VZ(ky:IntKind)(b:Int)(kx:IntKind)(a:Int)(_:TI)(op:BinOp)(bs:List af)(k:KZ):Option RZ:=PS op kx ky a b bs k
def eI(_:IntKind)(_:Int)(_:TI)(_:BinOp)(_:List af)(_:KZ):Option RZ:=none
noncomputable def V0(d:D):IntKind->Int->TI->BinOp->List af->KZ->Option RZ:=
 D.rec (motive_1:=λ_=>IntKind->Int->TI->BinOp->List af->KZ->Option RZ) (motive_2:=λ_=>PUnit.{1}) (motive_3:=λ_=>PUnit.{1})
  eI
  eI
  eI
  (λ_=>eI)
  (λkd n=>VZ kd n)
  (λ_=>eI)
  (λ_ _=>eI)
  (λ_ _=>eI)
  eI
  (λ_ _=>eI)
  (λ_ _=>eI)
  (λ_ _ _ _=>eI)
  (λ_ _=>eI)
  (λ_ _ _=>eI)
  eI
  (λ_ _ _ _=>eI)
  (λ_ _ _ _ _=>eI)
  eI
  eI
  (λ_=>eI)
  eI
  eI
  (λ_=>eI)
  (λ_ _ _ _=>eI)
  (λ_=>eI)
  (λ_ _ _ _=>eI)
  (λ_ _=>eI)
  (λ_ _ _ _=>eI)
  (λ_=>eI)
  .unit (λ_ _ _ _=>.unit) .unit (λ_ _ _ _=>.unit) d
noncomputable def RE(kx:IntKind)(a:Int)(y:D)(ti:TI)(op:BinOp)(bs:List af)(k:KZ):Option RZ:=V0 y kx a ti op bs k
noncomputable def RF(d:D):BX:=
 D.rec (motive_1:=λ_=>BX) (motive_2:=λ_=>PUnit.{1}) (motive_3:=λ_=>PUnit.{1})
  (ec .eL)
  (ec .tt)
  (ec .ff)
  (λb=>ec (.bool b))
  (λkd n=>RE kd n)
  (λs=>ec (.str s))
  (λcs _=>ec (.agg cs))
  (λcs _=>ec (.b9 cs))
  (ec .cO)
  (λi off=>ec (.loc i off))
  (λi off=>ec (.bH i off))
  (λi g r off=>ec (.bM i g r off))
  (λcs _=>ec (.ro cs))
  (λsz rows _=>ec (.list sz rows))
  (ec .ao)
  (λi g off len=>ec (.sl i g off len))
  (λfn fs cs _ _=>ec (.bR fn fs cs))
  (ec .a7)
  (ec .j7)
  (λl=>ec (.j8 l))
  (ec .fh)
  (ec .dI)
  (λi=>ec (.cn i))
  (λks vs _ _=>ec (.nk ks vs))
  (λi=>ec (.iY i))
  (λi off sz len=>ec (.gj i off sz len))
  (λg off=>ec (.gp g off))
  (λks vs _ _=>ec (.pO ks vs))
  (λc=>ec (.dY c))
  .unit (λ_ _ _ _=>.unit) .unit (λ_ _ _ _=>.unit) d
theorem RG{ti:TI}{op:BinOp}{x y:D}{bs:List af}{k:KZ}{k':D->Option RZ}{r:RZ}(hk:∀d,k 0 d bs=some r->k' d=some r)(h:RF x y ti op bs k=some r):ra ti op x y k'=some r:=by
 have el:∀{x},ec x y ti op bs k=some r->ra ti op x y k'=some r:=λ{x} h=>by
  unfold ec at h;simp only[zH]at h;revert h;unfold ra;split
  .cases op<;>simp only<;>intro h<;>(obtain⟨h1,h⟩:=aa h;refine aX h1 ?_)<;>first|exact hk _ h|(obtain⟨h1,h⟩:=aa h;exact aX h1 (hk _ h))
  .cases op<;>simp only<;>intro h<;>first|(cases h;done)|exact hk _ h|(obtain⟨h1,h⟩:=aa h;exact aX h1 (hk _ h))
  .split
   .intro h;obtain⟨h1,h⟩:=aa h;exact aX h1 (hk _ h)
   .intro h;obtain⟨h1,h⟩:=aa h;exact aX h1 (hk _ h)
   intro h;cases h
  split<;>split
  .intro h;exact hk _ h
  .intro h;exact hk _ h
  .intro h;cases h
  .intro h;exact hk _ h
  .intro h;exact hk _ h
  intro h;cases h
 cases x<;>first|exact el h|skip
 rename_i kx a;cases y<;>first|(cases h;done)|skip
 exact Oc hk h
abbrev AZ:=Nat->List af->KZ->Option RZ
def fA(_:Nat)(_:List af)(_:KZ):Option RZ:=none
def V1(i o off:Nat)(bs:List af)(k:KZ):Option RZ:=fN (o+off) λn=>k 0 (.loc i n) bs
def RI(i o off:Nat)(bs:List af)(k:KZ):Option RZ:=fN (o+off) λn=>k 0 (.bH i n) bs
def RL(i g r o off:Nat)(bs:List af)(k:KZ):Option RZ:=fN (o+off) λn=>k 0 (.bM i g r n) bs
noncomputable def aaF(cs:List D)(off:Nat)(bs:List af)(k:KZ):Option RZ:=k 0 (.ro (n8 off cs)) bs
noncomputable def faZ(d:D):AZ:=
 D.rec (motive_1:=λ_=>AZ) (motive_2:=λ_=>PUnit.{1}) (motive_3:=λ_=>PUnit.{1})
  fA
  fA
  fA
  (λ_=>fA)
  (λ_ _=>fA)
  (λ_=>fA)
  (λ_ _=>fA)
  (λ_ _=>fA)
  fA
  (λi off=>V1 i off)
  (λi off=>RI i off)
  (λi g r off=>RL i g r off)
  (λcs _=>aaF cs)
  (λ_ _ _=>fA)
  fA
  (λ_ _ _ _=>fA)
  (λ_ _ _ _ _=>fA)
  fA
  fA
  (λ_=>fA)
  fA
  fA
  (λ_=>fA)
  (λ_ _ _ _=>fA)
  (λ_=>fA)
  (λ_ _ _ _=>fA)
  (λ_ _=>fA)
  (λ_ _ _ _=>fA)
  (λ_=>fA)
  .unit (λ_ _ _ _=>.unit) .unit (λ_ _ _ _=>.unit) d
theorem V2{p:D}{off:Nat}{bs:List af}{k:KZ}{k':bE->Option RZ}{r:RZ}(hk:∀d,k 0 d bs=some r->k' (.val d)=some r)(h:faZ p off bs k=some r):mo p off k'=some r:=by
 cases p<;>first|(cases h;done)|skip
 case loc i o=>exact hk _ (by rw[<-show fN (o+off) (λn=>k 0 (.loc i n) bs)=_ from mQ _ _];exact h)
 case bH i o=>exact hk _ (by rw[<-show fN (o+off) (λn=>k 0 (.bH i n) bs)=_ from mQ _ _];exact h)
 case bM i g rr o=>exact hk _ (by rw[<-show fN (o+off) (λn=>k 0 (.bM i g rr n) bs)=_ from mQ _ _];exact h)
 case ro cs=>exact hk _ (by rw[<-lX];exact h)
abbrev IZ:=Int->Nat->Nat->Bool->List af->KZ->Option RZ
def bV(_:Int)(_ _:Nat)(_:Bool)(_:List af)(_:KZ):Option RZ:=none
noncomputable def Od(n:Int)(len:Nat)(x:Option RZ):Option RZ:=bI (Ck 0 n) (bI (!(Ck (Int.ofNat len) n)) x)
theorem oS{n:Int}{len:Nat}{x:Option RZ}{r:RZ}(h:Od n len x=some r):gC 0 n=true/\(!(gC (Int.ofNat len) n))=true/\x=some r:=by
 obtain⟨h1,h⟩:=a8 h;obtain⟨h2,h⟩:=a8 h;rw[n9]at h1 h2;exact⟨h1,h2,h⟩
noncomputable def V3(b o:Nat)(n:Int)(es:Nat)(len:Nat)(lit:Bool)(bs:List af)(k:KZ):Option RZ:=Od n len (fN (o+n.toNat*es) λm=>@Bool.rec (λ_=>Option RZ) (k 0 (.bH b m) bs) (k 0 (.loc b m) bs) lit)
noncomputable def RM(b o:Nat)(n:Int)(es:Nat)(len:Nat)(_:Bool)(bs:List af)(k:KZ):Option RZ:=Od n len (fN (o+n.toNat*es) λm=>k 0 (.bH b m) bs)
noncomputable def aaG(cs:List D)(n:Int)(es:Nat)(len:Nat)(_:Bool)(bs:List af)(k:KZ):Option RZ:=Od n len (k 0 (.ro (n8 (n.toNat*es) cs)) bs)
noncomputable def aaH(g o:Nat)(n:Int)(es:Nat)(len:Nat)(_:Bool)(bs:List af)(k:KZ):Option RZ:=Od n len (fN (o+n.toNat*es) λm=>k 0 (.gp g m) bs)
noncomputable def PT(d:D):IZ:=
 D.rec (motive_1:=λ_=>IZ) (motive_2:=λ_=>PUnit.{1}) (motive_3:=λ_=>PUnit.{1})
  bV
  bV
  bV
  (λ_=>bV)
  (λ_ _=>bV)
  (λ_=>bV)
  (λ_ _=>bV)
  (λ_ _=>bV)
  bV
  (λi off=>V3 i off)
  (λi off=>RM i off)
  (λ_ _ _ _=>bV)
  (λcs _=>aaG cs)
  (λ_ _ _=>bV)
  bV
  (λ_ _ _ _=>bV)
  (λ_ _ _ _ _=>bV)
  bV
  bV
  (λ_=>bV)
  bV
  bV
  (λ_=>bV)
  (λ_ _ _ _=>bV)
  (λ_=>bV)
  (λ_ _ _ _=>bV)
  (λg off=>aaH g off)
  (λ_ _ _ _=>bV)
  (λ_=>bV)
  .unit (λ_ _ _ _=>.unit) .unit (λ_ _ _ _=>.unit) d
noncomputable def RN(sz:Nat)(rows:List (List D))(n:Int)(es:Nat)(_:Nat)(_:Bool)(bs:List af)(k:KZ):Option RZ:=bI (Nat.beq sz es) (bI (Ck 0 n) (oB (fR rows n.toNat) λrow=>k 0 (.ro row) bs))
noncomputable def aaI(b g off len:Nat)(n:Int)(es:Nat)(_:Nat)(_:Bool)(bs:List af)(k:KZ):Option RZ:=oB (fR bs b) λx=>rj x λ_ g' sz _=>bI (Nat.beq g g') (bI (Nat.beq sz es) (Od n len (fN (off+n.toNat) λm=>k 0 (.bM b g m 0) bs)))
noncomputable def V4(b off sz len:Nat)(n:Int)(es:Nat)(_:Nat)(_:Bool)(bs:List af)(k:KZ):Option RZ:=bI (Nat.beq sz es) (Od n len (fN (off+n.toNat*sz) λm=>k 0 (.bH b m) bs))
noncomputable def V5(d:D):IZ:=
 D.rec (motive_1:=λ_=>IZ) (motive_2:=λ_=>PUnit.{1}) (motive_3:=λ_=>PUnit.{1})
  bV
  bV
  bV
  (λ_=>bV)
  (λ_ _=>bV)
  (λ_=>bV)
  (λ_ _=>bV)
  (λ_ _=>bV)
  bV
  (λ_ _=>bV)
  (λ_ _=>bV)
  (λ_ _ _ _=>bV)
  (λ_ _=>bV)
  (λsz rows _=>RN sz rows)
  bV
  (λi g off len=>aaI i g off len)
  (λ_ _ _ _ _=>bV)
  bV
  bV
  (λ_=>bV)
  bV
  bV
  (λ_=>bV)
  (λ_ _ _ _=>bV)
  (λ_=>bV)
  (λi off sz len=>V4 i off sz len)
  (λ_ _=>bV)
  (λ_ _ _ _=>bV)
  (λ_=>bV)
  .unit (λ_ _ _ _=>.unit) .unit (λ_ _ _ _=>.unit) d
def Aa:TypeDesc->Option (Option Nat)
 |.array len _=>some (some len)
 |.slice _=>some none
 |_=>none
noncomputable def iaZ(o:Option Nat)(p:D)(n:Int)(es:Nat)(lit:Bool)(bs:List af)(k:KZ):Option RZ:=@Option.rec Nat (λ_=>D->Int->Nat->Bool->List af->KZ->Option RZ) (λp n es lit bs k=>V5 p n es 0 lit bs k) (λlen p n es lit bs k=>PT p n es len lit bs k) o p n es lit bs k
theorem V6{desc:TypeDesc}{o:Option Nat}(ho:Aa desc=some o){p:D}{kd:IntKind}{n:Int}{es:Nat}{lit:Bool}{bs:List af}{k:KZ}{k':bE->Option RZ}{r:RZ}(hk:∀d,k 0 d bs=some r->k' (.val d)=some r)(h:iaZ o p n es lit bs k=some r):
    iW bs desc es lit p (.int kd n) k'=some r:=by
  unfold Aa at ho;split at ho
  .rename_i len e
   cases ho;replace h:PT p n es len lit bs k=some r:=h;unfold iW;simp only;have two:∀{x},gC 0 n=true->(!(gC (Int.ofNat len) n))=true->x=some r->ah (match gC 0 n with|true=>!(gC (Int.ofNat len) n)|false=>false) x=some r:=λh1 h2 hx=>aX (by rw[h1];exact h2) hx;cases p<;>first|(cases h;done)|skip
   case loc b o=>
    obtain⟨h1,h2,h⟩:=oS h;rw[mQ]at h;refine two h1 h2 ?_;cases lit<;>exact hk _ h
   case bH b o=>
    obtain⟨h1,h2,h⟩:=oS h;rw[mQ]at h;exact two h1 h2 (hk _ h)
   case ro cs=>
    obtain⟨h1,h2,h⟩:=oS h;rw[lX]at h;exact two h1 h2 (hk _ h)
   case gp g o=>
    obtain⟨h1,h2,h⟩:=oS h;rw[mQ]at h;exact two h1 h2 (hk _ h)
  .cases ho
   replace h:V5 p n es 0 lit bs k=some r:=h;unfold iW;simp only;cases p<;>first|(cases h;done)|skip
   case list sz rows=>
    obtain⟨h1,h⟩:=a8 (show bI (Nat.beq sz es) (bI (Ck 0 n) (oB (fR rows n.toNat) λrow=>k 0 (.ro row) bs))=some r from h);obtain⟨h2,h⟩:=a8 h;obtain⟨row,h3,h⟩:=aD h;rw[n9]at h2;rw[ez]at h3;refine aX h1 (aX h2 ?_);simp only[h3];exact hk _ h
   case sl b g off len=>
    obtain⟨x,h1,h⟩:=aD (show(oB (fR bs b) λx=>rj x λ_ g' sz _=>bI (Nat.beq g g') (bI (Nat.beq sz es) (Od n len (fN (off+n.toNat) λm=>k 0 (.bM b g m 0) bs))))=some r from h);obtain⟨fz,g',sz,rs,rfl,h⟩:=oQ h;obtain⟨h2,h⟩:=a8 h;obtain⟨h3,h⟩:=a8 h;obtain⟨h4,h5,h⟩:=oS h;rw[mQ]at h;rw[ez]at h1;simp only[h1];exact aX (by rw[h2];exact h3) (aX h4 (aX h5 (hk _ h)))
   case gj b off sz len=>
    obtain⟨h1,h⟩:=a8 (show bI (Nat.beq sz es) (Od n len (fN (off+n.toNat*sz) λm=>k 0 (.bH b m) bs))=some r from h);obtain⟨h4,h5,h⟩:=oS h;rw[mQ]at h;exact aX h1 (aX h4 (aX h5 (hk _ h)))
  cases ho
def kE(bs:List af)(k:KZ)(e:bE):Option RZ:=match e with
 |.val d=>k 0 d bs
 |.new b mk=>k 1 (mk bs.length) (bs++[b])
 |.set i b d=>k 2 d (bs.set i b)
 |.res d as=>k 3 d (aK bs d as)
 |.dJ d cs y=>(match y with|.aQ=>k 4 d cs|_=>none)
 |.eo b mk L=>k 5 (mk bs.length) (au bs 0 L++[b])
 |_=>none
def kF(bs:List af)(k:KZ)(e:bE):Option RZ:=match e with
 |.val d=>Ey d λd=>k 0 d bs
 |.new b mk=>Ey (mk bs.length) λd=>Ez b λb=>B4 bs b λbs=>k 1 d bs
 |.set i b d=>Ez b λb=>KQ bs i b λbs=>Ey d λd=>k 2 d bs
 |.res d as=>Ey d λd=>vX (aK bs d as) λbs=>k 3 d bs
 |.dJ d cs y=>(match y with|.aQ=>Ey d λd=>vX cs λcs=>k 4 d cs|_=>none)
 |.eo b mk L=>Ey (mk bs.length) λd=>vX (au bs 0 L++[b]) λbs=>k 5 d bs
 |_=>none
theorem Cl(bs:List af)(k:KZ)(e:bE):kF bs k e=kE bs k e:=by
 cases e<;>simp only[kF,kE,EA,zJ,vY,zK,iy]
def V7(o:Op):Oper:={dst:=none,op:=o,type:=0,pos:= "",after:=#[],guard:=none}
theorem Oe{R:Type}{T:Nat->Option TI}{C:xa}{cal:Nat->List D->Option D}{calY:Nat->List D->List af->eG->Option (D×List af×eG)}(U:St)(o:Oper)(k:bE->Option R):Nb T C cal calY U (V7 o.op) k=Nb T C cal calY U o k:=rfl
abbrev OZ:=ZP->List (Nat×D)->List af->KZ->Option RZ
def fC(o:Op)(P:ZP)(tm:List (Nat×D))(bs:List af)(k:KZ):Option RZ:=Nb P.T P.C P.cal P.lW ⟨tm,bs,.aQ⟩ (V7 o) (kF bs k)
noncomputable def lY(l:List D):(D->List af->Option D)->List af->Option (List D):=
 List.rec (motive:=λ_=>(D->List af->Option D)->List af->Option (List D)) (λ_ _=>some []) (λd _ ih f bs=>oB (f d bs) λx=>oB (ih f bs) λl=>some (x::l)) l
theorem Ab(f:D->List af->Option D)(bs:List af):∀l:List D,lY l f bs=bY (λd=>f d bs) l
 |[]=>rfl
 |d::r=>by
  show(oB (f d bs) λx=>oB (lY r f bs) λl=>some (x::l))=_;rw[Ab f bs r];simp only[bY];cases f d bs with
  |none=>rfl
  |some x=>cases bY (λd=>f d bs) r<;>rfl
noncomputable def Cm(b:af)(k:List D->Option D):Option D:=
 af.rec (motive:=λ_=>(List D->Option D)->Option D) (λ_ cs k=>k cs) (λ_ _ _ _ _=>none) (λ_ _ _ _=>none) (λ_ _ _ _=>none) (λ_ _ _ _ _ _=>none) b k
noncomputable def V8(b:af):Option D:=
 af.rec (motive:=λ_=>Option D) (λ_ _=>none) (λ_ _ _ _=>none) (λ_ ks vs=>some (.nk ks vs)) (λ_ _ _=>none) (λ_ _ _ _ _=>none) b
noncomputable def PU(b:af)(k:Nat->Nat->List (List D)->Option D):Option D:=
 af.rec (motive:=λ_=>(Nat->Nat->List (List D)->Option D)->Option D) (λ_ _ _=>none) (λ_ g sz rs k=>k g sz rs) (λ_ _ _ _=>none) (λ_ _ _ _=>none) (λ_ _ _ _ _ _=>none) b k
noncomputable def V9(n:Nat):List (List D)->Option (List (List D)):=
 Nat.rec (motive:=λ_=>List (List D)->Option (List (List D))) (λ_=>some []) (λ_ ih l=>List.rec (motive:=λ_=>Option (List (List D))) (some []) (λc r _=>oB (ih r) λs=>some (c::s)) l) n
theorem Lc:∀(n:Nat)(l:List (List D)),V9 n l=some (l.take n)
 |0,l=>by rw[List.take_zero];rfl
 |n+1,[]=>rfl
 |n+1,c::r=>by
  show(oB (V9 n r) λs=>some (c::s))=_;rw[Lc n r];rfl
noncomputable def Wa(n:Nat):List (List D)->List (List D):=
 Nat.rec (motive:=λ_=>List (List D)->List (List D)) (λl=>l) (λ_ ih l=>List.rec (motive:=λ_=>List (List D)) [] (λ_ r _=>ih r) l) n
theorem Lf:∀(n:Nat)(l:List (List D)),Wa n l=l.drop n
 |0,_=>rfl
 |n+1,[]=>rfl
 |n+1,_::r=>by show Wa n r=_;rw[Lf n r];rfl
abbrev FZ:=(D->List af->Option D)->List af->Option D
def Ul(_:D->List af->Option D)(_:List af):Option D:=none
def ES(d:D)(_:D->List af->Option D)(_:List af):Option D:=some d
noncomputable def aaJ(cs:List D)(f:D->List af->Option D)(bs:List af):Option D:=oB (lY cs f bs) λl=>some (.agg l)
noncomputable def aaK(cs:List D)(f:D->List af->Option D)(bs:List af):Option D:=oB (lY cs f bs) λl=>some (.b9 l)
noncomputable def Wb(i off:Nat)(f:D->List af->Option D)(bs:List af):Option D:=oB (fR bs i) λb=>Cm b λcs=>oB (lY (n8 off cs) f bs) λl=>some (.ro l)
noncomputable def aaL(i off sz len:Nat)(f:D->List af->Option D)(bs:List af):Option D:=oB (fR bs i) λb=>Cm b λcs=>bI (fits cs off (len*sz)) (oB (lY ((cs.drop off).take (len*sz)) f bs) λl=>some (.list sz (chunk sz len l)))
noncomputable def Wc(i:Nat)(_:D->List af->Option D)(bs:List af):Option D:=oB (fR bs i) V8
noncomputable def rSl(i g off len:Nat)(_:D->List af->Option D)(bs:List af):Option D:=oB (fR bs i) λb=>PU b λg' sz rs=>bI (Nat.beq g g') (oB (V9 len (Wa off rs)) λl=>some (.list sz l))
noncomputable def aaM(fn:Fn)(fs cs:List D)(f:D->List af->Option D)(bs:List af):Option D:=oB (lY fs f bs) λl=>oB (lY cs f bs) λm=>some (.bR fn l m)
noncomputable def Lg(d:D):FZ:=
 D.rec (motive_1:=λ_=>FZ) (motive_2:=λ_=>PUnit.{1}) (motive_3:=λ_=>PUnit.{1})
  Ul
  (ES (.bool true))
  (ES (.bool false))
  (λb=>ES (.bool b))
  (λkd n=>ES (.int kd n))
  (λs=>ES (.str s))
  (λcs _=>aaJ cs)
  (λcs _=>aaK cs)
  (ES .cO)
  (λi off=>Wb i off)
  (λi off=>Wb i off)
  (λi g r off=>Ul)
  (λcs _=>ES (.ro cs))
  (λsz rows _=>ES (.list sz rows))
  (ES (.list 0 []))
  (λi g off len=>rSl i g off len)
  (λfn fs cs _ _=>aaM fn fs cs)
  (ES .a7)
  Ul
  (λl=>Ul)
  (ES .fh)
  (ES .dI)
  (λi=>Wc i)
  (λks vs _ _=>ES (.nk ks vs))
  (λi=>Ul)
  (λi off sz len=>aaL i off sz len)
  (λg off=>ES (.gp g off))
  (λks vs _ _=>Ul)
  (λc=>ES (.dY c))
  .unit (λ_ _ _ _=>.unit) .unit (λ_ _ _ _=>.unit) d
noncomputable def iC(n:Nat):D->List af->Option D:=
 Nat.rec (motive:=λ_=>D->List af->Option D) (λ_ _=>none) (λ_ ih d bs=>Lg d ih bs) n
theorem yj(bs:List af):∀(n:Nat)(d:D),iC n d bs=reify bs n d
 |0,_=>rfl
 |n+1,d=>by
  have hm:∀l,lY l (iC n) bs=bY (reify bs n) l:=λl=>by
   rw[Ab];congr 1;funext d;exact yj bs n d
  show Lg d (iC n) bs=_;cases d<;>first|rfl|skip
  case agg cs=>
   show(oB (lY cs (iC n) bs) λl=>some (D.agg l))=_;rw[hm];simp only[reify];cases bY (reify bs n) cs<;>rfl
  case b9 cs=>
   show(oB (lY cs (iC n) bs) λl=>some (D.b9 l))=_;rw[hm];simp only[reify];cases bY (reify bs n) cs<;>rfl
  case gj i off sz len=>
   show(oB (fR bs i) λb=>Cm b λcs=>bI (fits cs off (len*sz)) (oB (lY ((cs.drop off).take (len*sz)) (iC n) bs) λl=>some (D.list sz (chunk sz len l))))=_;rw[ez];simp only[reify];cases bs[i]? with
   |none=>rfl
   |some b=>
    cases b<;>first|rfl|skip
    rename_i fz cs;show bI (fits cs off (len*sz)) (oB (lY ((cs.drop off).take (len*sz)) (iC n) bs) λl=>some (D.list sz (chunk sz len l)))=_;rw[hm];simp only;cases fits cs off (len*sz)with
    |false=>rfl
    |true=>cases bY (reify bs n) ((cs.drop off).take (len*sz))<;>rfl
  case loc i off=>
   show(oB (fR bs i) λb=>Cm b λcs=>oB (lY (n8 off cs) (iC n) bs) λl=>some (D.ro l))=_;rw[ez];simp only[reify];cases bs[i]? with
   |none=>rfl
   |some b=>
    cases b<;>first|rfl|skip
    rename_i fz cs;show(oB (lY (n8 off cs) (iC n) bs) λl=>some (D.ro l))=_;rw[hm,lX];simp only;cases bY (reify bs n) (cs.drop off)<;>rfl
  case bH i off=>
   show(oB (fR bs i) λb=>Cm b λcs=>oB (lY (n8 off cs) (iC n) bs) λl=>some (D.ro l))=_;rw[ez];simp only[reify];cases bs[i]? with
   |none=>rfl
   |some b=>
    cases b<;>first|rfl|skip
    rename_i fz cs;show(oB (lY (n8 off cs) (iC n) bs) λl=>some (D.ro l))=_;rw[hm,lX];simp only;cases bY (reify bs n) (cs.drop off)<;>rfl
  case cn i=>
   show oB (fR bs i) V8=_;rw[ez];simp only[reify];cases bs[i]? with
   |none=>rfl
   |some b=>cases b<;>rfl
  case sl i g off len=>
   show(oB (fR bs i) λb=>PU b λg' sz rs=>bI (Nat.beq g g') (oB (V9 len (Wa off rs)) λl=>some (D.list sz l)))=_;rw[ez];simp only[reify];cases bs[i]? with
   |none=>rfl
   |some b=>
    cases b<;>first|rfl|skip
    rename_i fz g' sz rs;show bI (Nat.beq g g') (oB (V9 len (Wa off rs)) λl=>some (D.list sz l))=_;rw[Lc,Lf];simp only;cases Nat.beq g g'<;>rfl
  case bR fn fs cs=>
   show(oB (lY fs (iC n) bs) λl=>oB (lY cs (iC n) bs) λm=>some (D.bR fn l m))=_;rw[hm,hm];simp only[reify];cases bY (reify bs n) fs with
   |none=>rfl
   |some l=>cases bY (reify bs n) cs<;>rfl
noncomputable def lq(l:List D)(bs:List af):Option (List D):=lY l (iC 8) bs
theorem mr(l:List D)(bs:List af):lq l bs=fi bs l:=by
 unfold lq fi;rw[Ab];congr 1;funext d;exact yj bs 8 d
noncomputable def Of(d:D)(A:List D)(bs:List af)(k:KZ):Option RZ:=@Bool.rec (λ_=>D->List D->List af->KZ->Option RZ) (λd A bs k=>vX (aK bs d A) λbs=>k 3 d bs) (λd _ bs k=>k 3 d bs) (plain d) d A bs k
theorem Lh{d:D}{A:List D}{bs:List af}{k:KZ}{r:RZ}(h:Of d A bs k=some r):k 3 d (aK bs d A)=some r:=by
 unfold Of at h;cases hp:plain d with
 |true=>
  rw[hp]at h;unfold aK;rw[hp];exact h
 |false=>
  rw[hp]at h;have h:(vX (aK bs d A) λbs=>k 3 d bs)=some r:=h;rw[iy]at h;exact h
noncomputable def Wd(fk:Nat)(A:List D)(P:ZP)(bs:List af)(k:KZ):Option RZ:=oB (lq A bs) λrs=>oB (P.cal fk rs) λd=>Of d A bs k
def We(fk:Nat)(A:List D)(P:ZP)(bs:List af)(k:KZ):Option RZ:=zS P.lW fk A ⟨[],bs,.aQ⟩ (kF bs k)
noncomputable def Wf(fk:Nat)(A:List D)(P:ZP)(bs:List af)(k:KZ):Option RZ:=oB (lq A bs) λrs=>oB (P.calY fk rs []) λr=>oB (yb r.1 r.2) λb=>N3 A ⟨[],bs,.aQ⟩ b (kF bs k)
noncomputable def Li(fk:Nat)(A:List D)(P:ZP)(bs:List af)(k:KZ):Option RZ:=
 @Bool.rec (λ_=>Nat->List D->ZP->List af->KZ->Option RZ) (@Bool.rec (λ_=>Nat->List D->ZP->List af->KZ->Option RZ) Wd We (P.C.sh fk)) Wf (P.C.nw fk) fk A P bs k
def uG(_ _:List D)(_:List D)(_:ZP)(_:List af)(_:KZ):Option RZ:=none
noncomputable def Wg(fk:Nat)(fs cs as:List D)(P:ZP)(bs:List af)(k:KZ):Option RZ:=Li fk (fs++(as++cs)) P bs k
noncomputable def fnZ(f:Fn):List D->List D->List D->ZP->List af->KZ->Option RZ:=
 Fn.rec (motive:=λ_=>List D->List D->List D->ZP->List af->KZ->Option RZ) (λfk=>Wg fk) (λ_=>uG) (λ_ _=>uG) (λ_ _ _ _=>uG) (λ_=>uG) f
def eJ(_:List D)(_:ZP)(_:List af)(_:KZ):Option RZ:=none
noncomputable def aaN(f:Fn)(fs cs as:List D)(P:ZP)(bs:List af)(k:KZ):Option RZ:=fnZ f fs cs as P bs k
noncomputable def Wh(d:D):List D->ZP->List af->KZ->Option RZ:=
 D.rec (motive_1:=λ_=>List D->ZP->List af->KZ->Option RZ) (motive_2:=λ_=>PUnit.{1}) (motive_3:=λ_=>PUnit.{1})
  eJ
  eJ
  eJ
  (λ_=>eJ)
  (λ_ _=>eJ)
  (λ_=>eJ)
  (λ_ _=>eJ)
  (λ_ _=>eJ)
  eJ
  (λ_ _=>eJ)
  (λ_ _=>eJ)
  (λ_ _ _ _=>eJ)
  (λ_ _=>eJ)
  (λ_ _ _=>eJ)
  eJ
  (λ_ _ _ _=>eJ)
  (λfn fs cs _ _=>aaN fn fs cs)
  eJ
  eJ
  (λ_=>eJ)
  eJ
  eJ
  (λ_=>eJ)
  (λ_ _ _ _=>eJ)
  (λ_=>eJ)
  (λ_ _ _ _=>eJ)
  (λ_ _=>eJ)
  (λ_ _ _ _=>eJ)
  (λ_=>eJ)
  .unit (λ_ _ _ _=>.unit) .unit (λ_ _ _ _=>.unit) d
noncomputable def RO(f:Operand)(c:Call)(P:ZP)(tm:List (Nat×D))(bs:List af)(k:KZ):Option RZ:=oB (mR f tm) λd=>oB (xF c.args.toList tm) λas=>Wh d as P bs k
def RP(b:Builtin)(c:Call)(P:ZP)(tm:List (Nat×D))(bs:List af)(k:KZ):Option RZ:=we P.T b c ⟨tm,bs,.aQ⟩ (kF bs k)
noncomputable def Lj(e:Callee):Call->OZ:=Callee.rec (motive:=λ_=>Call->OZ) RO (λ_ _ _ _ _ _ _=>none) RP e
noncomputable def Wi(c:Call)(P:ZP)(tm:List (Nat×D))(bs:List af)(k:KZ):Option RZ:=Lj c.callee c P tm bs k
noncomputable def PV(x:Operand)(_:ZP)(tm:List (Nat×D))(bs:List af)(k:KZ):Option RZ:=oB (mR x tm) λd=>k 0 d bs
noncomputable def RQ(t:TypeId)(P:ZP)(_:List (Nat×D))(bs:List af)(k:KZ):Option RZ:=oB (P.T t) λti=>ye bs (l5 t ti) 0 λn bs=>k 1 (.loc n 0) bs
noncomputable def aaO(_:TypeId)(x:Operand)(_:ZP)(tm:List (Nat×D))(bs:List af)(k:KZ):Option RZ:=oB (mR x tm) λd=>oB (wv d) λcs=>ye bs (.flat false cs) 0 λn bs=>k 1 (.loc n 0) bs
noncomputable def Wj(t:TypeId)(a:Operand)(P:ZP)(tm:List (Nat×D))(bs:List af)(k:KZ):Option RZ:=oB (P.T t) λti=>oB (mR a tm) λp=>K7 p ti P bs k
noncomputable def RR(t:TypeId)(a x:Operand)(P:ZP)(tm:List (Nat×D))(bs:List af)(k:KZ):Option RZ:=oB (P.T t) λti=>oB (mR a tm) λp=>oB (mR x tm) λd=>@Bool.rec (λ_=>Option RZ) (re ti bs .aQ p d (kF bs k)) (oB (wv d) λds=>bI (Nat.beq ds.length ti.size) (ER p ds bs k)) (pR p d)
def ET:List af->List af->Bool
 |[],[]=>true
 |a::r,b::s=>(match xy a b with|true=>ET r s|false=>false)
 |_,_=>false
theorem Ac:∀{a b:List af},ET a b=true->a=b
 |[],[],_=>rfl
 |[],_::_,h=>by simp[ET]at h
 |_::_,[],h=>by simp[ET]at h
 |a::r,b::s,h=>by
  simp only[ET]at h;split at h
  .rename_i h1;rw[uA h1,Ac h]
  cases h
def Og(a b:RZ):Bool:=match ju a.1 b.1 with|true=>ET a.2 b.2|false=>false
theorem Gy{a b:RZ}(h:Og a b=true):a=b:=by
 unfold Og at h;split at h
 .rename_i h1
  exact Prod.ext (so h1) (Ac h)
 cases h
noncomputable def tH(bs:List af)(k:KZ):Option RZ:=oB (k 0 (.bool true) bs) λr=>oB (k 0 (.bool false) bs) λr'=>bI (Og r r') (some r)
theorem sr{bs:List af}{k:KZ}{r:RZ}(h:tH bs k=some r)(b:Bool):k 0 (.bool b) bs=some r:=by
 obtain⟨r1,h1,h⟩:=aD h;obtain⟨r2,h2,h⟩:=aD h;obtain⟨h3,h⟩:=a8 h;cases h;have:=Gy h3;subst this;cases b<;>assumption
def fc(_:List af)(_:KZ):Option RZ:=none
noncomputable def Wl(rows:List (List D))(bs:List af)(k:KZ):Option RZ:=List.rec (motive:=λ_=>Option RZ) (tH bs k) (λ_ _ _=>k 0 (.bool false) bs) rows
noncomputable def Wm(i g len:Nat)(bs:List af)(k:KZ):Option RZ:=oB (fR bs i) λb=>rj b λ_ g' _ _=>bI (Nat.beq g g') (Nat.rec (motive:=λ_=>Option RZ) (tH bs k) (λ_ _=>k 0 (.bool false) bs) len)
noncomputable def RS(d:D):List af->KZ->Option RZ:=
 D.rec (motive_1:=λ_=>List af->KZ->Option RZ) (motive_2:=λ_=>PUnit.{1}) (motive_3:=λ_=>PUnit.{1})
  fc
  fc
  fc
  (λ_=>fc)
  (λ_ _=>fc)
  (λ_=>fc)
  (λ_ _=>fc)
  (λ_ _=>fc)
  fc
  (λ_ _=>fc)
  (λ_ _=>fc)
  (λ_ _ _ _=>fc)
  (λ_ _=>fc)
  (λsz rows _=>Wl rows)
  tH
  (λi g off len=>Wm i g len)
  (λ_ _ _ _ _=>fc)
  fc
  fc
  (λ_=>fc)
  fc
  fc
  (λ_=>fc)
  (λ_ _ _ _=>fc)
  (λ_=>fc)
  (λ_ _ _ _=>fc)
  (λ_ _=>fc)
  (λ_ _ _ _=>fc)
  (λ_=>fc)
  .unit (λ_ _ _ _=>.unit) .unit (λ_ _ _ _=>.unit) d
noncomputable def PW(op:BinOp)(t:TypeId)(x y:Operand)(P:ZP)(tm:List (Nat×D))(bs:List af)(k:KZ):Option RZ:=oB (P.T t) λti=>oB (mR x tm) λa=>oB (mR y tm) λb=>RF a b ti op bs k
def Gz(desc:TypeDesc)(op:BinOp)(a:D)(bs:List af)(k:KZ):Option RZ:=match desc,op,a with
 |.interface _,.eql,.dI=>k 0 (.bool true) bs
 |.interface _,.neq,.dI=>k 0 (.bool false) bs
 |_,_,_=>none
def Ad:Operand->Bool
 |.const .nilIface=>true
 |_=>false
noncomputable def PX(op:BinOp)(t:TypeId)(x y:Operand)(P:ZP)(tm:List (Nat×D))(bs:List af)(k:KZ):Option RZ:=oB (P.T t) λti=>oB (mR x tm) λa=>@Bool.rec (λ_=>Option RZ) (bI (x9 ti.desc op true) (RS a bs k)) (Gz ti.desc op a bs k) (Ad y)
noncomputable def aaP(op:BinOp)(t:TypeId)(x y:Operand)(_:TypeId)(P:ZP)(tm:List (Nat×D))(bs:List af)(k:KZ):Option RZ:=
 @Bool.rec (λ_=>BinOp->TypeId->Operand->Operand->ZP->List (Nat×D)->List af->KZ->Option RZ) PW PX (fU y) op t x y P tm bs k
noncomputable def EU(t:TypeId)(x:Operand)(f:Nat)(P:ZP)(tm:List (Nat×D))(bs:List af)(k:KZ):Option RZ:=oB (P.T t) λti=>oB (mR x tm) λp=>oB (fK P.T ti.desc f) λq=>bI (Nat.blt 0 q.2.size) (faZ p q.1 bs k)
abbrev IxZ:=Option Nat->D->Nat->Bool->List af->KZ->Option RZ
def iI(_:Option Nat)(_:D)(_:Nat)(_:Bool)(_:List af)(_:KZ):Option RZ:=none
noncomputable def Wn(_:IntKind)(n:Int)(o:Option Nat)(p:D)(es:Nat)(lit:Bool)(bs:List af)(k:KZ):Option RZ:=iaZ o p n es lit bs k
noncomputable def ixZ(d:D):IxZ:=
 D.rec (motive_1:=λ_=>IxZ) (motive_2:=λ_=>PUnit.{1}) (motive_3:=λ_=>PUnit.{1})
  iI
  iI
  iI
  (λ_=>iI)
  (λkd n=>Wn kd n)
  (λ_=>iI)
  (λ_ _=>iI)
  (λ_ _=>iI)
  iI
  (λ_ _=>iI)
  (λ_ _=>iI)
  (λ_ _ _ _=>iI)
  (λ_ _=>iI)
  (λ_ _ _=>iI)
  iI
  (λ_ _ _ _=>iI)
  (λ_ _ _ _ _=>iI)
  iI
  iI
  (λ_=>iI)
  iI
  iI
  (λ_=>iI)
  (λ_ _ _ _=>iI)
  (λ_=>iI)
  (λ_ _ _ _=>iI)
  (λ_ _=>iI)
  (λ_ _ _ _=>iI)
  (λ_=>iI)
  .unit (λ_ _ _ _=>.unit) .unit (λ_ _ _ _=>.unit) d
noncomputable def EV(t:TypeId)(x i:Operand)(P:ZP)(tm:List (Nat×D))(bs:List af)(k:KZ):Option RZ:=
 oB (P.T t) λti=>oB (mR x tm) λp=>oB (mR i tm) λn=>oB (ee P.T ti.desc) λte=>oB (Aa ti.desc) λo=>ixZ n o p te.size (isConst i) bs k
def eK(_:Nat)(_:List af)(_:KZ):Option RZ:=none
noncomputable def aaQ(ds:List D)(i:Nat)(bs:List af)(k:KZ):Option RZ:=oB (fR ds i) λd=>k 0 d bs
noncomputable def Wo(d:D):Nat->List af->KZ->Option RZ:=
 D.rec (motive_1:=λ_=>Nat->List af->KZ->Option RZ) (motive_2:=λ_=>PUnit.{1}) (motive_3:=λ_=>PUnit.{1})
  eK
  eK
  eK
  (λ_=>eK)
  (λ_ _=>eK)
  (λ_=>eK)
  (λ_ _=>eK)
  (λcs _=>aaQ cs)
  eK
  (λ_ _=>eK)
  (λ_ _=>eK)
  (λ_ _ _ _=>eK)
  (λ_ _=>eK)
  (λ_ _ _=>eK)
  eK
  (λ_ _ _ _=>eK)
  (λ_ _ _ _ _=>eK)
  eK
  eK
  (λ_=>eK)
  eK
  eK
  (λ_=>eK)
  (λ_ _ _ _=>eK)
  (λ_=>eK)
  (λ_ _ _ _=>eK)
  (λ_ _=>eK)
  (λ_ _ _ _=>eK)
  (λ_=>eK)
  .unit (λ_ _ _ _=>.unit) .unit (λ_ _ _ _=>.unit) d
noncomputable def Lk(x:Operand)(i:Nat)(_:ZP)(tm:List (Nat×D))(bs:List af)(k:KZ):Option RZ:=oB (mR x tm) λd=>Wo d i bs k
noncomputable def H8(fn:Fn)(fs cs:Array Operand)(_:ZP)(tm:List (Nat×D))(bs:List af)(k:KZ):Option RZ:=oB (xF fs.toList tm) λl=>oB (xF cs.toList tm) λm=>k 0 (.bR fn l m) bs
def fe(_:List af)(_:KZ):Option RZ:=none
def rk(bs:List af)(k:KZ):Option RZ:=k 0 .ff bs
def qc(bs:List af)(k:KZ):Option RZ:=k 0 .tt bs
noncomputable def aaR(b:Bool)(bs:List af)(k:KZ):Option RZ:=@Bool.rec (λ_=>Option RZ) (k 0 (.bool true) bs) (k 0 (.bool false) bs) b
noncomputable def Wp(d:D):List af->KZ->Option RZ:=
 D.rec (motive_1:=λ_=>List af->KZ->Option RZ) (motive_2:=λ_=>PUnit.{1}) (motive_3:=λ_=>PUnit.{1})
  fe
  rk
  qc
  (λb=>aaR b)
  (λ_ _=>fe)
  (λ_=>fe)
  (λ_ _=>fe)
  (λ_ _=>fe)
  fe
  (λ_ _=>fe)
  (λ_ _=>fe)
  (λ_ _ _ _=>fe)
  (λ_ _=>fe)
  (λ_ _ _=>fe)
  fe
  (λ_ _ _ _=>fe)
  (λ_ _ _ _ _=>fe)
  fe
  fe
  (λ_=>fe)
  fe
  fe
  (λ_=>fe)
  (λ_ _ _ _=>fe)
  (λ_=>fe)
  (λ_ _ _ _=>fe)
  (λ_ _=>fe)
  (λ_ _ _ _=>fe)
  (λ_=>fe)
  .unit (λ_ _ _ _=>.unit) .unit (λ_ _ _ _=>.unit) d
noncomputable def aaS(x:Operand)(_:ZP)(tm:List (Nat×D))(bs:List af)(k:KZ):Option RZ:=oB (mR x tm) λd=>Wp d bs k
noncomputable def zUn(op:UnOp)(t:TypeId)(x:Operand):OZ:=UnOp.rec (motive:=λ_=>OZ) (fC (.unOp .neg t x)) (fC (.unOp .xor t x)) (aaS x) (fC (.unOp .plus t x)) op
noncomputable def Ll(c:Nat)(tk te:TI)(key:D)(ok:Bool)(bs:List af)(k:KZ):Option RZ:=
 match key,tk.desc,kT te,ok with
 |.int .i64 n,.int .i64,.int .i64 0,true=>fIZ (pP c n) λd=>oB (k 0 (.b9 [.int .i64 d,.tt]) bs) λr=>oB (k 0 (.b9 [.int .i64 0,.ff]) bs) λr'=>bI (Og r r') (some r)
 |_,_,_,_=>none
theorem Oh{c:Nat}{tk te:TI}{key:D}{ok:Bool}{bs:List af}{k:KZ}{r:RZ}(h:Ll c tk te key ok bs k=some r){k':bE->Prop}(hk:∀d,k 0 d bs=some r->k' (.val d)):AT c tk te key ok k':=by
 unfold Ll at h;unfold AT;split at h
 .rename_i hd hz
  simp only[hd,hz];rw[La]at h;obtain⟨r1,g1,h⟩:=aD h;obtain⟨r2,g2,h⟩:=aD h;obtain⟨g3,h⟩:=a8 h;have e:=Gy g3;cases h;subst e;exact⟨hk _ g1,hk _ g2⟩
 cases h
noncomputable def Lm(t:TypeId)(x i:Operand)(ok:Bool)(P:ZP)(tm:List (Nat×D))(bs:List af)(k:KZ):Option RZ:=
 match mR x tm with
 |some (.dY c)=>(match P.T t,mR i tm with
  |some ti,some key=>(match ti.desc with
   |.map kt et=>(match P.T kt,P.T et with
    |some tk,some te=>bI (gG tk key) (Ll c tk te key ok bs k)
    |_,_=>none)
   |_=>none)
  |_,_=>none)
 |_=>fC (.lookup t x i ok) P tm bs k
noncomputable def opZ(o:Op):OZ:=
 Op.rec (motive:=λ_=>OZ)
  (λa=>PV a)
  (λa=>PV a)
  (λa b c=>fC (.pick a b c))
  (λa=>RQ a)
  (λa b=>aaO a b)
  (λa b=>fC (.build a b))
  (λa b c=>fC (.buildSlice a b c))
  (λa b c d=>fC (.insert a b c d))
  (λa b=>Wj a b)
  (λa b c=>RR a b c)
  (λa=>fC (.ready a))
  (λa=>fC (.waits a))
  (λa=>fC (.nilCheck a))
  (λa b c d e=>aaP a b c d e)
  (λa b c=>zUn a b c)
  (λa b c=>fC (.convert a b c))
  (λa b=>fC (.sliceToArrayPointer a b))
  (λa b=>fC (.makeInterface a b))
  (λa b c=>H8 a b c)
  (λa b=>fC (.makeMap a b))
  (λa b=>fC (.makeChan a b))
  (λa b c=>fC (.makeSlice a b c))
  (λa b c d e=>fC (.slice a b c d e))
  (λa b c=>EU a b c)
  (λa b c=>fC (.field a b c))
  (λa b c=>EV a b c)
  (λa b c=>fC (.index a b c))
  (λa b c d=>Lm a b c d)
  (λa b c d=>fC (.mapUpdate a b c d))
  (λa b c=>fC (.mapEntry a b c))
  (λa b c d=>fC (.entryStore a b c d))
  (λa b=>fC (.range a b))
  (λa b=>fC (.next a b))
  (λa=>fC (.entry a))
  (λa b c d=>fC (.typeAssert a b c d))
  (λa b=>Lk a b)
  (λa=>Wi a)
  (λa=>fC (.go a))
  (λa=>fC (.defer a))
  (λa=>fC (.panic a))
  (λa b=>fC (.send a b))
  (λa b c=>fC (.recv a b c))
  (λa b=>fC (.select a b))
  o
theorem H9{P:ZP}(cr:gz P.C P.cal P.lW){tm:List (Nat×D)}{bs:List af}{o:Oper}{k:KZ}{r:RZ}{k':bE->Prop}(hk:∀e,kE bs k e=some r->k' e)(h:opZ o.op P tm bs k=some r):dC P.T P.C ⟨tm,bs,.aQ⟩ o k':=by
 have el:∀op,o.op=op->fC op P tm bs k=some r->dC P.T P.C ⟨tm,bs,.aQ⟩ o k':=λop ho h=>by
  unfold fC at h;rw[<-ho,Oe]at h;exact j4 cr h λe he=>hk e (by rw[<-Cl];exact he)
 cases ho:o.op<;>rw[ho]at h<;>first|exact el _ ho h|skip
 all_goals unfold dC;rw[ho];simp only
 case lookup t x i ok=>
  have h:Lm t x i ok P tm bs k=some r:=h;unfold Lm at h;split at h
  .rename_i c h0
   split at h
   .rename_i ti key h1 h2
    split at h
    .rename_i kt et h3
     split at h
     .rename_i tk te h4 h5
      obtain⟨h6,h⟩:=a8 h;rw[eF x tm bs .aQ]at h0;rw[eF i tm bs .aQ]at h2;simp only[h0,h1,h2,h3,h4,h5];exact cA h6 (Oh h λd hd=>hk (.val d) hd)
     cases h
    cases h
   cases h
  have:=el _ ho h;unfold dC at this;rw[ho]at this;exact this
 case move x=>
  obtain⟨d,h1,h⟩:=aD (show(oB (mR x tm) λd=>k 0 d bs)=some r from h);rw[eF x tm bs .aQ]at h1;simp only[h1];exact hk (.val d) h
 case assign x=>
  obtain⟨d,h1,h⟩:=aD (show(oB (mR x tm) λd=>k 0 d bs)=some r from h);rw[eF x tm bs .aQ]at h1;simp only[h1];exact hk (.val d) h
 case alloc t=>
  obtain⟨ti,h1,h⟩:=aD (show(oB (P.T t) λti=>ye bs (l5 t ti) 0 λn bs=>k 1 (.loc n 0) bs)=some r from h);rw[wq,Nat.zero_add]at h;simp only[h1];exact hk (.new _ _) h
 case box t x=>
  obtain⟨d,h1,h⟩:=aD (show(oB (mR x tm) λd=>oB (wv d) λcs=>ye bs (.flat false cs) 0 λn bs=>k 1 (.loc n 0) bs)=some r from h);obtain⟨cs,h2,h⟩:=aD h;rw[wq,Nat.zero_add]at h;rw[eF x tm bs .aQ]at h1;rw[yi]at h2;simp only[h1,h2];exact hk (.new _ _) h
 case load t a=>
  obtain⟨ti,h1,h⟩:=aD (show(oB (P.T t) λti=>oB (mR a tm) λp=>K7 p ti P bs k)=some r from h);obtain⟨p,h2,h⟩:=aD h;rw[eF a tm bs .aQ]at h2;rw[h1,h2];have h3:=Ob (T:=P.T) (k':=kE bs k) (λd hd=>hd) h;cases p with
  |gp g off=>
   simp only at h3;split at h3
   .rename_i kd n ha hg
    simp only[ha];exact⟨kd,n,hg,hk (.val _) h3⟩
   cases h3
  |_=>exact tA h3 hk
 case store t a x=>
  obtain⟨ti,h1,h⟩:=aD (show(oB (P.T t) λti=>oB (mR a tm) λp=>oB (mR x tm) λd=>@Bool.rec (λ_=>Option RZ) (re ti bs .aQ p d (kF bs k)) (oB (wv d) λds=>bI (Nat.beq ds.length ti.size) (ER p ds bs k)) (pR p d))=some r from h);obtain⟨p,h2,h⟩:=aD h;obtain⟨d,h3,h⟩:=aD h;rw[eF a tm bs .aQ]at h2;rw[eF x tm bs .aQ]at h3;simp only[h1,h2,h3];cases kj:pR p d with
  |false=>
   rw[kj]at h;exact pC (k:=kF bs k) h λe he=>hk e (by rw[Cl]at he;exact he)
  |true=>
   rw[kj]at h;obtain⟨ds,h4,h⟩:=aD h;obtain⟨h5,h⟩:=a8 h;rw[yi]at h4;exact mn (K8 (k':=kE bs k) h4 h5 (λi b hb=>hb) h) hk
 case binOp op t x y t'=>
  have h:@Bool.rec (λ_=>BinOp->TypeId->Operand->Operand->ZP->List (Nat×D)->List af->KZ->Option RZ) PW PX (fU y) op t x y P tm bs k=some r:=h;cases hc:fU y with
  |false=>
   rw[hc]at h;obtain⟨ti,h1,h⟩:=aD (show(oB (P.T t) λti=>oB (mR x tm) λa=>oB (mR y tm) λb=>RF a b ti op bs k)=some r from h);obtain⟨a,h2,h⟩:=aD h;obtain⟨b,h3,h⟩:=aD h;rw[eF x tm bs .aQ]at h2;rw[eF y tm bs .aQ]at h3;rw[h1,h2,h3];have h4:=RG (k':=λd=>k 0 d bs) (λd hd=>hd) h;have h5:jN ti op a b λd=>k' (.val d):=p9 h4 λd hd=>hk (.val d) hd;cases b with
   |ao=>cases a<;>first|(simp[ra,di,rJ]at h4;done)|exact h5
   |dI=>cases a<;>first|(simp[ra,di,rJ]at h4;done)|exact h5
   |_=>cases a<;>exact h5
  |true=>
   rw[hc]at h;obtain⟨ti,h1,h⟩:=aD (show(oB (P.T t) λti=>oB (mR x tm) λa=>@Bool.rec (λ_=>Option RZ) (bI (x9 ti.desc op true) (RS a bs k)) (Gz ti.desc op a bs k) (Ad y))=some r from h);obtain⟨a,h2,hA⟩:=aD h;cases Y3:Ad y with
   |true=>
    rw[Y3]at hA;clear h;have hA:Gz ti.desc op a bs k=some r:=hA;obtain rfl:y=.const .nilIface:=by
     revert Y3;unfold Ad;split
     .intro _;rfl
     intro h;cases h
    rw[eF x tm bs .aQ]at h2;rw[h1,h2,show St.ev ⟨tm,bs,.aQ⟩ (.const .nilIface)=some .dI from rfl];unfold Gz at hA;revert hA
    generalize s5:ti.desc=dd
    intro hA;split at hA
    .simp only[s5,hc];exact hk (.val _) hA
    .simp only[s5,hc];exact hk (.val _) hA
    cases hA
   |false=>
   rw[Y3]at hA;have hA:bI (x9 ti.desc op true) (RS a bs k)=some r:=hA;obtain⟨h3,hB⟩:=a8 hA;clear h hA;obtain⟨e,e1,e2,_⟩:=ya h3;clear h3;subst e2;have hy:St.ev ⟨tm,bs,.aQ⟩ y=some .ao:=by
    revert hc Y3;unfold fU;split
    .intro _ _;rfl
    .intro _ h;exact absurd h (by decide)
    intro h;cases h
   rw[eF x tm bs .aQ]at h2;rw[h1,h2,hy];cases a with
   |list sz rows=>
    simp only[e1];intro b hb;cases rows with
    |nil=>exact hk (.val _) (sr (show tH bs k=some r from hB) b)
    |cons row rows=>
     cases b with
     |true=>cases hb rfl
     |false=>exact hk (.val _) hB
   |ao=>
    simp only[e1];exactλb=>hk (.val _) (sr (show tH bs k=some r from hB) b)
   |sl i g off len=>
    obtain⟨bx,g1,hB⟩:=aD (show(oB (fR bs i) λb=>rj b λ_ g' _ _=>bI (Nat.beq g g') (Nat.rec (motive:=λ_=>Option RZ) (tH bs k) (λ_ _=>k 0 (.bool false) bs) len))=some r from hB);obtain⟨fz,g',sz,rs,rfl,hB⟩:=oQ hB;obtain⟨g2,hB⟩:=a8 hB;rw[ez]at g1;simp only[e1,g1];refine cA g2 λb hb=>?_;cases len with
    |zero=>exact hk (.val _) (sr (show tH bs k=some r from hB) b)
    |succ n=>
     cases b with
     |true=>cases hb rfl
     |false=>exact hk (.val _) hB
   |_=>cases hB
 case unOp op t x=>
  cases op with
  |not=>
   obtain⟨d,h1,h⟩:=aD (show(oB (mR x tm) λd=>Wp d bs k)=some r from h);rw[eF x tm bs .aQ]at h1;cases d<;>first|(cases h;done)|skip
   .simp only[h1];exact hk (.val _) h
   .simp only[h1];exact hk (.val _) h
   rename_i b;simp only[h1];cases b<;>exact hk (.val _) h
  |neg=>have h9:=el _ ho (show fC (.unOp .neg t x) P tm bs k=some r from h);unfold dC at h9;rw[ho]at h9;exact h9
  |xor=>have h9:=el _ ho (show fC (.unOp .xor t x) P tm bs k=some r from h);unfold dC at h9;rw[ho]at h9;exact h9
  |plus=>have h9:=el _ ho (show fC (.unOp .plus t x) P tm bs k=some r from h);unfold dC at h9;rw[ho]at h9;exact h9
 case makeFunc fn fs cs=>
  obtain⟨l,h1,h⟩:=aD (show(oB (xF fs.toList tm) λl=>oB (xF cs.toList tm) λm=>k 0 (.bR fn l m) bs)=some r from h);obtain⟨m,h2,h⟩:=aD h;rw[uD tm bs .aQ]at h1 h2;simp only[h1,h2];exact hk (.val _) h
 case fieldAddr t x f=>
  obtain⟨ti,h1,h⟩:=aD (show(oB (P.T t) λti=>oB (mR x tm) λp=>oB (fK P.T ti.desc f) λq=>bI (Nat.blt 0 q.2.size) (faZ p q.1 bs k))=some r from h);obtain⟨p,h2,h⟩:=aD h;obtain⟨q,h3,h⟩:=aD h;obtain⟨h4,h⟩:=a8 h;rw[eF x tm bs .aQ]at h2;simp only[h1,h2,h3];exact cA h4 (lU (V2 (k':=kE bs k) (λd hd=>hd) h) hk)
 case indexAddr t x i=>
  obtain⟨ti,h1,h⟩:=aD (show(oB (P.T t) λti=>oB (mR x tm) λp=>oB (mR i tm) λn=>oB (ee P.T ti.desc) λte=>oB (Aa ti.desc) λo=>ixZ n o p te.size (isConst i) bs k)=some r from h);obtain⟨p,h2,h⟩:=aD h;obtain⟨n,h3,h⟩:=aD h;obtain⟨te,h4,h⟩:=aD h;obtain⟨ol,h5,h⟩:=aD h;rw[eF x tm bs .aQ]at h2;rw[eF i tm bs .aQ]at h3;simp only[h1,h2,h3,h4];cases n<;>first|(cases h;done)|skip
  exact lV (V6 (k':=kE bs k) h5 (λd hd=>hd) h) hk
 case extract x i=>
  obtain⟨d,h1,h⟩:=aD (show(oB (mR x tm) λd=>Wo d i bs k)=some r from h);rw[eF x tm bs .aQ]at h1;cases d<;>first|(cases h;done)|skip
  rename_i ds;obtain⟨d,h2,h⟩:=aD (show(oB (fR ds i) λd=>k 0 d bs)=some r from h);rw[ez]at h2;simp only[h1,h2];exact hk (.val _) h
 case call c=>
  have back:∀{p:Prop},(dC P.T P.C ⟨tm,bs,.aQ⟩ o k'->p)->dC P.T P.C ⟨tm,bs,.aQ⟩ o k'->p:=λf x=>f x;have main:dC P.T P.C ⟨tm,bs,.aQ⟩ o k':=by
   have h:Lj c.callee c P tm bs k=some r:=h;cases hc:c.callee with
   |invoke x y=>rw[hc]at h;cases h
   |builtin b=>
    rw[hc]at h;exact rf ho hc (show we P.T b c ⟨tm,bs,.aQ⟩ (kF bs k)=some r from h) λe he=>hk e (by rw[<-Cl];exact he)
   |value f=>
    rw[hc]at h;obtain⟨d,h1,h⟩:=aD (show(oB (mR f tm) λd=>oB (xF c.args.toList tm) λas=>Wh d as P bs k)=some r from h);obtain⟨as,h2,h⟩:=aD h;rw[eF f tm bs .aQ]at h1;rw[uD tm bs .aQ]at h2;cases d with
    |bR fn fs cs=>
     cases fn with
     |func fk=>
      have h:Li fk (fs++(as++cs)) P bs k=some r:=h;unfold Li at h;refine tC (cal:=P.cal) (calY:=P.lW) cr ho hc h1 h2 (k:=kE bs k) (r:=r) ?_ hk;unfold Gm;cases hn:P.C.nw fk with
      |true=>
       rw[hn]at h;obtain⟨rs,h4,h⟩:=aD (show(oB (lq (fs++(as++cs)) bs) λrs=>oB (P.calY fk rs []) λr=>oB (yb r.1 r.2) λb=>N3 (fs++(as++cs)) ⟨[],bs,.aQ⟩ b (kF bs k))=some r from h);obtain⟨x,h5,h⟩:=aD h;obtain⟨b,h6,h⟩:=aD h;rw[mr]at h4;rw[show kF bs k=kE bs k from funext (Cl bs k)]at h;have h7:P.lW fk rs [] .aQ=some (x.1,x.2,.aQ):=by unfold ZP.lW;simp only[h5]
       simp only[h4,nW,h7,h6];exact h
      |false=>
      rw[hn]at h;simp only;cases hs:P.C.sh fk with
      |false=>
       rw[hs]at h;obtain⟨rs,h4,h⟩:=aD (show(oB (lq (fs++(as++cs)) bs) λrs=>oB (P.cal fk rs) λd=>Of d (fs++(as++cs)) bs k)=some r from h);obtain⟨d,h5,h⟩:=aD h;rw[mr]at h4;simp only[h4,nW,h5];exact Lh h
      |true=>
       rw[hs]at h;have h:zS P.lW fk (fs++(as++cs)) ⟨[],bs,.aQ⟩ (kF bs k)=some r:=h;rw[show kF bs k=kE bs k from funext (Cl bs k)]at h;exact h
     |_=>cases h
    |_=>cases h
  unfold dC at main;rw[ho]at main;exact main
abbrev NZ:=List (Nat×D)->List af->Option RZ
def rl(d:D)(k:D->Option RZ):Option RZ:=k d
noncomputable def nBo(b:Bool)(k:D->Option RZ):Option RZ:=@Bool.rec (λ_=>Option RZ) (k .ff) (k .tt) b
noncomputable def yk(d:D):(D->Option RZ)->Option RZ:=
 D.rec (motive_1:=λ_=>(D->Option RZ)->Option RZ) (motive_2:=λ_=>PUnit.{1}) (motive_3:=λ_=>PUnit.{1})
  (rl .eL)
  (rl .tt)
  (rl .ff)
  (λb=>nBo b)
  (λkd n=>rl (.int kd n))
  (λs=>rl (.str s))
  (λcs _=>rl (.agg cs))
  (λcs _=>rl (.b9 cs))
  (rl .cO)
  (λi off=>rl (.loc i off))
  (λi off=>rl (.bH i off))
  (λi g r off=>rl (.bM i g r off))
  (λcs _=>rl (.ro cs))
  (λsz rows _=>rl (.list sz rows))
  (rl .ao)
  (λi g off len=>rl (.sl i g off len))
  (λfn fs cs _ _=>rl (.bR fn fs cs))
  (rl .a7)
  (rl .j7)
  (λl=>rl (.j8 l))
  (rl .fh)
  (rl .dI)
  (λi=>rl (.cn i))
  (λks vs _ _=>rl (.nk ks vs))
  (λi=>rl (.iY i))
  (λi off sz len=>rl (.gj i off sz len))
  (λg off=>rl (.gp g off))
  (λks vs _ _=>rl (.pO ks vs))
  (λc=>rl (.dY c))
  .unit (λ_ _ _ _=>.unit) .unit (λ_ _ _ _=>.unit) d
noncomputable def wx(g:Bool)(d:D)(k:D->Option RZ):Option RZ:=@Bool.rec (λ_=>D->(D->Option RZ)->Option RZ) rl yk g d k
noncomputable def o4(dst:Option Nat)(d:D)(tm:List (Nat×D))(k:List (Nat×D)->Option RZ):Option RZ:=
 @Option.rec Nat (λ_=>D->List (Nat×D)->(List (Nat×D)->Option RZ)->Option RZ) (λ_ tm k=>k tm) (λt d tm k=>k ((t,d)::tm)) dst d tm k
def Nc(g:Bool)(fl:Nat):Bool:=match g with
 |false=>true
 |true=>match fl with
  |0=>true
  |1=>false
  |2=>false
  |3=>true
  |4=>true
  |_=>false
noncomputable def Wq(g:Bool)(f:Nat->Bool)(dst:Option Nat)(tm:List (Nat×D))(next:NZ):KZ:=λfl d bs=>bI (f fl) (bI (Nc g fl) (wx g d λd=>o4 dst d tm λtm=>next tm bs))
noncomputable def PY(f:Nat->Bool)(g:Bool)(o:Oper)(P:ZP)(tm:List (Nat×D))(bs:List af)(next:NZ):Option RZ:=opZ o.op P tm bs (Wq g f o.dst tm next)
structure Oi(f:Nat->Bool)(fb:bE->Bool):Prop where
 val:∀d,f 0=true->fb (.val d)=false
 new:∀b mk,f 1=true->fb (.new b mk)=false
 set:∀i b d,f 2=true->fb (.set i b d)=false
 res:∀d as,f 3=true->fb (.res d as)=false
 dJ:∀d bs y,f 4=true->fb (.dJ d bs y)=false
 eo:∀b mk L,f 5=true->fb (.eo b mk L)=false
theorem Cn{dst:Option Nat}{d:D}{tm:List (Nat×D)}{bs:List af}{next:NZ}{r:RZ}{K':St->Prop}(hn:∀tm bs,next tm bs=some r->K' ⟨tm,bs,.aQ⟩)(h:(o4 dst d tm λtm=>next tm bs)=some r):K' (St.put ⟨tm,bs,.aQ⟩ dst d):=by
 cases dst with
 |none=>exact hn _ _ h
 |some t=>exact hn _ _ h
theorem oa(d:D)(k:D->Option RZ):(∃b,d=.bool b/\yk d k=(match b with|true=>k .tt|false=>k .ff))\/((∀b,d≠.bool b)/\yk d k=k d):=by
 cases d<;>first|exact .inr ⟨(λb e=>by cases e),rfl⟩|skip
 rename_i b;exact .inl ⟨b,rfl,by cases b<;>rfl⟩
theorem Co{P:ZP}(cr:gz P.C P.cal P.lW){f:Nat->Bool}{fb:bE->Bool}(hf:Oi f fb){g:Bool}{o:Oper}{tm:List (Nat×D)}{bs:List af}{next:NZ}{r:RZ}{K':St->Prop}(hn:∀tm bs,next tm bs=some r->K' ⟨tm,bs,.aQ⟩)
    (h:PY f g o P tm bs next=some r):ik P.T P.C fb g ⟨tm,bs,.aQ⟩ o K':=by
  unfold ik;refine H9 cr (λe he=>?_) h;have put:∀e d' cs,(∀Um,fP ⟨tm,bs,.aQ⟩ o.dst e Um=Um (St.put ⟨tm,cs,.aQ⟩ o.dst d'))->(o4 o.dst d' tm λtm=>next tm cs)=some r->fP ⟨tm,bs,.aQ⟩ o.dst e K':=λe d' cs h1 h2=>by
   rw[h1];exact Cn hn h2
  have pf:∀e d' cs,nv ⟨tm,bs,.aQ⟩ e=d'->bJ ⟨tm,bs,.aQ⟩ o.dst e=St.put ⟨tm,cs,.aQ⟩ o.dst d'->∀Um,fP ⟨tm,bs,.aQ⟩ o.dst e Um=Um (St.put ⟨tm,cs,.aQ⟩ o.dst d'):=λe d' cs _ h2 Um=>by rw[kY,h2]
  cases e with
  |val d=>
   obtain⟨h1,h2⟩:=a8 (show bI (f 0) (bI (Nc g 0) (wx g d λd=>o4 o.dst d tm λtm=>next tm bs))=some r from he)
   obtain⟨_,h2⟩:=a8 h2;rw[hf.val d h1];simp only;cases g with
   |false=>exact put _ d bs (pf _ _ _ rfl rfl) h2
   |true=>
    have h2:yk d (λd=>o4 o.dst d tm λtm=>next tm bs)=some r:=h2
    rcases oa d (λd=>o4 o.dst d tm λtm=>next tm bs)with⟨b,rfl,e2⟩|⟨hb,e2⟩
    .rw[e2]at h2
     cases b with
     |true=>exact⟨λ_=>put _ .tt bs (pf _ _ _ rfl rfl) h2,λe=>by cases e⟩
     |false=>exact⟨(λe=>by cases e),λ_=>put _ .ff bs (pf _ _ _ rfl rfl) h2⟩
    rw[e2]at h2;cases d<;>first|exact put _ _ bs (pf _ _ _ rfl rfl) h2|exact(hb _ rfl).elim
  |res d as=>
   obtain⟨h1,h2⟩:=a8 (show bI (f 3) (bI (Nc g 3) (wx g d λd'=>o4 o.dst d' tm λtm=>next tm (aK bs d as)))=some r from he)
   obtain⟨_,h2⟩:=a8 h2;rw[hf.res d as h1];simp only;cases g with
   |false=>exact put _ d (aK bs d as) (pf _ _ _ rfl rfl) h2
   |true=>
    have h2:yk d (λd'=>o4 o.dst d' tm λtm=>next tm (aK bs d as))=some r:=h2
    rcases oa d (λd'=>o4 o.dst d' tm λtm=>next tm (aK bs d as))with⟨b,rfl,e2⟩|⟨hb,e2⟩
    .rw[e2]at h2
     cases b with
     |true=>exact⟨λ_=>put _ .tt bs (pf _ _ _ rfl rfl) h2,λe=>by cases e⟩
     |false=>exact⟨(λe=>by cases e),λ_=>put _ .ff bs (pf _ _ _ rfl rfl) h2⟩
    rw[e2]at h2;cases d<;>first|exact put _ _ _ (pf _ _ _ rfl rfl) h2|exact(hb _ rfl).elim
  |dJ d cs y=>
   cases y with
   |aQ=>
    obtain⟨h1,h2⟩:=a8 (show bI (f 4) (bI (Nc g 4) (wx g d λd=>o4 o.dst d tm λtm=>next tm cs))=some r from he)
    obtain⟨_,h2⟩:=a8 h2;rw[hf.dJ d cs .aQ h1];simp only;cases g with
    |false=>exact put _ d cs (pf _ _ _ rfl rfl) h2
    |true=>
     have h2:yk d (λd=>o4 o.dst d tm λtm=>next tm cs)=some r:=h2
     rcases oa d (λd=>o4 o.dst d tm λtm=>next tm cs)with⟨b,rfl,e2⟩|⟨hb,e2⟩
     .rw[e2]at h2
      cases b with
      |true=>exact⟨λ_=>put _ .tt cs (pf _ _ _ rfl rfl) h2,λe=>by cases e⟩
      |false=>exact⟨(λe=>by cases e),λ_=>put _ .ff cs (pf _ _ _ rfl rfl) h2⟩
     rw[e2]at h2;cases d<;>first|exact put _ _ cs (pf _ _ _ rfl rfl) h2|exact(hb _ rfl).elim
   |_=>cases he
  |new b mk=>
   obtain⟨h1,h2⟩:=a8 (show bI (f 1) (bI (Nc g 1) (wx g (mk bs.length) λd=>o4 o.dst d tm λtm=>next tm (bs++[b])))=some r from he)
   obtain⟨h3,h2⟩:=a8 h2;rw[hf.new b mk h1];have hg:g=false:=by revert h3;cases g<;>simp[Nc]
   subst hg;exact put _ (mk bs.length) (bs++[b]) (pf _ _ _ rfl rfl) h2
  |set i b d=>
   obtain⟨h1,h2⟩:=a8 (show bI (f 2) (bI (Nc g 2) (wx g d λd=>o4 o.dst d tm λtm=>next tm (bs.set i b)))=some r from he)
   obtain⟨h3,h2⟩:=a8 h2;rw[hf.set i b d h1];have hg:g=false:=by revert h3;cases g<;>simp[Nc]
   subst hg;exact put _ d (bs.set i b) (pf _ _ _ rfl rfl) h2
  |eo b mk L=>
   obtain⟨h1,h2⟩:=a8 (show bI (f 5) (bI (Nc g 5) (wx g (mk bs.length) λd=>o4 o.dst d tm λtm=>next tm (au bs 0 L++[b])))=some r from he)
   obtain⟨h3,h2⟩:=a8 h2;rw[hf.eo b mk L h1];have hg:g=false:=by revert h3;cases g<;>simp[Nc]
   subst hg;exact put _ (mk bs.length) (au bs 0 L++[b]) (pf _ _ _ rfl rfl) h2
  |yielded b y=>cases he
  |fO b y nb=>cases he
abbrev Cp:=ZP->(Nat->Bool)->List Oper->Nat->List (Nat×D)->List af->NZ->Option RZ
noncomputable def Ln(ih:Cp)(o:Oper)(P:ZP)(f:Nat->Bool)(ops:List Oper)(i:Nat)(tm:List (Nat×D))(bs:List af)(K:NZ):Option RZ:=PY f (fj ops i) o P tm bs λtm bs=>ih P f ops (Nat.succ i) tm bs K
noncomputable def Lp(ih:Cp)(o:Oper)(P:ZP)(f:Nat->Bool)(ops:List Oper)(i:Nat)(tm:List (Nat×D))(bs:List af)(K:NZ):Option RZ:=o4 o.dst .j7 tm λtm=>ih P f ops (Nat.succ i) tm bs K
noncomputable def Lq(p:Nat×Bool)(ih:Cp)(o:Oper)(P:ZP)(f:Nat->Bool)(ops:List Oper)(i:Nat)(tm:List (Nat×D))(bs:List af)(K:NZ):Option RZ:=
 @Bool.rec (λ_=>Option RZ) (oB (guardOf ops ⟨tm,bs,.aQ⟩ p.1) λv=>@Bool.rec (λ_=>Option RZ) (Lp ih o P f ops i tm bs K) (Ln ih o P f ops i tm bs K) (v==p.2)) (Lp ih o P f ops i tm bs K) (cq ops ⟨tm,bs,.aQ⟩ p.1)
noncomputable def Wr(q:Option (Nat×Bool))(ih:Cp)(o:Oper)(P:ZP)(f:Nat->Bool)(ops:List Oper)(i:Nat)(tm:List (Nat×D))(bs:List af)(K:NZ):Option RZ:=
 @Option.rec (Nat×Bool) (λ_=>Cp->Oper->Cp) Ln Lq q ih o P f ops i tm bs K
noncomputable def Ae(l:List Oper):Cp:=List.rec (motive:=λ_=>Cp) (λ_ _ _ _ tm bs K=>K tm bs) (λo _ ih P f ops i tm bs K=>Wr o.guard ih o P f ops i tm bs K) l
theorem mu{P:ZP}(cr:gz P.C P.cal P.lW){f:Nat->Bool}{fb:bE->Bool}(hf:Oi f fb){ops:List Oper}{r:RZ}:∀(l:List Oper)(i:Nat)(tm:List (Nat×D))(bs:List af){K:NZ}{K':St->Prop}(_:∀tm bs,K tm bs=some r->K' ⟨tm,bs,.aQ⟩)(_:Ae l P f ops i tm bs K=some r),aL P.T P.C fb ops l i ⟨tm,bs,.aQ⟩ K'
 |[],_,_,_,_,_,hK,h=>hK _ _ h
 |o::rest,i,tm,bs,K,K',hK,h=>by
  have h:Wr o.guard (Ae rest) o P f ops i tm bs K=some r:=h;have step:Ln (Ae rest) o P f ops i tm bs K=some r->ik P.T P.C fb (fj ops i) ⟨tm,bs,.aQ⟩ o λσ'=>aL P.T P.C fb ops rest (i+1) σ' K':=λh=>Co cr hf (λtm bs h=>mu cr hf rest (i+1) tm bs hK h) h;have skip:Lp (Ae rest) o P f ops i tm bs K=some r->aL P.T P.C fb ops rest (i+1) (St.put ⟨tm,bs,.aQ⟩ o.dst .j7) K':=λh=>
   Cn (next:=λtm bs=>Ae rest P f ops (Nat.succ i) tm bs K) (K':=λU=>aL P.T P.C fb ops rest (i+1) U K') (bs:=bs) (λtm bs h=>mu cr hf rest (i+1) tm bs hK h) h
  simp only[aL];cases hg:o.guard with
  |none=>rw[hg]at h;exact step h
  |some p=>
   obtain⟨j,want⟩:=p;rw[hg]at h;have h:Lq (j,want) (Ae rest) o P f ops i tm bs K=some r:=h;unfold Lq at h;simp only at h⊢;cases hu:cq ops ⟨tm,bs,.aQ⟩ j with
   |true=>rw[hu]at h;exact skip h
   |false=>
    rw[hu]at h;simp only at h⊢;obtain⟨v,h1,h⟩:=aD h;rw[h1];cases v<;>cases want<;>first|exact step h|exact skip h
theorem Ws(lo:Nat):Oi (λ_=>true) (oX lo):=⟨λ_ _=>rfl,λ_ _ _=>rfl,λ_ _ _ _=>rfl,λ_ _ _=>rfl,λ_ _ _ _=>rfl,λ_ _ _ _=>rfl⟩
def fl4(n:Nat):Bool:=Nat.blt n 4
theorem RT:Oi fl4 mZ:=⟨λ_ _=>rfl,λ_ _ _=>rfl,λ_ _ _ _=>rfl,λ_ _ _=>rfl,(λ_ _ _ h=>by cases h),(λ_ _ _ h=>by cases h)⟩
inductive ZL where
 |free (aE:List Nat) (vs:List (Pl×Nat))
 |clean (aE:List Nat) (vs:List (Pl×Nat))
structure ZH where
 x:XH
 zl:Nat->ZL
abbrev KC:=Ex->NZ
def kX(K:KC)(e:Ex)(U:St):Option RZ:=match U.y with
 |.aQ=>K e U.tmps U.boxes
 |_=>none
abbrev oc:=ZP->ZH->Nat->List (Nat×D)->List af->KC->Option RZ
def yl(id:Nat)(ops:List Oper)(dr:Bool)(P:ZP)(h:ZH)(lo:Nat)(tm:List (Nat×D))(bs:List af)(K:KC):Option RZ:=zY P.T P.C P.cal P.lW h.x id ops dr lo ⟨tm,bs,.aQ⟩ (kX K)
noncomputable def RU(id:Nat)(ops:List Oper)(P:ZP)(h:ZH)(lo:Nat)(tm:List (Nat×D))(bs:List af)(K:KC):Option RZ:=
 RH.rec (motive:=λ_=>Nat->List Oper->oc) (λ_ ops P _ _ tm bs K=>bI (ly ops) (Ae ops P fl4 ops 0 tm bs (K .normal))) (λ_ _ id ops=>yl id ops true) (λ_ _ _ id ops=>yl id ops true) (λ_ id ops=>yl id ops true) (λid ops=>yl id ops true) (h.x.rh id) id ops P h lo tm bs K
noncomputable def RV(id:Nat)(ops:List Oper)(P:ZP)(h:ZH)(lo:Nat)(tm:List (Nat×D))(bs:List af)(K:KC):Option RZ:=
 @Bool.rec (λ_=>Nat->List Oper->oc) (λ_ ops P _ _ tm bs K=>Ae ops P (λ_=>true) ops 0 tm bs (K .normal)) (λid ops=>yl id ops false) (oO P.C.sh P.C.nw ops) id ops P h lo tm bs K
noncomputable def Wt(id:Nat)(ops:Array Oper)(dr:Bool)(P:ZP)(h:ZH)(lo:Nat)(tm:List (Nat×D))(bs:List af)(K:KC):Option RZ:=
 @Bool.rec (λ_=>Nat->List Oper->oc) RV RU dr id ops.toList P h lo tm bs K
theorem EW{P:ZP}{It:MT}(cr:gz P.C P.cal P.lW){h:ZH}(xD:∀k as v,h.x.po k as=some v->P.C.Qn k as v){id:Nat}{ops:Array Oper}{dr:Bool}{lo:Nat}{tm:List (Nat×D)}{bs:List af}{K:KC}{r:RZ}{Q:Ex->St->Prop}(hQ:∀e tm bs,K e tm bs=some r->Q e ⟨tm,bs,.aQ⟩)
    (hx:Wt id ops dr P h lo tm bs K=some r):W P.T P.C It lo (.region id ops dr) ⟨tm,bs,.aQ⟩ Q:=by
  have YG:∀e U,kX K e U=some r->Q e U:=λe U he=>by
   unfold kX at he;split at he
   .rename_i hy
    have:=hQ e _ _ he;cases U;simp only at hy;subst hy;exact this
   cases he
  have el:∀dr',yl id ops.toList dr' P h lo tm bs K=some r->W P.T P.C It lo (.region id ops dr') ⟨tm,bs,.aQ⟩ Q:=λdr' hx=>xE cr xD YG hx;cases dr with
  |false=>
   have hx:RV id ops.toList P h lo tm bs K=some r:=hx;unfold RV at hx;cases hp:oO P.C.sh P.C.nw ops.toList with
   |true=>rw[hp]at hx;exact el false hx
   |false=>
    rw[hp]at hx;simp only[W];rw[qa,hp];exact mu cr (Ws lo) _ _ _ _ (λtm bs h=>hQ _ _ _ h) hx
  |true=>
   have hx:RU id ops.toList P h lo tm bs K=some r:=hx;unfold RU at hx;cases hr:h.x.rh id with
   |draw=>
    rw[hr]at hx;obtain⟨h1,hx⟩:=a8 (show bI (ly ops.toList) (Ae ops.toList P fl4 ops.toList 0 tm bs (K .normal))=some r from hx);simp only[W];exact .inl ⟨h1,mu cr RT _ _ _ _ (λtm bs h=>hQ _ _ _ h) hx⟩
   |late m l=>rw[hr]at hx;exact el true hx
   |perm p m l=>rw[hr]at hx;exact el true hx
   |Gn m=>rw[hr]at hx;exact el true hx
   |any=>rw[hr]at hx;exact el true hx
def de(_ _:Option RZ):Option RZ:=none
def Wu(a _:Option RZ):Option RZ:=a
def Wv(_ b:Option RZ):Option RZ:=b
noncomputable def Ww(t:Bool)(a b:Option RZ):Option RZ:=@Bool.rec (λ_=>Option RZ) b a t
noncomputable def PZ(d:D):Option RZ->Option RZ->Option RZ:=
 D.rec (motive_1:=λ_=>Option RZ->Option RZ->Option RZ) (motive_2:=λ_=>PUnit.{1}) (motive_3:=λ_=>PUnit.{1})
  de
  Wu
  Wv
  (λb=>Ww b)
  (λ_ _=>de)
  (λ_=>de)
  (λ_ _=>de)
  (λ_ _=>de)
  de
  (λ_ _=>de)
  (λ_ _=>de)
  (λ_ _ _ _=>de)
  (λ_ _=>de)
  (λ_ _ _=>de)
  de
  (λ_ _ _ _=>de)
  (λ_ _ _ _ _=>de)
  de
  de
  (λ_=>de)
  de
  de
  (λ_=>de)
  (λ_ _ _ _=>de)
  (λ_=>de)
  (λ_ _ _ _=>de)
  (λ_ _=>de)
  (λ_ _ _ _=>de)
  (λ_=>de)
  .unit (λ_ _ _ _=>.unit) .unit (λ_ _ _ _=>.unit) d
noncomputable def GA(l:List Nat):List (Nat×D)->(List (Nat×D)->Option RZ)->Option RZ:=
 List.rec (motive:=λ_=>List (Nat×D)->(List (Nat×D)->Option RZ)->Option RZ) (λ_ k=>k []) (λt _ ih tm k=>@Option.rec D (λ_=>Option RZ) (ih tm k) (λd=>ih tm λr=>k ((t,d)::r)) (Ch tm t)) l
theorem rm(tm:List (Nat×D)):∀(l:List Nat)(k:List (Nat×D)->Option RZ),GA l tm k=k (il tm l)
 |[],_=>rfl
 |t::r,k=>by
  show@Option.rec D (λ_=>Option RZ) (GA r tm k) (λd=>GA r tm λr=>k ((t,d)::r)) (Ch tm t)=_;rw[wo];simp only[il];cases look tm t with
  |none=>exact rm tm r k
  |some d=>exact rm tm r _
abbrev pE:=List (Nat×D)->List af->KC->Option RZ
abbrev Wx:=List (Nat×D)->List af->NZ->Option RZ
noncomputable def qd(n:Nat):pE->Wx->KC->NZ:=
 Nat.rec (motive:=λ_=>pE->Wx->KC->NZ) (λ_ _ _ _ _=>none)
  (λ_ ih body cl K tm bs=>body tm bs λe=>Ex.rec (motive:=λ_=>NZ) (λtm bs=>cl tm bs λtm bs=>ih body cl K tm bs) (λid=>K (.exit id)) (K .ret) (λv=>K (.panic v)) e) n
noncomputable def qe(aE:List Nat):Wx:=λtm bs k=>GA aE tm λtm=>k tm bs
def my(lo:Nat)(vs:List (Pl×Nat))(aE:List Nat)(nb:Nat):Wx:=λtm bs k=>ah (!(ri vs)) (ZF lo vs aE nb ⟨tm,bs,.aQ⟩ λτ=>match τ.y with|.aQ=>k τ.tmps τ.boxes|_=>none)
noncomputable def Lr(aE:List Nat)(vs:List (Pl×Nat))(ih:oc)(P:ZP)(h:ZH)(lo:Nat)(tm:List (Nat×D))(bs:List af)(K:KC):Option RZ:=
 qe aE tm bs λtm bs=>match St.vec ⟨tm,bs,.aQ⟩ vs with
  |⟨tm,bs,y⟩=>(match y with
   |.aQ=>qd 4000 (λtm bs K=>ih P h lo tm bs K) (qe aE) K tm bs
   |_=>none)
noncomputable def P0(aE:List Nat)(vs:List (Pl×Nat))(ih:oc)(P:ZP)(h:ZH)(lo:Nat)(tm:List (Nat×D))(bs:List af)(K:KC):Option RZ:=
 bI (Nat.ble lo bs.length) (my lo vs aE bs.length tm bs λAf bu=>match St.vec ⟨Af,bu,.aQ⟩ vs with
  |⟨Af,bu,y⟩=>(match y with
   |.aQ=>qd 4000 (λtm bs K=>ih P h lo tm bs K) (my lo vs aE (bs.length+AW vs)) K Af bu
   |_=>none))
noncomputable def P1(z:ZL)(ih:oc)(P:ZP)(h:ZH)(lo:Nat)(tm:List (Nat×D))(bs:List af)(K:KC):Option RZ:=
 ZL.rec (motive:=λ_=>oc->oc) Lr P0 z ih P h lo tm bs K
noncomputable def Ag(xs:List (List D)):pE->pE->List Nat->List (Nat×D)->Nat->KC->List af->Option RZ:=
 List.rec (motive:=λ_=>pE->pE->List Nat->List (Nat×D)->Nat->KC->List af->Option RZ) (λ_ _ _ tm _ K bs=>K .normal tm bs)
  (λx _ ih wa wc ps tm m K bs=>wa (dL ps x tm) bs λe=>Ex.rec (motive:=λ_=>NZ)
   (λWy Nd=>wc Wy Nd λe=>Ex.rec (motive:=λ_=>NZ) (λ_ Cq=>vX (Cq.take m) λLs=>bI (aS m Ls) (ih wa wc ps tm m K Ls)) (λid _ Cq=>K (.exit id) tm Cq) (λ_ Cq=>K .ret tm Cq) (λ_ _ _=>none) e)
   (λ_ _ _=>none) (λ_ _=>none) (λ_ _ _=>none) e) xs
def Wz:oc:=λ_ _ _ tm bs K=>K .normal tm bs
noncomputable def WB(_ _:Code)(ql FP:oc):oc:=λP h lo tm bs K=>ql P h lo tm bs λe=>Ex.rec (motive:=λ_=>NZ) (λtm bs=>FP P h lo tm bs K) (λid=>K (.exit id)) (K .ret) (λv=>K (.panic v)) e
noncomputable def WC(c:Operand)(_ _:Code)(ql FP:oc):oc:=λP h lo tm bs K=>oB (mR c tm) λd=>PZ d (ql P h lo tm bs K) (FP P h lo tm bs K)
noncomputable def Lt(id:Nat)(_:Code)(ih:oc):oc:=λP h lo tm bs K=>ih P h lo tm bs λe=>Ex.rec (motive:=λ_=>NZ) (K .normal) (λDL=>@Bool.rec (λ_=>NZ) (K (.exit DL)) (K .normal) (Nat.beq DL id)) (K .ret) (λv=>K (.panic v)) e
noncomputable def WD(c:Code)(ih:oc):oc:=λP h lo tm bs K=>P1 (h.zl (b7 c)) ih P h lo tm bs K
noncomputable def WG(c:Code)(ps:Array Nat)(ql P2:oc)(kf:Nat)(cs:List D):oc:=λP h lo tm bs K=>
 oB (lq cs bs) λrs=>oB (h.x.it kf rs) λxs=>bI (Nat.ble lo bs.length)<|bI (fF bs.length tm)<|vX ((au bs 0 (cs.flatMap (aF bs fuel))).take bs.length) λWH=>bI (aS bs.length WH)<|bI (xs.all λx=>Nat.beq x.length ps.size&&(O7 x&&H5 x))<|
  vX (St.vec ⟨tm,WH,.aQ⟩ (cF (h.x.vh (b7 c)))).boxes λNd=>Ag xs (λtm bu K=>ql P h (bs.length+(h.x.vh (b7 c)).length) tm bu K) (λtm bu K=>P2 P h (bs.length+(h.x.vh (b7 c)).length) tm bu K) ps.toList tm (bs.length+(h.x.vh (b7 c)).length) K Nd
def Y5(bs:List af):List Nat->Option (List (Nat×List D))
 |[]=>some []
 |i::r=>match bs[i]? with
  |some (.flat true cs)=>match cu cs,Nat.blt 0 cs.length,Y5 bs r with
   |true,true,some l=>some ((i,cs)::l)
   |_,_,_=>none
  |_=>none
theorem Cr{nb:Nat}{bs:List af}:∀{l:List Nat}{kp:List (Nat×List D)},Y5 bs l=some kp->(∀i∈l,i<nb)->kp.map (·.1)=l/\FM nb bs kp
 |[],kp,h,_=>by cases h;exact⟨rfl,trivial⟩
 |i::r,kp,h,hl=>by
  unfold Y5 at h;split at h
  .split at h
   .rename_i h1 h2 h3
    cases h;obtain⟨h4,h5⟩:=Cr h3 λj hj=>hl j (List.mem_cons_of_mem _ hj);exact⟨by simp only[List.map_cons,h4],⟨by assumption,h1,cX h2,hl i (by simp)⟩,h5⟩
   cases h
  cases h
noncomputable def wy(kp:List (Nat×List D))(xs:List (List D)):pE->pE->List Nat->List (Nat×D)->Nat->KC->List af->Option RZ:=
 List.rec (motive:=λ_=>pE->pE->List Nat->List (Nat×D)->Nat->KC->List af->Option RZ) (λ_ _ _ tm _ K bs=>K .normal tm bs)
  (λx _ ih wa wc ps tm m K bs=>wa (dL ps x tm) bs λe=>Ex.rec (motive:=λ_=>NZ)
   (λWy Nd=>wc Wy Nd λe=>Ex.rec (motive:=λ_=>NZ) (λ_ Cq=>vX ((yY kp Cq).take m) λLs=>bI (aS m Ls) (ih wa wc ps tm m K Ls)) (λid _ Cq=>vX (yY kp Cq) (K (.exit id) tm)) (λ_ Cq=>vX (yY kp Cq) (K .ret tm)) (λ_ _ _=>none) e)
   (λ_ _ _=>none) (λ_ _=>none) (λ_ _ _=>none) e) xs
noncomputable def P3(c:Code)(ps:Array Nat)(ql P2:oc)(kf:Nat)(cs:List D):oc:=λP h lo tm bs K=>
 oB (lq cs bs) λrs=>oB (h.x.it kf rs) λxs=>bI (Nat.ble lo bs.length)<|bI (fF bs.length tm)<|vX ((au bs 0 (cs.flatMap (aF bs fuel))).take bs.length) λWH=>bI (aS bs.length WH)<|bI (xs.all λx=>Nat.beq x.length ps.size&&(x.all Uz&&H5 x))<|
  vX (au (St.vec ⟨tm,WH,.aQ⟩ (cF (h.x.vh (b7 c)))).boxes 0 h.x.kp) λNd=>oB (Y5 Nd h.x.kp) λkp=>bI (h.x.kp.all λi=>Nat.blt i bs.length)<|wy kp xs (λtm bu K=>ql P h (bs.length+(h.x.vh (b7 c)).length) tm bu K) (λtm bu K=>P2 P h (bs.length+(h.x.vh (b7 c)).length) tm bu K) ps.toList tm (bs.length+(h.x.vh (b7 c)).length) K Nd
noncomputable def RW(d:D)(c:Code)(ps:Array Nat)(ql P2:oc):oc:=λP h lo tm bs K=>match d with
 |.bR (.func kf) [] cs=>bI (Nat.blt kf 4096) (@Bool.rec (λ_=>Option RZ) (WG c ps ql P2 kf cs P h lo tm bs K) (P3 c ps ql P2 kf cs P h lo tm bs K) (Nat.beq kf h.x.kl))
 |_=>none
noncomputable def RX(f:Operand)(ps:Array Nat)(_ c:Code)(ql P2:oc):oc:=λP h lo tm bs K=>oB (mR f tm) λd=>RW d c ps ql P2 P h lo tm bs K
def WI(id:Nat):oc:=λ_ _ _ tm bs K=>K (.exit id) tm bs
def aaT:oc:=λ_ _ _ tm bs K=>K .ret tm bs
def RY(_:Nat):oc:=λ_ _ _ tm bs K=>K .normal tm bs
def cNo:oc:=λ_ _ _ _ _ _=>none
def R0(_:Code)(ih:oc):oc:=λP h lo tm bs K=>ih P h lo tm bs K
noncomputable def zC(c:Code):oc:=Code.rec (motive:=λ_=>oc) Wz Wt WB WC Lt WD RX WI R0 RY (λ_=>cNo) aaT (λ_=>cNo) c
theorem wz{P:ZP}{It:MT}(cr:gz P.C P.cal P.lW){h:ZH}(xD:∀k as v,h.x.po k as=some v->P.C.Qn k as v)(hit:∀k as xs,h.x.it k as=some xs->It.it k as xs)(EX:∀k,Nat.blt k 4096=true->It.sh k=false/\It.ls k=Nat.beq k h.x.kl):
    ∀(c:Code)(lo:Nat)(tm:List (Nat×D))(bs:List af){K:KC}{r:RZ}{Q:Ex->St->Prop}(_:∀e tm bs,K e tm bs=some r->Q e ⟨tm,bs,.aQ⟩)(_:zC c P h lo tm bs K=some r),W P.T P.C It lo c ⟨tm,bs,.aQ⟩ Q:=by
  intro c
  induction c with
  |skip=>intro lo tm bs K r Q hQ hx;exact hQ _ _ _ hx
  |region id ops dr=>intro lo tm bs K r Q hQ hx;exact EW cr xD hQ hx
  |seq a b ql FP=>
   intro lo tm bs K r Q hQ hx;simp only[W];refine ql lo tm bs (λe tm bs he=>?_) (show WB a b (zC a) (zC b) P h lo tm bs K=some r from hx);cases e with
   |normal=>exact FP lo tm bs hQ he
   |exit id=>exact hQ _ _ _ he
   |ret=>exact hQ _ _ _ he
   |panic v=>exact hQ _ _ _ he
  |cond x a b ql FP=>
   intro lo tm bs K r Q hQ hx;obtain⟨d,h1,hx⟩:=aD (show(oB (mR x tm) λd=>PZ d (zC a P h lo tm bs K) (zC b P h lo tm bs K))=some r from hx);rw[eF x tm bs .aQ]at h1;simp only[W,h1];cases d<;>first|(cases hx;done)|exact ql lo tm bs hQ hx|exact FP lo tm bs hQ hx|skip
   rename_i t;cases t with
   |true=>exact⟨λ_=>ql lo tm bs hQ hx,λh=>by cases h⟩
   |false=>exact⟨(λh=>by cases h),λ_=>FP lo tm bs hQ hx⟩
  |block id x ih=>
   intro lo tm bs K r Q hQ hx;simp only[W];refine ih lo tm bs (λe tm bs he=>?_) (show Lt id x (zC x) P h lo tm bs K=some r from hx);cases e with
   |normal=>exact hQ _ _ _ he
   |exit DL=>
    have he:@Bool.rec (λ_=>NZ) (K (.exit DL)) (K .normal) (Nat.beq DL id) tm bs=some r:=he;simp only;cases hb:Nat.beq DL id with
    |true=>rw[hb]at he;exact hQ _ _ _ he
    |false=>rw[hb]at he;exact hQ _ _ _ he
   |ret=>exact hQ _ _ _ he
   |panic v=>exact hQ _ _ _ he
  |loop x ih=>
   intro lo tm bs K r Q hQ hx;have hx:P1 (h.zl (b7 x)) (zC x) P h lo tm bs K=some r:=hx;simp only[W];have rounds:∀(cl:Wx)(vs:List (Pl×Nat))(aE:List Nat)(nb:Nat)(lL:∀tm bs k,cl tm bs k=some r->St.gd ⟨tm,bs,.aQ⟩ lo vs aE nb/\∃Af bu,St.cl ⟨tm,bs,.aQ⟩ lo vs aE nb=⟨Af,bu,.aQ⟩/\k Af bu=some r),
       ∀σ',(∃n tm bs,σ'=⟨tm,bs,.aQ⟩/\qd n (λtm bs K=>zC x P h lo tm bs K) cl K tm bs=some r)->W P.T P.C It lo x σ' λe uu=>match e with
        |.normal=>uu.gd lo vs aE nb/\(∃n tm bs,uu.cl lo vs aE nb=⟨tm,bs,.aQ⟩/\qd n (λtm bs K=>zC x P h lo tm bs K) cl K tm bs=some r)/\
            (n5 λn=>∃tm bs,uu.cl lo vs aE nb=⟨tm,bs,.aQ⟩/\qd n (λtm bs K=>zC x P h lo tm bs K) cl K tm bs=some r)<(n5 λn=>∃tm bs,σ'=⟨tm,bs,.aQ⟩/\qd n (λtm bs K=>zC x P h lo tm bs K) cl K tm bs=some r)
        |.exit id=>Q (.exit id) uu
        |.ret=>Q .ret uu
        |.panic v=>Q (.panic v) uu:=by
     rintro cl vs aE nb lL σ'⟨n0,tm0,uU,hσ,AN⟩;obtain⟨⟨Y6,Nk,hσ1,hn⟩,_⟩:=tF (p:=λn=>∃tm bs,σ'=⟨tm,bs,.aQ⟩/\qd n (λtm bs K=>zC x P h lo tm bs K) cl K tm bs=some r) ⟨tm0,uU,hσ,AN⟩;revert hn
     generalize hm:(n5 λn=>∃tm bs,σ'=⟨tm,bs,.aQ⟩/\qd n (λtm bs K=>zC x P h lo tm bs K) cl K tm bs=some r)=m
     intro hn;subst hσ1;cases m with
     |zero=>cases hn
     |succ m=>
      refine ih lo Y6 Nk (λe tm2 O9 he=>?_) (show(zC x P h lo Y6 Nk λe=>Ex.rec (motive:=λ_=>NZ) (λtm bs=>cl tm bs λtm bs=>qd m (λtm bs K=>zC x P h lo tm bs K) cl K tm bs) (λid=>K (.exit id)) (K .ret) (λv=>K (.panic v)) e)=some r from hn);cases e with
      |normal=>
       obtain⟨hg,tm3,bs3,hc,hk⟩:=lL tm2 O9 _ (show(cl tm2 O9 λtm bs=>qd m (λtm bs K=>zC x P h lo tm bs K) cl K tm bs)=some r from he);refine⟨hg,⟨m,tm3,bs3,hc,hk⟩,?_⟩;have:=(tF (p:=λn=>∃tm bs,St.cl ⟨tm2,O9,.aQ⟩ lo vs aE nb=⟨tm,bs,.aQ⟩/\qd n (λtm bs K=>zC x P h lo tm bs K) cl K tm bs=some r) ⟨tm3,bs3,hc,hk⟩).2;omega
      |exit id=>exact hQ _ _ _ he
      |ret=>exact hQ _ _ _ he
      |panic v=>exact hQ _ _ _ he
   cases hz:h.zl (b7 x)with
   |free aE vs=>
    rw[hz]at hx;have hx:Lr aE vs (zC x) P h lo tm bs K=some r:=hx;unfold Lr qe at hx;rw[rm]at hx;have hr:=rounds (qe aE) ((.free,0)::vs) aE lo (λtm bs k hk=>by
     unfold qe at hk;rw[rm]at hk;exact⟨trivial,_,_,rfl,hk⟩)
    refine⟨aE,lo,(.free,0)::vs,λσ'=>∃n tm bs,σ'=⟨tm,bs,.aQ⟩/\qd n (λtm bs K=>zC x P h lo tm bs K) (qe aE) K tm bs=some r,λσ'=>n5 λn=>∃tm bs,σ'=⟨tm,bs,.aQ⟩/\qd n (λtm bs K=>zC x P h lo tm bs K) (qe aE) K tm bs=some r,Nat.ble_eq_true_of_le (Nat.le_refl _),trivial,?_,hr⟩;show∃n Af bu,St.vec ⟨il tm aE,bs,.aQ⟩ vs=⟨Af,bu,.aQ⟩/\_;simp only at hx
    generalize St.vec ⟨il tm aE,bs,.aQ⟩ vs=τ at hx⊢
    cases τ with
    |mk t b y=>cases y<;>first|exact⟨4000,_,_,rfl,hx⟩|(cases hx;done)
   |clean aE vs=>
    rw[hz]at hx;have lL:∀(nb:Nat)(tm:List (Nat×D))(bs:List af)(k:NZ),my lo vs aE nb tm bs k=some r->St.gd ⟨tm,bs,.aQ⟩ lo vs aE nb/\∃Af bu,St.cl ⟨tm,bs,.aQ⟩ lo vs aE nb=⟨Af,bu,.aQ⟩/\k Af bu=some r:=λnb tm bs k hk=>by
     unfold my at hk;obtain⟨_,hk⟩:=aa hk;obtain⟨h1,h2⟩:=N8 hk;refine⟨h1,?_⟩
     generalize St.cl _ lo vs aE nb=τ at h2⊢
     cases τ with
     |mk t b y=>cases y<;>first|exact⟨_,_,rfl,h2⟩|(cases h2;done)
    have hx:P0 aE vs (zC x) P h lo tm bs K=some r:=hx;obtain⟨h1,hx⟩:=a8 hx;obtain⟨h2,Y6,Nk,h3,hx⟩:=lL _ _ _ _ hx;have hr:=rounds (my lo vs aE (bs.length+AW vs)) vs aE (bs.length+AW vs) (lL _);refine⟨aE,bs.length,vs,λσ'=>∃n Af bu,σ'=⟨Af,bu,.aQ⟩/\qd n (λtm bs K=>zC x P h lo tm bs K) (my lo vs aE (bs.length+AW vs)) K Af bu=some r,λσ'=>n5 λn=>∃Af bu,σ'=⟨Af,bu,.aQ⟩/\qd n (λtm bs K=>zC x P h lo tm bs K) (my lo vs aE (bs.length+AW vs)) K Af bu=some r,h1,h2,?_,hr⟩;rw[h3];simp only at hx
    generalize St.vec ⟨Y6,Nk,.aQ⟩ vs=τ at hx⊢
    cases τ with
    |mk t b y=>cases y<;>first|exact⟨4000,_,_,rfl,hx⟩|(cases hx;done)
  |exit id=>intro lo tm bs K r Q hQ hx;exact hQ _ _ _ hx
  |ret=>intro lo tm bs K r Q hQ hx;exact hQ _ _ _ hx
  |label l=>intro lo tm bs K r Q hQ hx;exact hQ _ _ _ hx
  |scope x ih=>intro lo tm bs K r Q hQ hx;exact ih lo tm bs hQ hx
  |goto l=>intro lo tm bs K r Q hQ hx;cases hx
  |refuse o7=>intro lo tm bs K r Q hQ hx;cases hx
  |rangeFunc f ps as x ql Jb=>
   intro lo tm bs K r Q hQ hx;obtain⟨d,h1,hx⟩:=aD (show(oB (mR f tm) λd=>RW d x ps (zC as) (zC x) P h lo tm bs K)=some r from hx);rw[eF f tm bs .aQ]at h1;simp only[W,h1];unfold RW at hx;split at hx
   .rename_i kf cs
    obtain⟨h0,hx⟩:=a8 hx;refine⟨rfl,?_⟩;rw[(EX kf h0).1,(EX kf h0).2];cases Du:Nat.beq kf h.x.kl with
    |true=>
    rw[Du]at hx;simp only at hx;unfold P3 at hx;obtain⟨rs,h2,hx⟩:=aD hx;obtain⟨xs,h3,hx⟩:=aD hx;obtain⟨h4,hx⟩:=a8 hx;obtain⟨h5,hx⟩:=a8 hx;rw[iy]at hx;obtain⟨h6,hx⟩:=a8 hx;obtain⟨h7,hx⟩:=a8 hx;rw[iy]at hx;obtain⟨kp,h8,hx⟩:=aD hx;obtain⟨h9,hx⟩:=a8 hx;obtain⟨tp,JX⟩:=Cr h8 λi hi=>cX (List.all_eq_true.1 h9 i hi);rw[mr]at h2;have cW:∀y∈xs,y.length=ps.size/\y.all Uz=true/\H5 y=true:=λy hy=>by
     have:=List.all_eq_true.1 h7 y hy;simp only[Bool.and_eq_true]at this;exact⟨Nat.eq_of_beq_eq_true this.1,this.2⟩
    refine⟨rs,h2,xs,hit _ _ _ h3,kp,bs.length,h.x.vh (b7 x),λi bu y'=>y'=.aQ/\wy kp (xs.drop i) (λtm bu K=>zC as P h (bs.length+(h.x.vh (b7 x)).length) tm bu K) (λtm bu K=>zC x P h (bs.length+(h.x.vh (b7 x)).length) tm bu K) ps.toList tm (bs.length+(h.x.vh (b7 x)).length) K bu=some r,_,_,h4,h5,rfl,h6,rfl,by rw[tp];exact JX,⟨rfl,by rw[tp];exact hx⟩,?_,λy hy=>⟨(cW y hy).1,(cW y hy).2.1⟩,?_⟩
    .rintro i y bu yy hy⟨rfl,hi⟩
     have hd:xs.drop i=y::xs.drop (i+1):=by
      obtain⟨cG,he⟩:=List.getElem?_eq_some_iff.1 hy;rw[<-he];exact List.drop_eq_getElem_cons cG
     rw[hd]at hi;refine tG (cW y (List.mem_of_getElem? hy)).2.2 _ _ _ _ ?_;refine ql _ _ _ (λe Wy Nd he=>?_) hi;cases e with
     |normal=>
      refine Jb _ _ _ (λe tm₂ Cq he=>?_) he;cases e with
      |normal=>
       have he:(vX ((yY kp Cq).take (bs.length+(h.x.vh (b7 x)).length)) λLs=>bI (aS (bs.length+(h.x.vh (b7 x)).length) Ls) (wy kp (xs.drop (i+1)) (λtm bu K=>zC as P h (bs.length+(h.x.vh (b7 x)).length) tm bu K) (λtm bu K=>zC x P h (bs.length+(h.x.vh (b7 x)).length) tm bu K) ps.toList tm (bs.length+(h.x.vh (b7 x)).length) K Ls))=some r:=he;rw[iy]at he;obtain⟨g1,g2⟩:=a8 he;exact⟨g1,rfl,g2⟩
      |exit id=>exact hQ _ _ _ ((iy (yY kp Cq) (K (.exit id) tm)).symm.trans he)
      |ret=>exact hQ _ _ _ ((iy (yY kp Cq) (K .ret tm)).symm.trans he)
      |panic v=>cases he
     |_=>cases he
    .rintro bu yy⟨rfl,hi⟩
     rw[List.drop_length]at hi;exact hQ _ _ _ hi
    |false=>
    rw[Du]at hx;simp only at hx;unfold WG at hx;obtain⟨rs,h2,hx⟩:=aD hx;obtain⟨xs,h3,hx⟩:=aD hx;obtain⟨h4,hx⟩:=a8 hx;obtain⟨h5,hx⟩:=a8 hx;rw[iy]at hx;obtain⟨h6,hx⟩:=a8 hx;obtain⟨h7,hx⟩:=a8 hx;rw[iy]at hx;rw[mr]at h2;have cW:∀y∈xs,y.length=ps.size/\O7 y=true/\H5 y=true:=λy hy=>by
     have:=List.all_eq_true.1 h7 y hy;simp only[Bool.and_eq_true]at this;exact⟨Nat.eq_of_beq_eq_true this.1,this.2⟩
    refine⟨rs,h2,xs,hit _ _ _ h3,bs.length,h.x.vh (b7 x),λi bu y'=>y'=.aQ/\Ag (xs.drop i) (λtm bu K=>zC as P h (bs.length+(h.x.vh (b7 x)).length) tm bu K) (λtm bu K=>zC x P h (bs.length+(h.x.vh (b7 x)).length) tm bu K) ps.toList tm (bs.length+(h.x.vh (b7 x)).length) K bu=some r,h4,h5,h6,⟨rfl,hx⟩,?_,λy hy=>⟨(cW y hy).1,(cW y hy).2.1⟩,?_⟩
    .rintro i y bu yy hy⟨rfl,hi⟩
     have hd:xs.drop i=y::xs.drop (i+1):=by
      obtain⟨cG,he⟩:=List.getElem?_eq_some_iff.1 hy;rw[<-he];exact List.drop_eq_getElem_cons cG
     rw[hd]at hi;refine tG (cW y (List.mem_of_getElem? hy)).2.2 _ _ _ _ ?_;refine ql _ _ _ (λe Wy Nd he=>?_) hi;cases e with
     |normal=>
      refine Jb _ _ _ (λe tm₂ Cq he=>?_) he;cases e with
      |normal=>
       have he:(vX (Cq.take (bs.length+(h.x.vh (b7 x)).length)) λLs=>bI (aS (bs.length+(h.x.vh (b7 x)).length) Ls) (Ag (xs.drop (i+1)) (λtm bu K=>zC as P h (bs.length+(h.x.vh (b7 x)).length) tm bu K) (λtm bu K=>zC x P h (bs.length+(h.x.vh (b7 x)).length) tm bu K) ps.toList tm (bs.length+(h.x.vh (b7 x)).length) K Ls))=some r:=he;rw[iy]at he;obtain⟨g1,g2⟩:=a8 he;exact⟨g1,rfl,g2⟩
      |exit id=>exact hQ _ _ _ he
      |ret=>exact hQ _ _ _ he
      |panic v=>cases he
     |_=>cases he
    rintro bu yy⟨rfl,hi⟩;rw[List.drop_length]at hi;exact hQ _ _ _ hi
   cases hx
noncomputable def Oj(k:Option RZ)(e:Ex):Option RZ:=Ex.rec (motive:=λ_=>Option RZ) k (λ_=>none) k (λ_=>none) e
noncomputable def Lu(P:ZP)(h:ZH)(fn:Func)(args:List D):Option D:=
 oB (oB fn.body λc=>bI (Nat.ble args.length fn.ntmps) (zC c P h 0 (kZ args 0) [] λe tm bs=>Oj (oB (resultD P.T fn ⟨tm,bs,.aQ⟩) λd=>some (d,[])) e)) λr=>some r.1
noncomputable def wA(P:ZP)(h:ZH)(fn:Func)(args:List D)(bs:List af):Option (D×List af):=
 oB fn.body λc=>bI (Nat.ble args.length fn.ntmps) (zC c P h bs.length (kZ args 0) bs λe tm bs=>Oj (oB (oC P.T fn ⟨tm,bs,.aQ⟩) λd=>some (d,bs)) e)
def Ol(n:Nat)(r:D×List af):D×List af:=match en n r.1,aS n (r.2.take n)with
 |true,true=>(r.1,r.2.take n)
 |_,_=>r
def ZP.at(P:ZP)(m:Option Nat):ZP:=⟨P.T,{P.C with mp:=m},P.cal,P.calY⟩
theorem wB{k:Option RZ}{e:Ex}{r:RZ}(h:Oj k e=some r):(e=.normal\/e=.ret)/\k=some r:=by
 cases e<;>first|exact⟨.inl rfl,h⟩|exact⟨.inr rfl,h⟩|(cases h;done)
noncomputable def zL(l:List Code):oc:=
 List.rec (motive:=λ_=>oc) (λ_ _ _ tm bs K=>K .normal tm bs) (λc _ ih=>λP h lo tm bs K=>zC c P h lo tm bs λe=>Ex.rec (motive:=λ_=>NZ) (λtm bs=>ih P h lo tm bs K) (λid=>K (.exit id)) (K .ret) (λv=>K (.panic v)) e) l
theorem Cs{It:MT}{P:ZP}{h:ZH}(cr:gz P.C P.cal P.lW)(xD:∀k as v,h.x.po k as=some v->P.C.Qn k as v)(hit:∀k as xs,h.x.it k as=some xs->It.it k as xs)(EX:∀k,Nat.blt k 4096=true->It.sh k=false/\It.ls k=Nat.beq k h.x.kl):
    ∀(l:List Code)(lo:Nat)(tm:List (Nat×D))(bs:List af){K:KC}{r:RZ}{Q:Ex->St->Prop}(_:∀e tm bs,K e tm bs=some r->Q e ⟨tm,bs,.aQ⟩)(_:zL l P h lo tm bs K=some r),Uf P.T P.C It l lo ⟨tm,bs,.aQ⟩ Q
  |[],_,_,_,_,_,_,hQ,hx=>hQ _ _ _ hx
  |c::l,lo,tm,bs,K,r,Q,hQ,hx=>by
   show WR P.T P.C It c lo ⟨tm,bs,.aQ⟩ λe σ'=>match e with
    |.normal=>Uf P.T P.C It l lo σ' Q
    |.exit id=>Q (.exit id) σ'
    |.ret=>Q .ret σ'
    |.panic v=>Q (.panic v) σ'
   rw[sU];refine wz cr xD hit EX c lo tm bs (λe Af bu he=>?_) (show(zC c P h lo tm bs λe=>Ex.rec (motive:=λ_=>NZ) (λtm bs=>zL l P h lo tm bs K) (λid=>K (.exit id)) (K .ret) (λv=>K (.panic v)) e)=some r from hx);cases e with
   |normal=>exact Cs cr xD hit EX l lo Af bu hQ he
   |exit id=>exact hQ _ _ _ he
   |ret=>exact hQ _ _ _ he
   |panic v=>exact hQ _ _ _ he
noncomputable def WJ(P:ZP)(fn:Func):KC:=λe tm bs=>Oj (oB (resultD P.T fn ⟨tm,bs,.aQ⟩) λd=>some (d,[])) e
noncomputable def Ah(P:ZP)(h:ZH)(fn:Func)(np t3 k:Nat)(cs:List Operand)(args:List D):Option D:=
 oB (oB fn.body λc=>bI (Nat.ble args.length fn.ntmps) (zL ((tr c).take np) P h 0 (kZ args 0) [] λe=>Ex.rec (motive:=λ_=>NZ)
  (λtm bs=>oB (xF cs tm) λds=>bI (da bs.length ds) (zL ((tr c).drop (np+1)) P h bs.length ((t3,.bR (.func k) [] ds)::tm) bs (WJ P fn)))
  (λ_ _ _=>none) (λtm bs=>oB (resultD P.T fn ⟨tm,bs,.aQ⟩) λd=>some (d,[])) (λ_ _ _=>none) e)) λr=>some r.1
theorem Ai{P:Program}[aM]{It:MT}{sh:er}{T:Nat->Option TI}{L:ZP}{h:ZH}(eT:L.T=T)(eC:L.C=CD P sh)(cr:gz L.C L.cal L.lW)(xD:∀k as v,h.x.po k as=some v->Hb P k as v)(hit:∀k as xs,h.x.it k as=some xs->It.it k as xs)(EX:∀k,Nat.blt k 4096=true->It.sh k=false/\It.ls k=Nat.beq k h.x.kl)
    {fn:Func}{np t3 k:Nat}{cs:List Operand}{args:List D}{d:D}(hk:∀ds,NY P k ds (λ_=>True) λ_ _ _=>False)(hx:Ah L h fn np t3 k cs args=some d):
    Nat.ble args.length fn.ntmps=true/\tu P T (CD P sh) It fn np t3 k cs args d:=by
  unfold Ah at hx;obtain⟨r,ha,e⟩:=aD hx;clear hx;cases e;obtain⟨c,hc,hb⟩:=aD ha;obtain⟨hn,hx⟩:=a8 hb;refine⟨hn,?_⟩;have hz:=λ(l:List Code)(lo:Nat)(tm:List (Nat×D))(bs:List af)(K:KC)(Q:Ex->St->Prop)=>Cs (It:=It) cr (h:=h) (by rw[eC];exact xD) hit EX l lo tm bs (K:=K) (r:=r) (Q:=Q);rw[eT,eC]at hz;unfold tu;rw[hc];simp only[cg];have res:∀tm bs,(oB (resultD L.T fn ⟨tm,bs,.aQ⟩) λd=>some (d,([]:List af)))=some r->resultD T fn ⟨tm,bs,.aQ⟩=some r.1:=λtm bs h=>by
   obtain⟨d,h6,h7⟩:=aD h;cases h7;rw[<-eT];exact h6
  refine hz _ _ _ _ _ _ (λe tm bs he=>?_) hx;cases e with
  |exit id=>cases he
  |panic v=>cases he
  |ret=>exact res tm bs he
  |normal=>
   obtain⟨ds,h1,he⟩:=aD (show(oB (xF cs tm) λds=>bI (da bs.length ds) (zL ((tr c).drop (np+1)) L h bs.length ((t3,.bR (.func k) [] ds)::tm) bs (WJ L fn)))=some r from he);obtain⟨h2,he⟩:=a8 he;rw[uD tm bs .aQ]at h1;refine⟨ds,h1,h2,_,_,hk ds,hz _ _ _ _ _ _ (λe tm bs he=>?_) he⟩;obtain⟨h4,h5⟩:=wB he;rcases h4 with rfl|rfl<;>exact⟨trivial,res tm bs h5⟩
structure DZ where
 np:Nat
 t3:Nat
 k:Nat
 cs:List Operand
noncomputable def EY(P:ZP)(h:ZH)(z:Option DZ)(fn:Func)(as:List D):Option D:=
 @Option.rec DZ (λ_=>Option D) (Lu P h fn as) (λz=>Ah P h fn z.np z.t3 z.k z.cs as) z
noncomputable def uk(T:Nat->Option TI)(C:xa)(orc:Nat->List D->Option D)(hs:Nat->ZH)(dz:Nat->Option DZ)(fns:Nat->Option Func)(n:Nat):ZP:=
 Nat.rec (motive:=λ_=>ZP) ⟨T,C,orc,λ_ _ _=>none⟩ (λ_ P=>⟨T,C,λk as=>@Option.rec D (λ_=>Option D) (oB (fns k) λfn=>EY (P.at (hs k).x.mp) (hs k) (dz k) fn as) (λd=>some d) (orc k as),λk as bs=>@Option.rec RZ (λ_=>Option RZ) (oB (fns k) λfn=>oB (wA (P.at (hs k).x.mp) (hs k) fn as bs) λr=>some (Ol bs.length r)) (λr=>some r) ((hs k).x.oy as bs)⟩) n
section
variable{P:Program}[aM]{sh:er}{T:Nat->Option TI}
omit [aM]in
theorem R1{T:Nat->Option TI}{C:xa}{orc:Nat->List D->Option D}{hs:Nat->ZH}{dz:Nat->Option DZ}{fns:Nat->Option Func}(n:Nat):(uk T C orc hs dz fns n).T=T/\(uk T C orc hs dz fns n).C=C:=by cases n<;>exact⟨rfl,rfl⟩
def qf(kl:Nat)(k:Nat):Bool:=match Nat.blt k 4096 with
 |true=>false
 |false=>Nat.beq (k-4096) kl
omit [aM]in
theorem Om{kl k:Nat}(h:Nat.blt k 4096=true):qf kl k=false:=by unfold qf;rw[h]
omit [aM]in
theorem Oo{kl k m:Nat}(hm:k+4096=m):qf kl m=Nat.beq k kl:=by
 unfold qf;cases h:Nat.blt m 4096 with
 |true=>have:=cX h;omega
 |false=>rw[show m-4096=k by omega]
theorem Aj(kl k:Nat)(h:Nat.blt k 4096=true):(nc P (qf kl)).sh k=false/\(nc P (qf kl)).ls k=Nat.beq k kl:=by
 dsimp only
 exact⟨Om h,Oo rfl⟩
theorem kI{kl:Nat}(hT:br P T)(ef:P.follows .mixedOrders=true){orc:Nat->List D->Option D}{hs:Nat->ZH}{dz:Nat->Option DZ}{fns:Nat->Option Func}(R3:FOK P fns)(R4:∀k as d,orc k as=some d->Den P k as d)
    (xD:∀f k as v,(hs f).x.po k as=some v->Hb P k as v)(hit:∀f k as xs,(hs f).x.it k as=some xs->jR P k as xs)(hoy:∀k as bs r,(hs k).x.oy as bs=some r->lA P k as bs .aQ λe cs z=>e=r.1/\cs=r.2/\z=.aQ)
    (hdz:∀k z,dz k=some z->(∀fn as d,fns k=some fn->Nat.ble as.length fn.ntmps=true->tu P T (CD P {sh with mp:=(hs k).x.mp}) (nc P (qf kl)) fn z.np z.t3 z.k z.cs as d->Den P k as d)/\∀ds,NY P z.k ds (λ_=>True) λ_ _ _=>False)(Du:∀k,(hs k).x.kl=kl):∀n,gz (CD P sh) (uk T (CD P sh) orc hs dz fns n).cal (uk T (CD P sh) orc hs dz fns n).lW
  |0=>⟨R4,λk as bs y d bu y' h=>(by cases y<;>cases h),λk as d bu y' b h=>by cases h⟩
  |n+1=>by
   have ih:=kI hT ef R3 R4 xD hit hoy hdz Du n;obtain⟨eT,eC⟩:=R1 (T:=T) (C:=CD P sh) (orc:=orc) (hs:=hs) (dz:=dz) (fns:=fns) n;obtain⟨L,hL⟩:∃L,uk T (CD P sh) orc hs dz fns n=L:=⟨_,rfl⟩;rw[hL]at ih eT eC;have ih:gz L.C L.cal L.lW:=by rw[eC];exact ih
   have at_:∀m,(L.at m).T=T/\(L.at m).C=CD P {sh with mp:=m}/\gz (L.at m).C (L.at m).cal (L.at m).lW:=λm=>⟨eT,by show({L.C with mp:=m}:xa)=_;rw[eC],⟨ih.den,ih.shr,ih.new⟩⟩;have body:∀k fn as d,fns k=some fn->Lu (L.at (hs k).x.mp) (hs k) fn as=some d->Den P k as d:=λk fn as d hf h=>by
    obtain⟨eT,eC,ih⟩:=at_ (hs k).x.mp;unfold Lu at h;obtain⟨r,ha,e⟩:=aD h;clear h;cases e;obtain⟨c,hc,hb⟩:=aD ha;obtain⟨hn,h⟩:=a8 hb;obtain⟨h1,h2,h3⟩:=R3 k fn hf;refine zE hT ef h1 h2 h3 hn (sh:={sh with mp:=(hs k).x.mp}) (ish:=qf kl) ?_;unfold Body;rw[hc];simp only[cg,sU];have hw:=wz (It:=nc P (qf kl)) ih (h:=hs k) (by rw[eC];exact xD k) (hit k) (λq hq=>by rw[Du k];exact Aj kl q hq) c 0 _ _ (Q:=λe U=>match e with|.exit _=>False|.panic _=>False|_=>resultD T fn U=some r.1) (λe tm bs he=>by
     obtain⟨h4,h5⟩:=wB he;obtain⟨d,h6,h7⟩:=aD h5;cases h7;rw[eT]at h6;rcases h4 with rfl|rfl<;>exact h6) h
    rw[eT,eC]at hw;exact hw
   have WK:∀k fn as bs r,fns k=some fn->wA (L.at (hs k).x.mp) (hs k) fn as bs=some r->lA P k as bs .aQ λe cs z=>e=r.1/\cs=r.2/\z=.aQ:=λk fn as bs r hf h=>by
    obtain⟨eT,eC,ih⟩:=at_ (hs k).x.mp;unfold wA at h;obtain⟨c,hc,h⟩:=aD h;obtain⟨hn,h⟩:=a8 h;obtain⟨h1,h2,h3⟩:=R3 k fn hf;refine Gk hT ef h1 h2 h3 hn (sh:={sh with mp:=(hs k).x.mp}) (ish:=qf kl) ?_;unfold A4;rw[hc];simp only[cg,sU];have hw:=wz (It:=nc P (qf kl)) ih (h:=hs k) (by rw[eC];exact xD k) (hit k) (λq hq=>by rw[Du k];exact Aj kl q hq) c bs.length _ _ (Q:=λe U=>match e with|.exit _=>False|.panic _=>False|_=>∃d,oC T fn U=some d/\(d=r.1/\U.boxes=r.2/\U.y=.aQ)) (λe tm bs he=>by
     obtain⟨h4,h5⟩:=wB he;obtain⟨d,h6,h7⟩:=aD h5;cases h7;rw[eT]at h6;rcases h4 with rfl|rfl<;>exact⟨d,h6,rfl,rfl,rfl⟩) h
    rw[eT,eC]at hw;exact hw
   have e1:(uk T (CD P sh) orc hs dz fns (n+1)).cal=λk as=>@Option.rec D (λ_=>Option D) (oB (fns k) λfn=>EY (L.at (hs k).x.mp) (hs k) (dz k) fn as) (λd=>some d) (orc k as):=by rw[<-hL];rfl
   have e2:(uk T (CD P sh) orc hs dz fns (n+1)).calY=λk as bs=>@Option.rec RZ (λ_=>Option RZ) (oB (fns k) λfn=>oB (wA (L.at (hs k).x.mp) (hs k) fn as bs) λr=>some (Ol bs.length r)) (λr=>some r) ((hs k).x.oy as bs):=by rw[<-hL];rfl
   have shr:∀k as bs y d bu y',(uk T (CD P sh) orc hs dz fns (n+1)).lW k as bs y=some (d,bu,y')->lA P k as bs y λe cs z=>e=d/\cs=bu/\z=y':=λk as bs y d bu y' h=>by
    unfold ZP.lW at h;rw[e2]at h;cases y<;>first|(cases h;done)|skip
    simp only at h;split at h
    .rename_i e cs hb
     cases h;cases M6:(hs k).x.oy as bs with
     |some r=>rw[M6]at hb;cases hb;exact hoy _ _ _ _ M6
     |none=>
     rw[M6]at hb;obtain⟨fn,hf,hb⟩:=aD (show(oB (fns k) λfn=>oB (wA (L.at (hs k).x.mp) (hs k) fn as bs) λr=>some (Ol bs.length r))=some _ from hb);obtain⟨r,hr,hb⟩:=aD hb;have hd:=WK k fn as bs r hf hr;have hb:=Option.some.inj hb;unfold Ol at hb;split at hb
     .rename_i g1 g2
      cases hb;refine hd.cut ?_;rintro _ _ _⟨rfl,rfl,rfl⟩;exact⟨g1,g2,rfl,rfl,rfl⟩
     subst hb;exact hd
    cases h
   refine⟨λk as d h=>?_,shr,λk as d bu y' b h1 h2 h3=>si h3 ((shr _ _ _ _ _ _ _ h1).mono λe cs z h=>by obtain⟨rfl,rfl,rfl⟩:=h;exact EK h2)⟩;rw[e1]at h;simp only at h;cases ho:orc k as with
   |some d'=>rw[ho]at h;cases h;exact R4 _ _ _ ho
   |none=>
    rw[ho]at h;obtain⟨fn,hf,h⟩:=aD (show(oB (fns k) λfn=>EY (L.at (hs k).x.mp) (hs k) (dz k) fn as)=some d from h);cases hz:dz k with
    |none=>rw[hz]at h;exact body k fn as d hf h
    |some z=>
     rw[hz]at h;obtain⟨eT,eC,ih⟩:=at_ (hs k).x.mp;obtain⟨h1,h2⟩:=hdz k z hz;obtain⟨h3,h4⟩:=Ai (sh:={sh with mp:=(hs k).x.mp}) (It:=nc P (qf kl)) eT eC ih (xD k) (hit k) (λq hq=>by rw[Du k];exact Aj kl q hq) h2 (show Ah (L.at (hs k).x.mp) (hs k) fn z.np z.t3 z.k z.cs as=some d from h);exact h1 fn as d hf h3 h4
end
end Go.V
