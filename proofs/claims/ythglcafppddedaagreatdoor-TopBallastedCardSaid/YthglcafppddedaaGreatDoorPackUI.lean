/- What ballasted_holds leans on, part UI. No condition. -/
import Derived.Laws.StructEq
import Derived.Test.YthglcafppddedaaGreatDoorPackUH

set_option linter.all false
namespace Go.V
open Go.RowKit
def uj(P:Program):List D->List Field->Nat->Bool
 |[],[],_=>true
 |d::z,f::r,i=>Nat.beq f.offset i&&(f.name != "_")&&(match d,P.underlying f.type with|.int _ _,some (.int _)=>true|.ff,some .bool=>true|.str _,some .string=>true|_,_=>false)&&uj P z r (i+1)
 |_,_,_=>false
theorem lT{P:Program}{w:World}{t:TypeId}{k:IntKind}(h:P.underlying t=some (.int k)){xs:Array Value}{i:Nat}{v:Value}(hv:xs[i]?=some v):(part t xs i).run P w=.ok v w:=by
 simp[part,isAgg,run_underlying h,hv]
theorem j3{P:Program}{w:World}{t:TypeId}(h:P.underlying t=some .bool){xs:Array Value}{i:Nat}{v:Value}(hv:xs[i]?=some v):(part t xs i).run P w=.ok v w:=by
 simp[part,isAgg,run_underlying h,hv]
theorem hU{P:Program}{w:World}{t:TypeId}(h:P.underlying t=some .string){xs:Array Value}{i:Nat}{v:Value}(hv:xs[i]?=some v):(part t xs i).run P w=.ok v w:=by
 simp[part,isAgg,run_underlying h,hv]
theorem ix{P:Program}{w:World}{d:Nat}{xs ys:Array Value}:∀(z:List D)(fs:List Field)(i:Nat)(b:Bool),uj P z fs i=true->i+fs.length=xs.toList.length->oY z (xs.toList.drop i) (ys.toList.drop i)=some b->
    (Op.eqFields (d+1) xs ys fs).run P w=.ok b w
  |[],[],i,b,_,hl,he=>by
   have:xs.toList.drop i=[]:=List.drop_of_length_le (by rw[List.length_nil]at hl;omega);rw[this]at he;cases hy:ys.toList.drop i with
   |nil=>rw[hy]at he;cases he;simp[Op.eqFields]
   |cons y r=>rw[hy]at he;cases he
  |[],_::_,_,_,hf,_,_=>by cases hf
  |_::_,[],_,_,hf,_,_=>by cases hf
  |d0::z,f::fs,i,b,hf,hl,he=>by
   simp only[uj,Bool.and_eq_true]at hf;obtain⟨⟨⟨h1,h2⟩,h3⟩,h4⟩:=hf;have h1:=Nat.eq_of_beq_eq_true h1;simp only[List.length_cons]at hl;have hi:i<xs.toList.length:=by omega
   rw[List.drop_eq_getElem_cons hi]at he;have eh:f.name≠ "_":=by simpa using h2
   cases hy:ys.toList.drop i with
   |nil=>rw[hy]at he;cases d0<;>cases hx:xs.toList[i]<;>rw[hx]at he<;>cases he
   |cons y r=>
    rw[hy]at he;have Rk:ys.toList[i]?=some y:=by
     have:(ys.toList.drop i)[0]?=some y:=by rw[hy];rfl
     simpa using this
    have FY:ys.toList.drop (i+1)=r:=by
     have:(ys.toList.drop i).drop 1=r:=by rw[hy];rfl
     simpa[List.drop_drop,Nat.add_comm]using this
    have ui:xs.toList[i]?=some xs.toList[i]:=List.getElem?_eq_getElem hi;cases d0 with
    |int k0 m0=>
     cases hx:xs.toList[i]with
     |int k a=>
      rw[hx]at he ui;cases y with
      |int k' b'=>
       simp only[oY]at he;cases hs:same k k' with
       |false=>rw[hs]at he;cases he
       |true=>
        rw[hs]at he;obtain rfl:=fq hs;simp only at he;cases hu:P.underlying f.type with
        |none=>rw[hu]at h3;cases h3
        |some td=>
         rw[hu]at h3;cases td with
         |int kk=>
          cases hr:oY z (xs.toList.drop (i+1)) r with
          |none=>rw[hr]at he;cases he
          |some b1=>
           rw[hr]at he;cases he;have ih:=ix (w:=w) (d:=d) (xs:=xs) (ys:=ys) z fs (i+1) b1 h4 (by omega) (by rw[FY];exact hr);simp only[Op.eqFields,ne_eq,eh,not_false_eq_true,if_true,Sem.run_bind];rw[h1,lT hu (by simpa using ui),Result.andThen_ok,lT hu (by simpa using Rk),Result.andThen_ok,run_equalIn_int w d f.type k kk a b' hu,Result.andThen_ok];cases FV:(a==b')with
           |false=>simp
           |true=>simpa using ih
         |_=>cases h3
      |_=>cases he
     |_=>rw[hx]at he;cases he
    |ff=>
     cases hx:xs.toList[i]with
     |bool a=>
      rw[hx]at he ui;cases y with
      |bool b'=>
       simp only[oY]at he;cases hu:P.underlying f.type with
       |none=>rw[hu]at h3;cases h3
       |some td=>
        rw[hu]at h3;cases td with
        |bool=>
         cases hr:oY z (xs.toList.drop (i+1)) r with
         |none=>rw[hr]at he;cases he
         |some b1=>
          rw[hr]at he;cases he;have ih:=ix (w:=w) (d:=d) (xs:=xs) (ys:=ys) z fs (i+1) b1 h4 (by omega) (by rw[FY];exact hr);simp only[Op.eqFields,ne_eq,eh,not_false_eq_true,if_true,Sem.run_bind];rw[h1,j3 hu (by simpa using ui),Result.andThen_ok,j3 hu (by simpa using Rk),Result.andThen_ok,run_equalIn_bool w d f.type a b' hu,Result.andThen_ok];cases FV:(a==b')with
          |false=>simp
          |true=>simpa using ih
        |_=>cases h3
      |_=>cases he
     |_=>rw[hx]at he;cases he
    |str s0=>
     cases hx:xs.toList[i]with
     |string a=>
      rw[hx]at he ui;cases y with
      |string b'=>
       simp only[oY]at he;cases hu:P.underlying f.type with
       |none=>rw[hu]at h3;cases h3
       |some td=>
        rw[hu]at h3;cases td with
        |string=>
         cases hr:oY z (xs.toList.drop (i+1)) r with
         |none=>rw[hr]at he;cases he
         |some b1=>
          rw[hr]at he;cases he;have ih:=ix (w:=w) (d:=d) (xs:=xs) (ys:=ys) z fs (i+1) b1 h4 (by omega) (by rw[FY];exact hr);simp only[Op.eqFields,ne_eq,eh,not_false_eq_true,if_true,Sem.run_bind];rw[h1,hU hu (by simpa using ui),Result.andThen_ok,hU hu (by simpa using Rk),Result.andThen_ok,run_equalIn_string w d f.type a b' hu,Result.andThen_ok];cases FV:(a.toList==b'.toList)with
          |false=>simp
          |true=>simpa using ih
        |_=>cases h3
      |_=>cases he
     |_=>rw[hx]at he;cases he
    |_=>cases he
theorem jD{P:Program}{w:World}{em:Bool}{d:Nat}{xs:Array Value}:∀(z:List D)(fs:List Field)(i:Nat),uj P z fs i=true->i+fs.length=xs.toList.length->
    (forIn (m:=Sem) fs PUnit.unit λf(_:PUnit)=>do
        if f.name≠ "_" then Instr.checkKey em (d+1) f.type (←part f.type xs f.offset)
        pure (ForInStep.yield PUnit.unit)).run P w=.ok () w
  |[],[],_,_,_=>by simp
  |[],_::_,_,hf,_=>by cases hf
  |_::_,[],_,_,_=>by simp
  |d0::z,f::fs,i,hf,hl=>by
   simp only[uj,Bool.and_eq_true]at hf;obtain⟨⟨⟨h1,h2⟩,h3⟩,h4⟩:=hf;have h1:=Nat.eq_of_beq_eq_true h1;simp only[List.length_cons]at hl;have hi:i<xs.toList.length:=by omega
   obtain⟨x,ui⟩:∃x,xs[i]?=some x:=⟨xs[i]'(by simpa using hi),by simp at hi;simp[hi]⟩;have eh:f.name≠ "_":=by simpa using h2
   have ih:=jD (w:=w) (em:=em) (d:=d) (xs:=xs) z fs (i+1) h4 (by omega);cases hu:P.underlying f.type with
   |none=>rw[hu]at h3;cases d0<;>cases h3
   |some td=>
    rw[hu]at h3;cases td with
    |int kk=>
     have pX:∀v,(Instr.checkKey em (d+1) f.type v).run P w=.ok () w:=λv=>by
      unfold Instr.checkKey;simp only[Sem.run_bind,run_underlying hu,Result.andThen];cases v<;>rfl
     have hp:=lT (w:=w) hu ui;rw[<-h1]at hp;simp only[List.forIn_cons,Sem.run_bind,eh,ne_eq,not_false_eq_true,if_true,hp,Result.andThen_ok,pX,Sem.run_pure];exact ih
    |bool=>
     have pX:∀v,(Instr.checkKey em (d+1) f.type v).run P w=.ok () w:=λv=>by
      unfold Instr.checkKey;simp only[Sem.run_bind,run_underlying hu,Result.andThen];cases v<;>rfl
     have hp:=j3 (w:=w) hu ui;rw[<-h1]at hp;simp only[List.forIn_cons,Sem.run_bind,eh,ne_eq,not_false_eq_true,if_true,hp,Result.andThen_ok,pX,Sem.run_pure];exact ih
    |string=>
     have pX:∀v,(Instr.checkKey em (d+1) f.type v).run P w=.ok () w:=λv=>by
      unfold Instr.checkKey;simp only[Sem.run_bind,run_underlying hu,Result.andThen];cases v<;>rfl
     have hp:=hU (w:=w) hu ui;rw[<-h1]at hp;simp only[List.forIn_cons,Sem.run_bind,eh,ne_eq,not_false_eq_true,if_true,hp,Result.andThen_ok,pX,Sem.run_pure];exact ih
    |_=>cases d0<;>cases h3
structure KN(P:Program)(t:TypeId)(n:Nat)(z:List D):Prop where
 Yv:∀(w:World)(xs ys:Array Value)(b:Bool),xs.toList.length=n->oY z xs.toList ys.toList=some b->(Op.equal t (.agg xs) (.agg ys)).run P w=.ok b w
 Yw:∀(w:World)(em:Bool)(xs:Array Value),xs.toList.length=n->(Instr.checkKey em 10000 t (.agg xs)).run P w=.ok () w
 UF:∃fs,P.underlying t=some (.struct fs)
 eqs:∀(w:World)(x y:Operand)(xs ys:Array Value)(b:Bool),xs.toList.length=n->oY z xs.toList ys.toList=some b->
     (do eqGuard .eql t x y (.agg xs) (.agg ys);binOp .eql t (.agg xs) (.agg ys):Sem Value).run P w=.ok (.bool b) w/\
     (do eqGuard .neq t x y (.agg xs) (.agg ys);binOp .neq t (.agg xs) (.agg ys):Sem Value).run P w=.ok (.bool (!b)) w
theorem gU{P:Program}{t:TypeId}{fs:Array Field}(h:P.underlying t=some (.struct fs))(hp:P.stoodInHeld t=false)(hm:P.eqGuardType P.depth t=false){z:List D}(hf:uj P z fs.toList 0=true){n:Nat}(hn:fs.toList.length=n):KN P t n z:=by
 have Px:P.fieldsOf t=fs:=by simp[Program.fieldsOf,h]
 have hu:P.underlying t=some (.struct (P.fieldsOf t)):=by rw[Px];exact h
 have key:∀(w:World)(xs ys:Array Value)(b:Bool),xs.toList.length=n->oY z xs.toList ys.toList=some b->(Op.equalIn 10000 t (.agg xs) (.agg ys)).run P w=.ok b w:=λw xs ys b hl he=>by
  have:=ix (P:=P) (w:=w) (d:=9998) (xs:=xs) (ys:=ys) z fs.toList 0 b hf (by omega) (by simpa using he);exact(run_equalIn_struct (P:=P) w 9999 t xs ys hu hp).trans (by rw[Px];exact this)
 refine⟨λw xs ys b hl he=>key w xs ys b hl he,λw em xs hl=>?_,⟨fs,h⟩,λw x y xs ys b hl he=>?_⟩
 .show(Instr.checkKey em (9999+1) t (.agg xs)).run P w=.ok () w
  unfold Instr.checkKey;simp only[Sem.run_bind,run_underlying h,Result.andThen_ok];rw[<-Array.forIn_toList];have e:=jD (P:=P) (w:=w) (em:=em) (d:=9998) (xs:=xs) z fs.toList 0 hf (by omega)
  erw[e]
  rfl
 have he:=key w xs ys b hl he;constructor
 .rw[Sem.run_bind,run_eqGuard_agg w .eql t x y xs ys hm,Result.andThen_ok,run_eql_struct,he];rfl
 rw[Sem.run_bind,run_eqGuard_agg w .neq t x y xs ys hm,Result.andThen_ok,run_neq_struct,he];rfl
def x6:List (Nat×TI)->Nat->Option TI
 |[],_=>none
 |(k,d)::r,t=>match Nat.beq k t with
  |true=>some d
  |false=>x6 r t
theorem br.nil{P:Program}:br P (x6 []):=λ_ _ h=>by cases h
theorem br.cons{P:Program}{k:Nat}{d:TI}{r:List (Nat×TI)}(h:aj P k d)(hr:br P (x6 r)):br P (x6 ((k,d)::r)):=λt ti ht=>by
 simp only[x6]at ht;cases hb:Nat.beq k t with
 |true=>
  rw[hb]at ht;cases ht;rw[<-Nat.eq_of_beq_eq_true hb];exact h
 |false=>rw[hb]at ht;exact hr t ti ht
def VQ:TypeDesc->Bool
 |.struct _|.array _ _=>true
 |_=>false
def Gi(P:Program):TypeDesc->Bool
 |.struct fs=>fs.toList.all λf=>(P.info? f.type).isSome
 |_=>true
theorem aj.of{P:Program}{t:TypeId}{ti:TI}{i:TypeInfo}{z:Value}(h1:P.underlying t=some ti.desc)(h2:ti.agg=VQ ti.desc)(h3:P.info? t=some i)(h4:i.zero=some z)(h5:i.size=ti.size)(h6:i.bytes=ti.bytes)
    (h7:z.cells.toList.map ofConst=ti.zero.map some)(h8:ti.zero.length=ti.size)(h9:Gi P ti.desc=true)
    (tp:ti.eqs=true->KN P t ti.size ti.zero)(JX:Jv ti.agg z=true:=by kernel_rfl):aj P t ti where
  desc:=h1
  agg:=by rw[h2];cases ti.desc<;>rfl
  info:=⟨i,z,h3,h4,h5,h6,by have:=congrArg List.length h7;simpa using this,λj v d hv hd=>by
   have:=congrArg (·[j]?) h7;simp only[List.getElem?_map,hv,hd,Option.map_some]at this;exact Option.some.inj this,JX⟩
  u7:=h8
  known:=λfs dW f hf=>by
   rw[dW]at h9;simp only[Gi,List.all_eq_true]at h9;exact h9 f hf
  Yv:=λh=>(tp h).Yv
  Yw:=λh=>(tp h).Yw
  UF:=λh=>by
   obtain⟨fs,hf⟩:=(tp h).UF;rw[h1]at hf;exact⟨fs,Option.some.inj hf⟩
  eqs:=λh=>(tp h).eqs
def aZ(t:Nat)(U:St):Int:=match V.look U.tmps t with|some (.int _ i)=>i|_=>0
theorem wrap64{n:Int}(h1:-9223372036854775808<=n)(h2:n<=9223372036854775807):IntKind.i64.wrap n=n:=by
 simp only[IntKind.wrap,IntKind.signed,IntKind.bits];simp;omega
def gB(fn:Func):Bool:=
 match fn.body with
 |some c=>bounded fn.ntmps c
 |none=>false
theorem zE[aM]{sh:er}{ish:Nat->Bool}{P:Program}{T:Nat->Option TI}(hT:br P T)(ef:P.follows .mixedOrders=true){f:FuncId}{fn:Func}(hf:P.funcs[f]?=some fn)(he:Enters P f)(hb:gB fn=true){args:List D}{d:D}
    (hn:Nat.ble args.length fn.ntmps=true)(h:Body T (CD P sh) (nc P ish) fn args d):Den P f args d:=by
  unfold gB at hb;cases hc:fn.body with
  |none=>rw[hc]at hb;cases hb
  |some c=>rw[hc]at hb;exact tq hT ef hf hc he hb (Nat.le_of_ble_eq_true hn) h
theorem cA{b:Bool}{p:Prop}(h:b=true)(hp:p):dK b p:=by subst h;exact hp
theorem aG(n:Nat):Nat.beq n n=true:=Nat.beq_refl n
theorem ag{f:D->Option D}{d x:D}{r l:List D}(h:f d=some x)(hr:bY f r=some l):bY f (d::r)=some (x::l):=by simp only[bY,h,hr]
theorem x7{bs:List af}{n:Nat}{ds es:List D}(h:bY (reify bs n) ds=some es):reify bs (n+1) (.b9 ds)=some (.b9 es):=by simp only[reify,h]
theorem ej{bs:List af}{n:Nat}{ds es:List D}(h:bY (reify bs n) ds=some es):reify bs (n+1) (.agg ds)=some (.agg es):=by simp only[reify,h]
theorem ga{bs:List af}{n i g sz len:Nat}{fz:Bool}{rs:List (List D)}(h:bs[i]?=some (.rows fz g sz rs))(hl:len=rs.length):reify bs (n+1) (.sl i g 0 len)=some (.list sz rs):=by
 subst hl;simp only[reify,h,aG,List.drop_zero,List.take_length]
theorem x8{bs:List af}{n i off:Nat}{fz:Bool}{cs es:List D}(h:bs[i]?=some (.flat fz cs))(he:bY (reify bs n) (cs.drop off)=some es):reify bs (n+1) (.loc i off)=some (.ro es):=by simp only[reify,h,he]
theorem Gj[aM]{sh:er}{ish:Nat->Bool}{P:Program}{T:Nat->Option TI}(hT:br P T)(ef:P.follows .mixedOrders=true){f:FuncId}{fn:Func}(hf:P.funcs[f]?=some fn)(he:Enters P f)(hb:gB fn=true){args:List D}{xs:List (List D)}
    (hn:Nat.ble (args.length+1) fn.ntmps=true)(h:nz T (CD P sh) (nc P ish) fn args xs):jR P f args xs:=by
  unfold gB at hb;cases hc:fn.body with
  |none=>rw[hc]at hb;cases hb
  |some c=>rw[hc]at hb;exact qX hT ef hf hc he hb (Nat.le_of_ble_eq_true hn) h
theorem Gk[aM]{sh:er}{ish:Nat->Bool}{P:Program}{T:Nat->Option TI}(hT:br P T)(ef:P.follows .mixedOrders=true){f:FuncId}{fn:Func}(hf:P.funcs[f]?=some fn)(he:Enters P f)(hb:gB fn=true){args:List D}{bs:List af}{y:eG}{Q:D->List af->eG->Prop}
    (hn:Nat.ble args.length fn.ntmps=true)(h:A4 T (CD P sh) (nc P ish) fn args bs y Q):lA P f args bs y Q:=by
  unfold gB at hb;cases hc:fn.body with
  |none=>rw[hc]at hb;cases hb
  |some c=>rw[hc]at hb;exact qY hT ef hf hc he hb (Nat.le_of_ble_eq_true hn) h
section
variable{P:Program}[aM]{sh:er}{ish:Nat->Bool}{T:Nat->Option TI}
omit [aM]in
theorem pB{F:Fence}{n:Nat}{fn:Func}{tmps:Array Value}{R:Ending->World->Prop}{u:FrameMode}(hu:u≠.run):∀(ds:List Deferred)(w:World),(ds.Pairwise λd d'=>d.target≠d'.target)->
    (∀d∈ds,∃R,d={target:=.collected R,args:=#[]}/\w.heap[R]?=some (.deferred (some [])))->(∀w',aB (λk=>∀d∈ds,d.target≠.collected k) w w'->LeavesIn F n P fn tmps R [] u w')->LeavesInM F n P fn tmps R ds u w
  |[],w,_,_,h=>h w (aB.refl _ w)
  |d::ds,w,hp,hm,h=>by
   obtain⟨hd,hp⟩:=List.pairwise_cons.1 hp;obtain⟨b,e,hb⟩:=hm d (by simp);refine⟨hu,.inl ⟨b,_,by rw[e],run_takeDeferred hb,pB hu ds _ hp (λd' gq=>?_) λw' k=>h w' ?_⟩⟩
   .obtain⟨b',e',eW⟩:=hm d' (by simp[gq])
    refine⟨b',e',?_⟩;rw[World.putObj_heap_other (λe2=>hd d' gq (by rw[e,e',e2]))];exact eW
   exact((jo w b _).mono λk hk e2=>hk d (by simp) (by rw[e,e2])).trans (k.mono λk hk d' gq=>hk d' (by simp[gq]))
def KO(T:Nat->Option TI)(C:xa)(It:MT)(fn:Func)(args:List D)(o:Option Value):Prop:=
 match fn.body with
 |some c=>ig (kZ args 0) λtm=>WR T C It c 0 ⟨tm,[],.aQ⟩ λe U=>match e with
  |.exit _=>False
  |.panic v=>o=some v
  |_=>o=none/\resultD T fn U=some (.b9 [])
 |none=>False
theorem zF(hT:br P T)(ef:P.follows .mixedOrders=true){f:FuncId}{fn:Func}{c:Code}(hf:P.funcs[f]?=some fn)(hb:fn.body=some c)(he:Enters P f)(ug:bounded fn.ntmps c=true){args:List D}(hn:args.length<=fn.ntmps){o:Option Value}
    (h:KO T (CD P sh) (nc P ish) fn args o):Hb P f args o:=by
  refine⟨he,λw I vs gT Gh aq=>?_⟩;unfold KO at h;rw[hb]at h;simp only[cg,sU]at h
  let cx:Cx:=⟨(·<w.heap.size),λw'=>dG I w w',λy _ _=>y=.aQ,I,λ_ _=>False,0,dM,λ_=>False⟩
  have hD:∀d,¬cx.sV d:=λ_ h=>h;have ak:cx.Ok:=⟨Gh,λw' NU h1 h2=>h1.trans h2,λ_ _ _ _ h _=>h,λ_ _ h=>h.elim,λ_ _ h=>(by cases h),λ_ h=>h.elim⟩;have hy:bB P cx:=λl x r S w' I' oz G hj=>by cases hj
  have dW:=bf.start (cx:=cx) (S:=λ_=>False) (y:=.aQ) (N:=fn.ntmps) (λ_=>Iff.rfl) rfl (aB.refl _ w) rfl (λ_ _ h=>h) rfl (λ_ h=>h) gT (λ_ h=>h.elim) (λ_ h=>h.elim) aq hn;refine callsIn_wide.1 (callsIn_of_wp_marks (n:=0) hf hb trivial ?_);refine wpIn_mono (qW hT ef c ug 0 _ _ cx Fence.wide 0 _ w h (.inl rfl) ak (λl y S w' hl=>by cases hl) hy (Nat.le_refl _) dW) ?_;have fin:∀U a' w',o=none->resultD T fn U=some (.b9 [])->aac cx U fn.ntmps a' w'->LeavesInM Fence.wide 0 P fn a'.tmps (λe w'=>dG I w w'/\Pg o e/\bc I w') a'.defers .returning w':=by
   rintro U a' w' rfl dZ⟨β,I',S,hs,_⟩;refine gv a'.defers w' hs.nd (λd hd=>let⟨R,h1,h2,_⟩:=hs.marks d hd (hD d);⟨R,h1,h2⟩) λNU k=>?_;have fu:=hs.left ak hD k;obtain⟨v,L,aP,_⟩:=lI hT fu dZ;exact⟨v,aP,fu.fr,⟨v,rfl⟩,fu.agree.of_le fu.I0⟩
  intro e a' w' hq;cases e with
  |normal=>obtain⟨U,⟨h1,h2⟩,h3⟩:=hq;exact fin U a' w' h1 h2 h3
  |ret=>obtain⟨U,⟨h1,h2⟩,h3⟩:=hq;exact fin U a' w' h1 h2 h3
  |exit id=>obtain⟨U,h1,h2⟩:=hq;exact h1.elim
  |goto l=>exact hq.elim
  |panic ch=>
   obtain⟨U,v,rfl,ho,β,I',S,hs,_⟩:=hq;have ho:o=some v:=ho;subst ho;refine pB (by simp) a'.defers w' hs.nd (λd hd=>let⟨R,h1,h2,_⟩:=hs.marks d hd (hD d);⟨R,h1,h2⟩) λNU k=>?_;have fu:=hs.left ak hD k;exact⟨fu.fr,rfl,fu.agree.of_le fu.I0⟩
  |outgrown=>exact hq.elim
theorem NW(hT:br P T)(ef:P.follows .mixedOrders=true){f:FuncId}{fn:Func}(hf:P.funcs[f]?=some fn)(he:Enters P f)(hb:gB fn=true){args:List D}{o:Option Value}
    (hn:Nat.ble args.length fn.ntmps=true)(h:KO T (CD P sh) (nc P ish) fn args o):Hb P f args o:=by
  unfold gB at hb;cases hc:fn.body with
  |none=>rw[hc]at hb;cases hb
  |some c=>rw[hc]at hb;exact zF hT ef hf hc he hb (Nat.le_of_ble_eq_true hn) h
end
end Go.V
