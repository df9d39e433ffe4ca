/- '==' of structs of integers; The table of a program's types; The contract of a function that returns nothing, or panics, from its body. No condition. -/
import Derived.Laws.StructEq
import Derived.Test.YtfdflbdnjimfaaaPackUH

namespace Go.V
open Go.RowKit

def eqFs (P:Program):List D→List Field→Nat→Bool
 | [],[],_=>true
 | d :: z, f :: r, i => Nat.beq f.offset i && (f.name != "_") && (match d, P.underlying f.type with | .int _ _, some (.int _) => true | .ff, some .bool => true | _, _ => false) && eqFs P z r (i + 1)
 | _,_,_=>false

theorem part_int {P:Program} {w:World} {t:TypeId} {k:IntKind} (h:P.underlying t=some (.int k)) {xs:Array Value} {i:Nat} {v:Value} (hv:xs[i]?=some v):(part t xs i).run P w=.ok v w:=by
 simp [part,isAgg,run_underlying h,hv]
theorem part_bool {P:Program} {w:World} {t:TypeId} (h:P.underlying t=some .bool) {xs:Array Value} {i:Nat} {v:Value} (hv:xs[i]?=some v):(part t xs i).run P w=.ok v w:=by
 simp [part,isAgg,run_underlying h,hv]

theorem eqFields_int {P:Program} {w:World} {d:Nat} {xs ys:Array Value}:∀ (z:List D) (fs:List Field) (i:Nat) (b:Bool),eqFs P z fs i=true→i+fs.length=xs.toList.length→eqV z (xs.toList.drop i) (ys.toList.drop i)=some b →
    (Op.eqFields (d+1) xs ys fs).run P w=.ok b w
  | [],[],i,b,_,hl,he=>by
   have:xs.toList.drop i=[]:=List.drop_of_length_le (by rw [List.length_nil] at hl;omega)
   rw [this] at he
   cases hy:ys.toList.drop i with
   | nil=>rw [hy] at he;cases he;simp [Op.eqFields]
   | cons y r=>rw [hy] at he;cases he
  | [],_::_,_,_,hf,_,_=>by cases hf
  | _::_,[],_,_,hf,_,_=>by cases hf
  | d0::z,f::fs,i,b,hf,hl,he=>by
   simp only [eqFs,Bool.and_eq_true] at hf
   obtain ⟨⟨⟨h1,h2⟩,h3⟩,h4⟩:=hf
   have h1:=Nat.eq_of_beq_eq_true h1
   simp only [List.length_cons] at hl
   have hi:i<xs.toList.length:=by omega
   rw [List.drop_eq_getElem_cons hi] at he
   have hne : f.name ≠ "_" := by simpa using h2
   cases hy:ys.toList.drop i with
   | nil=>rw [hy] at he;cases d0 <;> cases hx:xs.toList[i] <;> rw [hx] at he <;> cases he
   | cons y r =>
    rw [hy] at he
    have hyi:ys.toList[i]?=some y:=by
     have:(ys.toList.drop i)[0]?=some y:=by rw [hy];rfl
     simpa using this
    have hyr:ys.toList.drop (i+1)=r:=by
     have:(ys.toList.drop i).drop 1=r:=by rw [hy];rfl
     simpa [List.drop_drop,Nat.add_comm] using this
    have hxi:xs.toList[i]?=some xs.toList[i]:=List.getElem?_eq_getElem hi
    cases d0 with
    | int k0 m0 =>
     cases hx:xs.toList[i] with
     | int k a =>
      rw [hx] at he hxi
      cases y with
      | int k' b' =>
       simp only [eqV] at he
       cases hs:same k k' with
       | false=>rw [hs] at he;cases he
       | true =>
        rw [hs] at he
        obtain rfl:=same_eq hs
        simp only at he
        cases hu:P.underlying f.type with
        | none=>rw [hu] at h3;cases h3
        | some td =>
         rw [hu] at h3
         cases td with
         | int kk =>
          cases hr:eqV z (xs.toList.drop (i+1)) r with
          | none=>rw [hr] at he;cases he
          | some b1 =>
           rw [hr] at he
           cases he
           have ih:=eqFields_int (w:=w) (d:=d) (xs:=xs) (ys:=ys) z fs (i+1) b1 h4 (by omega) (by rw [hyr];exact hr)
           simp only [Op.eqFields,ne_eq,hne,not_false_eq_true,if_true,Sem.run_bind]
           rw [h1,part_int hu (by simpa using hxi),Result.andThen_ok,part_int hu (by simpa using hyi),Result.andThen_ok,run_equalIn_int w d f.type k kk a b' hu,Result.andThen_ok]
           cases hab:(a==b') with
           | false=>simp
           | true=>simpa using ih
         | _=>cases h3
      | _=>cases he
     | _=>rw [hx] at he;cases he
    | ff =>
     cases hx:xs.toList[i] with
     | bool a =>
      rw [hx] at he hxi
      cases y with
      | bool b' =>
       simp only [eqV] at he
       cases hu:P.underlying f.type with
       | none=>rw [hu] at h3;cases h3
       | some td =>
        rw [hu] at h3
        cases td with
        | bool =>
         cases hr:eqV z (xs.toList.drop (i+1)) r with
         | none=>rw [hr] at he;cases he
         | some b1 =>
          rw [hr] at he
          cases he
          have ih:=eqFields_int (w:=w) (d:=d) (xs:=xs) (ys:=ys) z fs (i+1) b1 h4 (by omega) (by rw [hyr];exact hr)
          simp only [Op.eqFields,ne_eq,hne,not_false_eq_true,if_true,Sem.run_bind]
          rw [h1,part_bool hu (by simpa using hxi),Result.andThen_ok,part_bool hu (by simpa using hyi),Result.andThen_ok,run_equalIn_bool w d f.type a b' hu,Result.andThen_ok]
          cases hab:(a==b') with
          | false=>simp
          | true=>simpa using ih
        | _=>cases h3
      | _=>cases he
     | _=>rw [hx] at he;cases he
    | _=>cases he

theorem checkFields_int {P:Program} {w:World} {em:Bool} {d:Nat} {xs:Array Value}:∀ (z:List D) (fs:List Field) (i:Nat),eqFs P z fs i=true→i+fs.length=xs.toList.length →
    (forIn (m:=Sem) fs PUnit.unit fun f (_:PUnit)=>do
        if f.name ≠ "_" then Instr.checkKey em (d + 1) f.type (← part f.type xs f.offset)
        pure (ForInStep.yield PUnit.unit)).run P w=.ok () w
  | [],[],_,_,_=>by simp
  | [],_::_,_,hf,_=>by cases hf
  | _::_,[],_,_,_=>by simp
  | d0::z,f::fs,i,hf,hl=>by
   simp only [eqFs,Bool.and_eq_true] at hf
   obtain ⟨⟨⟨h1,h2⟩,h3⟩,h4⟩:=hf
   have h1:=Nat.eq_of_beq_eq_true h1
   simp only [List.length_cons] at hl
   have hi:i<xs.toList.length:=by omega
   obtain ⟨x,hxi⟩:∃ x,xs[i]?=some x:=⟨xs[i]'(by simpa using hi),by simp at hi;simp [hi]⟩
   have hne : f.name ≠ "_" := by simpa using h2
   have ih:=checkFields_int (w:=w) (em:=em) (d:=d) (xs:=xs) z fs (i+1) h4 (by omega)
   cases hu:P.underlying f.type with
   | none=>rw [hu] at h3;cases d0 <;> cases h3
   | some td =>
    rw [hu] at h3
    cases td with
    | int kk =>
     have hck:∀ v,(Instr.checkKey em (d+1) f.type v).run P w=.ok () w:=fun v=>by
      unfold Instr.checkKey
      simp only [Sem.run_bind,run_underlying hu,Result.andThen]
      cases v <;> rfl
     have hp:=part_int (w:=w) hu hxi
     rw [← h1] at hp
     simp only [List.forIn_cons,Sem.run_bind,hne,ne_eq,not_false_eq_true,if_true,hp,Result.andThen_ok,hck,Sem.run_pure]
     exact ih
    | bool =>
     have hck:∀ v,(Instr.checkKey em (d+1) f.type v).run P w=.ok () w:=fun v=>by
      unfold Instr.checkKey
      simp only [Sem.run_bind,run_underlying hu,Result.andThen]
      cases v <;> rfl
     have hp:=part_bool (w:=w) hu hxi
     rw [← h1] at hp
     simp only [List.forIn_cons,Sem.run_bind,hne,ne_eq,not_false_eq_true,if_true,hp,Result.andThen_ok,hck,Sem.run_pure]
     exact ih
    | _=>cases d0 <;> cases h3

structure EqsOK (P:Program) (t:TypeId) (n:Nat) (z:List D):Prop where
 keq:∀ (w:World) (xs ys:Array Value) (b:Bool),xs.toList.length=n→eqV z xs.toList ys.toList=some b→(Op.equal t (.agg xs) (.agg ys)).run P w=.ok b w
 kck:∀ (w:World) (em:Bool) (xs:Array Value),xs.toList.length=n→(Instr.checkKey em 10000 t (.agg xs)).run P w=.ok () w
 kfn:∃ fs,P.underlying t=some (.struct fs)
 eqs:∀ (w:World) (x y:Operand) (xs ys:Array Value) (b:Bool),xs.toList.length=n→eqV z xs.toList ys.toList=some b →
     (do eqGuard .eql t x y (.agg xs) (.agg ys);binOp .eql t (.agg xs) (.agg ys):Sem Value).run P w=.ok (.bool b) w ∧
     (do eqGuard .neq t x y (.agg xs) (.agg ys);binOp .neq t (.agg xs) (.agg ys):Sem Value).run P w=.ok (.bool (!b)) w

theorem eqs_struct {P:Program} {t:TypeId} {fs:Array Field} (h:P.underlying t=some (.struct fs)) (hp:P.stoodInHeld t=false) (hm:P.eqGuardType P.depth t=false) {z:List D} (hf:eqFs P z fs.toList 0=true) {n:Nat} (hn:fs.toList.length=n):EqsOK P t n z:=by
 have hfo:P.fieldsOf t=fs:=by simp [Program.fieldsOf,h]
 have hu:P.underlying t=some (.struct (P.fieldsOf t)):=by rw [hfo];exact h
 have key:∀ (w:World) (xs ys:Array Value) (b:Bool),xs.toList.length=n→eqV z xs.toList ys.toList=some b→(Op.equalIn 10000 t (.agg xs) (.agg ys)).run P w=.ok b w:=fun w xs ys b hl he=>by
  have:=eqFields_int (P:=P) (w:=w) (d:=9998) (xs:=xs) (ys:=ys) z fs.toList 0 b hf (by omega) (by simpa using he)
  exact (run_equalIn_struct (P:=P) w 9999 t xs ys hu hp).trans (by rw [hfo];exact this)
 refine ⟨fun w xs ys b hl he=>key w xs ys b hl he,fun w em xs hl=>?_,⟨fs,h⟩,fun w x y xs ys b hl he=>?_⟩
 ·show (Instr.checkKey em (9999+1) t (.agg xs)).run P w=.ok () w
  unfold Instr.checkKey
  simp only [Sem.run_bind,run_underlying h,Result.andThen_ok]
  rw [← Array.forIn_toList]
  have e:=checkFields_int (P:=P) (w:=w) (em:=em) (d:=9998) (xs:=xs) z fs.toList 0 hf (by omega)
  erw [e]
  rfl
 ·have he:=key w xs ys b hl he
  constructor
  ·rw [Sem.run_bind,run_eqGuard_agg w .eql t x y xs ys hm,Result.andThen_ok,run_eql_struct,he];rfl
  ·rw [Sem.run_bind,run_eqGuard_agg w .neq t x y xs ys hm,Result.andThen_ok,run_neq_struct,he]
   rfl

end Go.V

namespace Go.V
open Go.RowKit

def lookT:List (Nat × TI)→Nat→Option TI
 | [],_=>none
 | (k,d)::r,t=>match Nat.beq k t with
  | true=>some d
  | false=>lookT r t

theorem TOK.nil {P:Program}:TOK P (lookT []):=fun _ _ h=>by cases h
theorem TOK.cons {P:Program} {k:Nat} {d:TI} {r:List (Nat × TI)} (h:TIok P k d) (hr:TOK P (lookT r)):TOK P (lookT ((k,d)::r)):=fun t ti ht=>by
 simp only [lookT] at ht
 cases hb:Nat.beq k t with
 | true =>
  rw [hb] at ht
  cases ht
  rw [← Nat.eq_of_beq_eq_true hb]
  exact h
 | false=>rw [hb] at ht;exact hr t ti ht

def aggOf:TypeDesc→Bool
 | .struct _ | .array _ _=>true
 | _=>false

def knownOK (P:Program):TypeDesc→Bool
 | .struct fs=>fs.toList.all fun f=>(P.info? f.type).isSome
 | _=>true

theorem TIok.of {P:Program} {t:TypeId} {ti:TI} {i:TypeInfo} {z:Value} (h1:P.underlying t=some ti.desc) (h2:ti.agg=aggOf ti.desc) (h3:P.info? t=some i) (h4:i.zero=some z) (h5:i.size=ti.size) (h6:i.bytes=ti.bytes)
    (h7:z.cells.toList.map ofConst=ti.zero.map some) (h8:ti.zero.length=ti.size) (h9:knownOK P ti.desc=true)
    (h10:ti.eqs=true→EqsOK P t ti.size ti.zero) (h11:zShape ti.agg z=true:=by kernel_rfl):TIok P t ti where
  desc:=h1
  agg:=by rw [h2];cases ti.desc <;> rfl
  info:=⟨i,z,h3,h4,h5,h6,by have:=congrArg List.length h7;simpa using this,fun j v d hv hd=>by
   have:=congrArg (·[j]?) h7
   simp only [List.getElem?_map,hv,hd,Option.map_some] at this
   exact Option.some.inj this,h11⟩
  zlen:=h8
  known:=fun fs hfs f hf=>by
   rw [hfs] at h9
   simp only [knownOK,List.all_eq_true] at h9
   exact h9 f hf
  keq:=fun h=>(h10 h).keq
  kck:=fun h=>(h10 h).kck
  kfn:=fun h=>by
   obtain ⟨fs,hf⟩:=(h10 h).kfn
   rw [h1] at hf
   exact ⟨fs,Option.some.inj hf⟩
  eqs:=fun h=>(h10 h).eqs

def slotI (t:Nat) (σ:St):Int:=match V.look σ.tmps t with | some (.int _ i)=>i | _=>0

def cellI (i off:Nat) (σ:St):Int:=match σ.boxes[i]? with | some (.flat _ cs)=>(match cs[off]? with | some (.int _ m)=>m | _=>0) | _=>0

theorem wrap64 {n:Int} (h1:-9223372036854775808≤n) (h2:n≤9223372036854775807):IntKind.i64.wrap n=n:=by
 simp only [IntKind.wrap,IntKind.signed,IntKind.bits]
 simp
 omega

def bodyOK (fn:Func):Bool :=
 match fn.body with
 | some c=>bounded fn.ntmps c
 | none=>false

theorem den_of [Glb] {sh:Kinds} {ish:Nat→Bool} {P:Program} {T:Nat→Option TI} (hT:TOK P T) (hmix:P.follows .mixedOrders=true) {f:FuncId} {fn:Func} (hf:P.funcs[f]?=some fn) (he:Enters P f) (hb:bodyOK fn=true) {args:List D} {d:D}
    (hn:Nat.ble args.length fn.ntmps=true) (h:Body T (CD P sh) (ItD P ish) fn args d):Den P f args d:=by
  unfold bodyOK at hb
  cases hc:fn.body with
  | none=>rw [hc] at hb;cases hb
  | some c=>rw [hc] at hb;exact den_of_body hT hmix hf hc he hb (Nat.le_of_ble_eq_true hn) h

theorem den_ofW [Glb] {sh:Kinds} {ish:Nat→Bool} {P:Program} {T:Nat→Option TI} (hT:TOK P T) (hmix:P.follows .mixedOrders=true) {f:FuncId} {fn:Func} (hf:P.funcs[f]?=some fn) (he:Enters P f) (hb:bodyOK fn=true) {args:List D} {d:D}
    (hn:Nat.ble args.length fn.ntmps=true) (h:BodyW T (CD P sh) (ItD P ish) fn args d):Den P f args d:=by
  unfold bodyOK at hb
  cases hc:fn.body with
  | none=>rw [hc] at hb;cases hb
  | some c=>rw [hc] at hb;exact den_of_bodyW hT hmix hf hc he hb (Nat.le_of_ble_eq_true hn) h

theorem iff' {b:Bool} {p:Prop} (h:b=true) (hp:p):Iff' b p:=by subst h;exact hp

theorem beq_self (n:Nat):Nat.beq n n=true:=Nat.beq_refl n

theorem mapO_cons {f:D→Option D} {d x:D} {r l:List D} (h:f d=some x) (hr:mapO f r=some l):mapO f (d::r)=some (x::l):=by simp only [mapO,h,hr]
theorem reify_tup {bs:List Box} {n:Nat} {ds es:List D} (h:mapO (reify bs n) ds=some es):reify bs (n+1) (.tup ds)=some (.tup es):=by simp only [reify,h]
theorem reify_sl {bs:List Box} {n i g sz len:Nat} {fz:Bool} {rs:List (List D)} (h:bs[i]?=some (.rows fz g sz rs)) (hl:len=rs.length):reify bs (n+1) (.sl i g 0 len)=some (.list sz rs):=by
 subst hl
 simp only [reify,h,beq_self,List.drop_zero,List.take_length]
theorem reify_loc {bs:List Box} {n i off:Nat} {fz:Bool} {cs es:List D} (h:bs[i]?=some (.flat fz cs)) (he:mapO (reify bs n) (cs.drop off)=some es):reify bs (n+1) (.loc i off)=some (.ro es):=by simp only [reify,h,he]


theorem iter_of [Glb] {sh:Kinds} {ish:Nat→Bool} {P:Program} {T:Nat→Option TI} (hT:TOK P T) (hmix:P.follows .mixedOrders=true) {f:FuncId} {fn:Func} (hf:P.funcs[f]?=some fn) (he:Enters P f) (hb:bodyOK fn=true) {args:List D} {xs:List (List D)}
    (hn:Nat.ble (args.length+1) fn.ntmps=true) (h:BodyIter T (CD P sh) (ItD P ish) fn args xs):IterDen P f args xs:=by
  unfold bodyOK at hb
  cases hc:fn.body with
  | none=>rw [hc] at hb;cases hb
  | some c=>rw [hc] at hb;exact iter_of_body hT hmix hf hc he hb (Nat.le_of_ble_eq_true hn) h

theorem denY_of [Glb] {sh:Kinds} {ish:Nat→Bool} {P:Program} {T:Nat→Option TI} (hT:TOK P T) (hmix:P.follows .mixedOrders=true) {f:FuncId} {fn:Func} (hf:P.funcs[f]?=some fn) (he:Enters P f) (hb:bodyOK fn=true) {args:List D} {bs:List Box} {y:Yst} {Q:D→List Box→Yst→Prop}
    (hn:Nat.ble args.length fn.ntmps=true) (h:BodyY T (CD P sh) (ItD P ish) fn args bs y Q):DenY P f args bs y Q:=by
  unfold bodyOK at hb
  cases hc:fn.body with
  | none=>rw [hc] at hb;cases hb
  | some c=>rw [hc] at hb;exact denY_of_body hT hmix hf hc he hb (Nat.le_of_ble_eq_true hn) h


end Go.V

namespace Go.V
open Go.RowKit

section
variable {P:Program} [Glb] {sh:Kinds} {ish:Nat→Bool} {T:Nat→Option TI}

omit [Glb] in
theorem leaves_marksU {F:Fence} {n:Nat} {fn:Func} {tmps:Array Value} {R:Ending→World→Prop} {u:FrameMode} (hu:u≠.run):∀ (ds:List Deferred) (w:World),(ds.Pairwise fun d d'=>d.target≠d'.target) →
    (∀ d∈ds,∃ R,d={ target:=.collected R,args:=#[] }∧w.heap[R]?=some (.deferred (some [])))→(∀ w',Keep (fun k=>∀ d∈ds,d.target≠.collected k) w w'→LeavesIn F n P fn tmps R [] u w')→LeavesInM F n P fn tmps R ds u w
  | [],w,_,_,h=>h w (Keep.refl _ w)
  | d::ds,w,hp,hm,h=>by
   obtain ⟨hd,hp⟩:=List.pairwise_cons.1 hp
   obtain ⟨b,e,hb⟩:=hm d (by simp)
   refine ⟨hu,.inl ⟨b,_,by rw [e],run_takeDeferred hb,leaves_marksU hu ds _ hp (fun d' hd'=>?_) fun w' k=>h w' ?_⟩⟩
   ·obtain ⟨b',e',hb'⟩:=hm d' (by simp [hd'])
    refine ⟨b',e',?_⟩
    rw [World.putObj_heap_other (fun e2=>hd d' hd' (by rw [e,e',e2]))]
    exact hb'
   ·exact ((keep_put w b _).mono fun k hk e2=>hk d (by simp) (by rw [e,e2])).trans (k.mono fun k hk d' hd'=>hk d' (by simp [hd']))

def BodyP (T:Nat→Option TI) (C:Ctr) (It:Itr) (fn:Func) (args:List D) (o:Option Value):Prop :=
 match fn.body with
 | some c=>forceL (args0 args 0) fun tm=>WR T C It c 0 ⟨tm,[],.non⟩ fun e σ=>match e with
  | .exit _=>False
  | .panic v=>o=some v
  | _=>o=none∧resultD T fn σ=some (.tup [])
 | none=>False

theorem denP_of_body (hT:TOK P T) (hmix:P.follows .mixedOrders=true) {f:FuncId} {fn:Func} {c:Code} (hf:P.funcs[f]?=some fn) (hb:fn.body=some c) (he:Enters P f) (hbd:bounded fn.ntmps c=true) {args:List D} (hn:args.length≤fn.ntmps) {o:Option Value}
    (h:BodyP T (CD P sh) (ItD P ish) fn args o):DenP P f args o:=by
  refine ⟨he,fun w I vs hag hgl hrel=>?_⟩
  unfold BodyP at h
  rw [hb] at h
  simp only [forceL_eq,WR_eq] at h
  let cx:Cx:=⟨(·<w.heap.size),fun w'=>Keep (·<w.heap.size) w w',fun y _ _=>y=.non,I,fun _ _=>False,0,nob,fun _=>False⟩
  have hD:∀ d,¬ cx.dfr d:=fun _ h=>h
  have hcx:cx.Ok:=⟨hgl,fun w' w'' h1 h2=>h1.trans h2,fun _ _ _ _ h _=>h,fun _ _ h=>h.elim,fun _ _ h=>(by cases h),fun _ h=>h.elim⟩
  have hy:YieldOK P cx:=fun l x r S w' I' vs' G hj=>by cases hj
  have hfs:=Sim.start (cx:=cx) (S:=fun _=>False) (y:=.non) (N:=fn.ntmps) (fun _=>Iff.rfl) rfl (Keep.refl _ w) rfl (fun _ _ h=>h) rfl (fun _ h=>h) hag (fun _ h=>h.elim) hrel hn
  refine callsIn_wide.1 (callsIn_of_wp_marks (n:=0) hf hb trivial ?_)
  refine wpIn_mono (W_sound hT hmix c hbd 0 _ _ cx Fence.wide 0 _ w h (.inl rfl) hcx (fun l y S w' hl=>by cases hl) hy (Nat.le_refl _) hfs) ?_
  have fin:∀ σ a' w',o=none→resultD T fn σ=some (.tup [])→FS cx σ fn.ntmps a' w'→LeavesInM Fence.wide 0 P fn a'.tmps (fun e w'=>Keep (·<w.heap.size) w w'∧endsP o e) a'.defers .returning w':=by
   rintro σ a' w' rfl hres ⟨β,I',S,hs,_⟩
   refine leaves_marks a'.defers w' hs.nd (fun d hd=>let ⟨R,h1,h2,_⟩:=hs.marks d hd (hD d);⟨R,h1,h2⟩) fun w'' k=>?_
   have hs':=hs.left hcx hD k
   obtain ⟨v,L,hrun,_⟩:=results_sound hT hs' hres
   exact ⟨v,hrun,hs'.fr,v,rfl⟩
  intro e a' w' hq
  cases e with
  | normal=>obtain ⟨σ,⟨h1,h2⟩,h3⟩:=hq;exact fin σ a' w' h1 h2 h3
  | ret=>obtain ⟨σ,⟨h1,h2⟩,h3⟩:=hq;exact fin σ a' w' h1 h2 h3
  | exit id=>obtain ⟨σ,h1,h2⟩:=hq;exact h1.elim
  | goto l=>exact hq.elim
  | panic ch =>
   obtain ⟨σ,v,rfl,ho,β,I',S,hs,_⟩:=hq
   have ho:o=some v:=ho
   subst ho
   refine leaves_marksU (by simp) a'.defers w' hs.nd (fun d hd=>let ⟨R,h1,h2,_⟩:=hs.marks d hd (hD d);⟨R,h1,h2⟩) fun w'' k=>?_
   have hs':=hs.left hcx hD k
   exact ⟨hs'.fr,rfl⟩
  | outgrown=>exact hq.elim

theorem denP_of (hT:TOK P T) (hmix:P.follows .mixedOrders=true) {f:FuncId} {fn:Func} (hf:P.funcs[f]?=some fn) (he:Enters P f) (hb:bodyOK fn=true) {args:List D} {o:Option Value}
    (hn:Nat.ble args.length fn.ntmps=true) (h:BodyP T (CD P sh) (ItD P ish) fn args o):DenP P f args o:=by
  unfold bodyOK at hb
  cases hc:fn.body with
  | none=>rw [hc] at hb;cases hb
  | some c=>rw [hc] at hb;exact denP_of_body hT hmix hf hc he hb (Nat.le_of_ble_eq_true hn) h

end
end Go.V
