/- A function that defers one call of a function that recovers: its contract from its body; A function that is handed no boxes changes nothing: its plain contract; Arguments that are told more weakly. No condition. -/
import Derived.RecoverIn
import Derived.Test.YtfdflbdnjimfaaaPackUI

namespace Go.V
open Go.RowKit

def flat:Code→List Code
 | .seq a b=>flat a++flat b
 | c=>[c]
noncomputable def flatR (c:Code):List Code :=
 Code.rec (motive:=fun _=>List Code) [.skip] (fun id ops dr=>[.region id ops dr]) (fun _ _ a b=>a++b) (fun x a b _ _=>[.cond x a b]) (fun id c _=>[.block id c]) (fun c _=>[.loop c]) (fun f ps a c _ _=>[.rangeFunc f ps a c]) (fun id=>[.exit id]) (fun c _=>[.scope c]) (fun l=>[.label l]) (fun l=>[.goto l]) [.ret] (fun w=>[.refuse w]) c
theorem flatR_eq:∀ c,flatR c=flat c:=by
 intro c
 induction c with
 | seq a b iha ihb =>
  show flatR a++flatR b=_
  rw [iha,ihb];rfl
 | _=>rfl

def wpL (F:Fence) (n:Nat) (P:Program) (Q:Exit→Act→World→Prop):List Code→Act→World→Prop
 | [],a,w=>Q .normal a w
 | c::r,a,w=>c.wpIn F n P (Exit.then (wpL F n P Q r) Q) a w

noncomputable def wLR (T:Nat→Option TI) (C:Ctr) (It:Itr) (l:List Code):WTr :=
 List.rec (motive:=fun _=>WTr) (fun _ σ Q=>Q .normal σ) (fun c _ ih=>fun lo σ Q=>WR T C It c lo σ fun e σ'=>match e with
  | .normal=>ih lo σ' Q
  | .exit id=>Q (.exit id) σ'
  | .ret=>Q .ret σ'
  | .panic v=>Q (.panic v) σ') l

section
variable {P:Program} [Glb] {sh:Kinds} {ish:Nat→Bool} {T:Nat→Option TI} {cx:Cx} {σ:St} {β:BE} {I:Imm} {S:Nat→Prop} {N:Nat} {a:Act} {w:World}

omit [Glb] in
theorem wpL_append {F:Fence} {n:Nat} {Q:Exit→Act→World→Prop}:∀ (l m:List Code) (a:Act) (w:World),wpL F n P Q (l++m) a w→wpL F n P (Exit.then (wpL F n P Q m) Q) l a w
 | [],m,a,w,h=>h
 | c::l,m,a,w,h=>wpIn_mono h fun e a w=>by
  cases e with
  | normal=>exact wpL_append l m a w
  | _=>exact fun h=>h

omit [Glb] in
theorem wpL_join {F:Fence} {n:Nat} {Q:Exit→Act→World→Prop}:∀ (l m:List Code) (a:Act) (w:World),wpL F n P (Exit.then (wpL F n P Q m) Q) l a w→wpL F n P Q (l++m) a w
 | [],m,a,w,h=>h
 | c::l,m,a,w,h=>wpIn_mono h fun e a w=>by
  cases e with
  | normal=>exact wpL_join l m a w
  | _=>exact fun h=>h

omit [Glb] in
theorem wpL_mono {F:Fence} {n:Nat} {Q Q':Exit→Act→World→Prop} (hQ:∀ e a w,Q e a w→Q' e a w):∀ (l:List Code) (a:Act) (w:World),wpL F n P Q l a w→wpL F n P Q' l a w
 | [],a,w,h=>hQ _ _ _ h
 | c::l,a,w,h=>wpIn_mono h fun e a w=>by
  cases e with
  | normal=>exact wpL_mono hQ l a w
  | _=>exact hQ _ _ _

omit [Glb] in
theorem wpIn_flat {F:Fence} {n:Nat}:∀ (c:Code) (Q:Exit→Act→World→Prop) (a:Act) (w:World),wpL F n P Q (flat c) a w→c.wpIn F n P Q a w:=by
 intro c
 induction c with
 | seq x y ihx ihy =>
  intro Q a w h
  refine wpIn_seq ?_
  have h1:=wpL_append (flat x) (flat y) a w h
  refine wpIn_mono (ihx _ a w h1) ?_
  intro e a w hq
  cases e with
  | normal=>exact ihy _ a w hq
  | _=>exact hq
 | _ =>
  intro Q a w h
  refine wpIn_mono h ?_
  intro e a w hq
  cases e <;> exact hq

omit [Glb] in
theorem bounded_flat:∀ {c:Code},bounded N c=true→∀ x∈flat c,bounded N x=true:=by
 intro c
 induction c with
 | seq x y ihx ihy =>
  intro hb z hz
  simp only [bounded] at hb
  cases hx:bounded N x with
  | false=>rw [hx] at hb;cases hb
  | true =>
   rw [hx] at hb
   rcases List.mem_append.1 hz with h | h
   ·exact ihx hx z h
   ·exact ihy hb z h
 | _=>intro hb z hz;rw [List.mem_singleton.1 hz];exact hb

theorem wLR_sound (hT:TOK P T) (hmix:P.follows .mixedOrders=true) {F:Fence} (hF:FW F) {n:Nat} (hcx:cx.Ok) (hR:RoundOK F cx) (hy:YieldOK P cx) {lo:Nat} (hlo:cx.lo≤lo) {Q:Ex→St→Prop} :
    ∀ (l:List Code) (σ:St) (a:Act) (w:World),(∀ x∈l,bounded N x=true)→wLR T (CD P sh) (ItD P ish) l lo σ Q→FS cx σ N a w→wpL F n P (PostE cx N Q) l a w
  | [],σ,a,w,_,h,hfs=>⟨σ,h,hfs⟩
  | c::l,σ,a,w,hb,h,hfs=>by
   have h:WR T (CD P sh) (ItD P ish) c lo σ fun e σ'=>match e with
    | .normal=>wLR T (CD P sh) (ItD P ish) l lo σ' Q
    | .exit id=>Q (.exit id) σ'
    | .ret=>Q .ret σ'
    | .panic v=>Q (.panic v) σ':=h
   rw [WR_eq] at h
   refine wpIn_mono (W_sound hT hmix c (hb c (by simp)) lo σ _ cx F n a w h hF hcx hR hy hlo hfs) ?_
   intro e a' w' hq
   cases e with
   | normal =>
    obtain ⟨σ',h1,h2⟩:=hq
    exact wLR_sound hT hmix hF hcx hR hy hlo l σ' a' w' (fun x hx=>hb x (by simp [hx])) h1 h2
   | exit id=>exact hq
   | ret=>exact hq
   | goto l=>exact hq
   | panic ch=>exact hq
   | outgrown=>exact hq

omit [Glb] in
theorem Sim.defer (h:Sim cx (fun _=>True) σ β I S N a w) (hno:∀ d,¬ cx.dfr d) {d0:Deferred} (hd:∀ R,d0.target≠.collected R) :
    Sim { cx with dfr:=fun d=>d=d0 } (fun _=>True) σ β I S N { a with defers:=d0::a.defers } w:=by
  refine { h with tm:=h.tm,sz:=h.sz,pres:=fun d e=>by rw [e];exact List.mem_cons_self ..,dn:=fun d e=>by rw [e];exact hd,nd:=List.pairwise_cons.2 ⟨fun d hdm e=>?_,h.nd⟩,marks:=fun d hdm hnd=>?_ }
  ·obtain ⟨R,e1,_⟩:=h.marks d hdm (hno d)
   exact hd R (by rw [e,e1])
  ·rcases List.mem_cons.1 hdm with e | e
   ·exact absurd e hnd
   ·exact h.marks d e (hno d)

def Cx.noDfr (cx:Cx):Cx:={ cx with dfr:=fun _=>False }
theorem Cx.Ok.noDfr (h:cx.Ok):cx.noDfr.Ok:=⟨h.gl,h.fr,h.j,h.g,h.b,fun _ h=>h.elim⟩

theorem Sim.popMark (hcx:cx.Ok) {d:Deferred} {ds:List Deferred} (h:Sim cx (fun _=>True) σ β I S N { a with defers:=d::ds } w) (hd:¬ cx.dfr d) :
    ∃ R,d={ target:=.collected R,args:=#[] }∧w.heap[R]?=some (.deferred (some []))∧Sim cx (fun _=>True) σ β I S N { a with defers:=ds } (w.putObj R (.deferred none)):=by
  obtain ⟨R,e,hR,ho,hS⟩:=h.marks d (by simp) hd
  obtain ⟨hp,hp2⟩:=List.pairwise_cons.1 h.nd
  have h0:Sim cx (fun _=>True) σ β I S N { a with defers:=ds } w:={ h with
   tm:=h.tm
   sz:=h.sz
   nd:=hp2
   pres:=fun x hx=>by
    rcases List.mem_cons.1 (h.pres x hx) with e2 | e2
    ·subst e2;exact absurd hx hd
    ·exact e2
   marks:=fun x hx hn=>h.marks x (List.mem_cons_of_mem _ hx) hn }
  refine ⟨R,e,hR,h0.keepS hcx (S':=fun k=>k≠R) { lo:=fun k hk e2=>ho (e2 ▸ hk),im:=fun B off v hv e2=>?_,bx:=fun i b R' hb hR' e2=>?_,ss:=fun k hk e2=>hS (e2 ▸ hk),mks:=fun x hx R' hR' e2=>?_ } (keep_put w R _)⟩
  ·subst e2
   exact not_cell' hR (h.agree B off v hv) rfl
  ·subst e2
   obtain ⟨_,_,h3⟩:=h.bx i b hb
   obtain ⟨_,hmem,hh⟩:=h3.lt hR'
   rw [hR] at hh;cases hh;exact Bool.noConfusion hmem
  ·subst e2
   exact hp x hx (by rw [hR',e])

omit [Glb] in
theorem Sim.popDfr {d0:Deferred} {ds:List Deferred} (hd0:∀ d,cx.dfr d↔d=d0) (h:Sim cx (fun _=>True) σ β I S N { a with defers:=d0::ds } w):Sim cx.noDfr (fun _=>True) σ β I S N { a with defers:=ds } w:=by
 obtain ⟨hp,hp2⟩:=List.pairwise_cons.1 h.nd
 exact { h with
  tm:=h.tm
  sz:=h.sz
  nd:=hp2
  pres:=fun x hx=>hx.elim
  dn:=fun x hx=>hx.elim
  marks:=fun x hx _=>h.marks x (List.mem_cons_of_mem _ hx) fun hn=>hp x hx (by rw [(hd0 x).1 hn]) }

theorem leaves_def (hcx:cx.Ok) {F:Fence} (hF:FW F) {n:Nat} {fn:Func} {R:Ending→World→Prop} {u:FrameMode} (hu:u≠.run) {k:FuncId} {caps:Array Value} (hk:Enters P k) {σ2:St} (hd0:∀ d,cx.dfr d↔d={ target:=.fn (.func k) caps,args:=#[] })
    (hcall:∀ (a:Act) (w:World),Sim cx.noDfr (fun _=>True) σ β I S N a w→CallsDIn F (n - 1) P k caps u w fun e u' w2=>(∃ v,e=.returned v)∧settle u'=.returning∧Sim cx.noDfr (fun _=>True) σ2 β I S N a w2)
    (hfin:∀ (ds:List Deferred) (w:World),Sim cx.noDfr (fun _=>True) σ2 β I S N { a with defers:=ds } w→LeavesInM F n P fn a.tmps R ds .returning w) :
    ∀ (ds:List Deferred) (w:World),Sim cx (fun _=>True) σ β I S N { a with defers:=ds } w→LeavesInM F n P fn a.tmps R ds u w
  | [],w,h=>by
   have:=h.pres _ ((hd0 _).2 rfl)
   cases this
  | d::ds,w,h=>by
   by_cases e0:d={ target:=.fn (.func k) caps,args:=#[] }
   ·subst e0
    refine ⟨hu,.inr ⟨fun hh=>absurd hh (by rw [hF.depth];simp),_,_,k,caps,rfl,?_,fun g _=>hF.fn g,(hcall _ w (h.popDfr hd0)).mono ?_⟩⟩
    ·have:=hk (#[]++caps) w
     simpa [invoke] using this
    ·rintro e u' w2 ⟨⟨v,rfl⟩,hs,hz⟩
     show LeavesInM F n P fn a.tmps R ds (settle u') w2
     rw [hs]
     exact hfin ds w2 hz
   ·obtain ⟨b,e,hb,hs⟩:=h.popMark hcx (fun hn=>e0 ((hd0 d).1 hn))
    have hdt:d.target=.collected b:=by rw [e]
    exact ⟨hu,.inl ⟨b,_,hdt,run_takeDeferred hb,leaves_def hcx hF hu hk hd0 hcall hfin ds _ hs⟩⟩

def Catches (P:Program) (k:FuncId) (t:TypeId):Prop :=
 Enters P k∧∀ (cx:Cx) (σ:St) (β:BE) (I:Imm) (S:Nat→Prop) (N:Nat) (a:Act) (w:World) (v1 v2:Value) (i1 i2:Nat) (c1:D) (c2:Int),cx.Ok→Sim cx (fun _=>True) σ β I S N a w→Rel I β v1 (.loc i1 0)→Rel I β v2 (.loc i2 0)→i1≠i2 →
  σ.boxes[i1]?=some (.flat false [c1])→σ.boxes[i2]?=some (.flat false [.int .i64 c2]) →
  (CallsDIn Fence.wide 0 P k #[v1,v2] .returning w fun e u' w'=>(∃ v,e=.returned v)∧u'=.returning∧w'=w) ∧
  ∀ x:Int,CallsDIn Fence.wide 0 P k #[v1,v2] (.panicking [{ v:=.iface t (.int .i64 x),recovered:=false }]) w fun e u' w'=>(∃ v,e=.returned v)∧settle u'=.returning ∧
   Sim cx (fun _=>True) ⟨σ.tmps,(σ.boxes.set i1 (.flat false [.nilp])).set i2 (.flat false [.int .i64 x]),σ.y⟩ β I S N a w'

def caught (bs:List Box) (i1 i2:Nat) (x:Int):List Box:=(bs.set i1 (.flat false [.nilp])).set i2 (.flat false [.int .i64 x])

def twoCells (bs:List Box) (i1 i2:Nat):Prop:=∃ c1 c2,bs[i1]?=some (.flat false [c1])∧bs[i2]?=some (.flat false [.int .i64 c2])

def BodyD (T:Nat→Option TI) (C:Ctr) (It:Itr) (fn:Func) (np t1 t2 t3:Nat) (k:FuncId) (t:TypeId) (args:List D) (d:D):Prop :=
 match fn.body with
 | some c=>forceL (args0 args 0) fun tm=>wLR T C It ((flatR c).take np) 0 ⟨tm,[],.non⟩ fun e σ=>match e with
  | .normal=>∃ i1 i2,look σ.tmps t1=some (.loc i1 0)∧look σ.tmps t2=some (.loc i2 0)∧Nat.blt i1 σ.boxes.length=true∧Nat.blt i2 σ.boxes.length=true∧i1≠i2 ∧
      wLR T C It ((flatR c).drop (np+1)) σ.boxes.length ⟨(t3,.clo (.func k) [] [.loc i1 0,.loc i2 0])::σ.tmps,σ.boxes,σ.y⟩ fun e σ'=>match e with
       | .exit _=>False
       | .panic v=>twoCells σ'.boxes i1 i2∧∃ x,v=.iface t (.int .i64 x)∧resultD T fn ⟨σ'.tmps,caught σ'.boxes i1 i2 x,σ'.y⟩=some d
       | _=>twoCells σ'.boxes i1 i2∧resultD T fn σ'=some d
  | .ret=>resultD T fn σ=some d
  | .exit _=>False
  | .panic _=>False
 | none=>False

theorem den_of_def (hT:TOK P T) (hmix:P.follows .mixedOrders=true) {f:FuncId} {fn:Func} {c:Code} (hf:P.funcs[f]?=some fn) (hb:fn.body=some c) (he:Enters P f) (hbd:bounded fn.ntmps c=true) {args:List D} (hn:args.length≤fn.ntmps) {d:D}
    {np t1 t2 t3 id:Nat} {k:FuncId} {t:TypeId} {o1 o2:Oper} (hreg:flat c=(flat c).take np++.region id #[o1,o2] false::(flat c).drop (np+1)) (h1:o1.op=.makeFunc (.func k) #[] #[.tmp t1,.tmp t2]) (h1d:o1.dst=some t3) (h1g:o1.guard=none)
    {cl:Call} (h2:o2.op=.defer cl) (h2c:cl.callee=.value (.tmp t3)) (h2a:cl.args=#[]) (h2d:o2.dst=none) (h2g:o2.guard=none) (ht3:t3<fn.ntmps) (hcat:Catches P k t)
    (h:BodyD T (CD P sh) (ItD P ish) fn np t1 t2 t3 k t args d):Den P f args d:=by
  refine ⟨he,fun w I vs hag hgl hrel=>?_⟩
  unfold BodyD at h
  rw [hb] at h
  simp only [forceL_eq,flatR_eq] at h
  let cx:Cx:=⟨(·<w.heap.size),fun w'=>Keep (·<w.heap.size) w w',fun y _ _=>y=.non,I,fun _ _=>False,0,nob,fun _=>False⟩
  have hD:∀ d,¬ cx.dfr d:=fun _ h=>h
  have hcx:cx.Ok:=⟨hgl,fun w' w'' h1 h2=>h1.trans h2,fun _ _ _ _ h _=>h,fun _ _ h=>h.elim,fun _ _ h=>(by cases h),fun _ h=>h.elim⟩
  have hy:YieldOK P cx:=fun l x r S w' I' vs' G hj=>by cases hj
  have hfs:=Sim.start (cx:=cx) (S:=fun _=>False) (y:=.non) (N:=fn.ntmps) (fun _=>Iff.rfl) rfl (Keep.refl _ w) rfl (fun _ _ h=>h) rfl (fun _ h=>h) hag (fun _ h=>h.elim) hrel hn
  let R:Ending→World→Prop:=fun e w'=>∃ v I',e=.returned v∧Keep (·<w.heap.size) w w'∧Grow w.heap.size I I'∧Agree I' w'∧Rel I' nob v d
  have fin:∀ (cx':Cx),cx'.old=cx.old→cx'.I0=cx.I0→cx'.Fr=cx.Fr→cx'.Ok→(∀ d,¬ cx'.dfr d)→∀ σ β I' S a' w',resultD T fn σ=some d→Sim cx' (fun _=>True) σ β I' S fn.ntmps a' w'→LeavesInM Fence.wide 0 P fn a'.tmps R a'.defers .returning w':=by
   intro cx' e1 e2 e3 hcx' hD' σ β I' S a' w' hres hs
   refine leaves_marks a'.defers w' hs.nd (fun d hd=>let ⟨R,h1,h2,_⟩:=hs.marks d hd (hD' d);⟨R,h1,h2⟩) fun w'' k=>?_
   have hs':=hs.left hcx' hD' k
   obtain ⟨v,L,hrun,hrel'⟩:=results_sound hT hs' hres
   have hfr:=hs'.fr
   rw [e3] at hfr
   have hI0:=hs'.I0
   rw [e2] at hI0
   refine ⟨v,hrun,v,_,rfl,hfr,⟨Imm.le_trans hI0 (plusB_le hs'.agree L β),fun B off hB=>?_⟩,plusB_agree hs'.agree L β,hrel'⟩
   unfold plusB
   have hB':cx'.old B:=by rw [e1];exact hB
   rw [if_neg]
   ·have:=hs'.Iold B off hB'
    rw [e2] at this
    exact this
   ·rintro ⟨i,b,_,hbi,hR⟩
    have:=(hs'.own i b B hbi hR).1
    exact this hB'
  refine callsIn_wide.1 (callsIn_of_wp_marks (n:=0) hf hb trivial ?_)
  refine wpIn_flat c _ _ w ?_
  rw [hreg]
  have hbl:=bounded_flat hbd
  refine wpL_join _ _ _ _ (wpL_mono ?_ _ _ _ (wLR_sound hT hmix (.inl rfl) (n:=0) hcx (fun l y S w' hl=>by cases hl) hy (Nat.le_refl _) _ _ _ _ (fun x hx=>hbl x (List.mem_of_mem_take hx)) h hfs))
  intro e a' w' hq
  cases e with
  | ret=>obtain ⟨σ,h1,β,I',S,hs,_⟩:=hq;exact fin cx rfl rfl rfl hcx hD σ β I' S a' w' h1 hs
  | exit id=>obtain ⟨σ,h1,h2⟩:=hq;exact h1.elim
  | goto l=>exact hq.elim
  | panic ch=>obtain ⟨_,_,_,h1,_⟩:=hq;exact h1.elim
  | outgrown=>exact hq.elim
  | normal =>
   obtain ⟨σ,⟨i1,i2,hl1,hl2,hb1,hb2,hne,hpost⟩,β,I',S,hs,htot⟩:=hq
   show (Code.region id #[o1,o2] false).wpIn Fence.wide 0 P (Exit.then (wpL Fence.wide 0 P (bodyPostM Fence.wide 0 P fn R) ((flat c).drop (np+1))) (bodyPostM Fence.wide 0 P fn R)) a' w'
   obtain ⟨v1,hv1,hr1⟩:=hs.tm t1 _ trivial hl1
   obtain ⟨v2,hv2,hr2⟩:=hs.tm t2 _ trivial hl2
   have ev1:a'.eval (.tmp t1)=v1:=by simp [Act.eval,Array.getD_eq_getD_getElem?,hv1]
   have ev2:a'.eval (.tmp t2)=v2:=by simp [Act.eval,Array.getD_eq_getD_getElem?,hv2]
   have hrun1:(execOp a'.eval o1).run P w'=.ok (.value (.func (.func k) #[] #[v1,v2])) w':=by
    unfold execOp
    simp only [h1]
    simp [Instr.makeFunc,ev1,ev2]
   obtain ⟨a1,ha1⟩:∃ a1,a'.put o1.dst (.func (.func k) #[] #[v1,v2])=a1:=⟨_,rfl⟩
   have hsz:t3<a'.tmps.size:=by rw [hs.sz];exact ht3
   have ev3:a1.eval (.tmp t3)=.func (.func k) #[] #[v1,v2]:=by rw [← ha1,h1d];simp [Act.eval,Act.put,hsz]
   obtain ⟨d0,hd0⟩:∃ d0:Deferred,d0={ target:=.fn (.func k) #[v1,v2],args:=#[] }:=⟨_,rfl⟩
   have hrun2:(execOp a1.eval o2).run P w'=.ok (.defer d0) w':=by
    unfold execOp
    simp only [h2]
    simp [resolve,h2c,h2a,ev3,Deferred.ofValue,hd0]
   have hs1:Sim cx (fun _=>True) ⟨(t3,.clo (.func k) [] [.loc i1 0,.loc i2 0])::σ.tmps,σ.boxes,σ.y⟩ β I' S fn.ntmps a1 w':=by
    rw [← ha1,h1d]
    exact hs.put (dst:=some t3) (v:=.func (.func k) #[] #[v1,v2]) (d:=.clo (.func k) [] [.loc i1 0,.loc i2 0]) (fun t e=>by cases e;exact ht3) fun _=>by
     refine .clo _ _ _ _ _ rfl rfl (fun i v d h=>by simp at h) fun i v d hv hd=>?_
     match i with
     | 0=>simp at hv hd;subst hv hd;exact hr1
     | 1=>simp at hv hd;subst hv hd;exact hr2
     | i+2=>simp at hv
   let cx1:Cx:={ cx with G:=fun v d=>(v=v1∧d=.loc i1 0)∨(v=v2∧d=.loc i2 0),lo:=σ.boxes.length,dfr:=fun d=>d=d0 }
   have hcx1:cx1.Ok:=⟨hgl,hcx.fr,hcx.j,fun v d h=>by
    rcases h with ⟨_,rfl⟩ | ⟨_,rfl⟩
    ·exact hb1
    ·exact hb2,fun _ _ h=>(by cases h),fun d e R=>by
    have e:d=d0:=e
    rw [e,hd0];simp⟩
   have hy1:YieldOK P cx1:=fun l x r S w' I' vs' G hj=>by cases hj
   have hfs2:FS cx1 ⟨(t3,.clo (.func k) [] [.loc i1 0,.loc i2 0])::σ.tmps,σ.boxes,σ.y⟩ fn.ntmps { a1 with defers:=d0::a1.defers } w':=by
    have hs2:=hs1.defer hD (d0:=d0) (fun R=>by rw [hd0];simp)
    have hgh:∀ v d,((v=v1∧d=.loc i1 0)∨(v=v2∧d=.loc i2 0))→Rel I' β v d:=fun v d h=>by
     rcases h with ⟨rfl,rfl⟩ | ⟨rfl,rfl⟩
     ·exact hr1
     ·exact hr2
    exact ⟨β,I',S,{ hs2 with tm:=hs2.tm,bx:=hs2.bx,clear:=hs2.clear,gh:=hgh },htot⟩
   refine wpIn_region ?_
   show wpOpsIn Fence.wide 0 P #[o1,o2] _ [0,1] a' w'
   have g0:(#[o1,o2]:Array Oper)[0]?=some o1:=rfl
   have g1:(#[o1,o2]:Array Oper)[1]?=some o2:=rfl
   simp only [wpOpsIn,g0,g1]
   rw [if_pos (by simp [Region.wanted,h1g])]
   refine wp_value (.inl rfl) (by rw [h1];simp) hrun1 ?_
   rw [if_pos (by simp [Region.wanted,h2g])]
   refine ⟨fun f _=>trivial,?_⟩
   rw [show Fence.wide.round=none from rfl,Oper.semAt_none,ha1,hrun2]
   show wpL Fence.wide 0 P (bodyPostM Fence.wide 0 P fn R) ((flat c).drop (np+1)) (({ a1 with defers:=d0::a1.defers }:Act).put o2.dst undef) w'
   rw [h2d]
   refine wpL_mono ?_ _ _ _ (wLR_sound hT hmix (.inl rfl) (n:=0) hcx1 (fun l y S w' hl=>by cases hl) hy1 (Nat.le_refl _) _ _ _ _ (fun x hx=>hbl x (List.mem_of_mem_drop hx)) hpost hfs2)
   intro e a2 w2 hq
   have leave:∀ (u:FrameMode) (σ' σ2:St),u≠.run→FS cx1 σ' fn.ntmps a2 w2→resultD T fn σ2=some d→(∀ β I S a w,Sim cx1.noDfr (fun _=>True) σ' β I S fn.ntmps a w→Rel I β v1 (.loc i1 0)→Rel I β v2 (.loc i2 0)→CallsDIn Fence.wide 0 P k #[v1,v2] u w fun e u' w2=>(∃ v,e=.returned v)∧settle u'=.returning∧Sim cx1.noDfr (fun _=>True) σ2 β I S fn.ntmps a w2) →
       LeavesInM Fence.wide 0 P fn a2.tmps R a2.defers u w2:=by
     rintro u σ' σ2 hu ⟨β',I2,S2,hs2,ht2⟩ hres hc
     have:=leaves_def (fn:=fn) (n:=0) (R:=R) (a:=a2) (σ:=σ') (σ2:=σ2) (β:=β') (I:=I2) (S:=S2) (N:=fn.ntmps) hcx1 (.inl rfl:FW Fence.wide) hu hcat.1 (caps:=#[v1,v2]) (fun d=>by show d=d0↔_;rw [hd0])
      (fun a w hs=>hc β' I2 S2 a w hs (hs.gh v1 _ (.inl ⟨rfl,rfl⟩)) (hs.gh v2 _ (.inr ⟨rfl,rfl⟩)))
      (fun ds w hs=>fin cx1.noDfr rfl rfl rfl hcx1.noDfr (fun _ h=>h) σ2 β' I2 S2 { a2 with defers:=ds } w hres hs) a2.defers w2 hs2
     exact this
   have idle:∀ (σ':St),twoCells σ'.boxes i1 i2→resultD T fn σ'=some d→FS cx1 σ' fn.ntmps a2 w2→LeavesInM Fence.wide 0 P fn a2.tmps R a2.defers .returning w2:=by
    rintro σ' ⟨c1,c2,hc1,hc2⟩ hres hfs'
    refine leave .returning σ' σ' (by simp) hfs' hres fun β I S a w hs r1 r2=>?_
    refine ((hcat.2 cx1.noDfr σ' β I S fn.ntmps a w v1 v2 i1 i2 c1 c2 hcx1.noDfr hs r1 r2 hne hc1 hc2).1).mono ?_
    rintro e u' w' ⟨he,rfl,rfl⟩
    exact ⟨he,rfl,hs⟩
   cases e with
   | normal=>obtain ⟨σ',⟨h3,h4⟩,h5⟩:=hq;exact idle σ' h3 h4 h5
   | ret=>obtain ⟨σ',⟨h3,h4⟩,h5⟩:=hq;exact idle σ' h3 h4 h5
   | exit id=>obtain ⟨σ',h3,h4⟩:=hq;exact h3.elim
   | goto l=>exact hq.elim
   | outgrown=>exact hq.elim
   | panic ch =>
    obtain ⟨σ',v,rfl,⟨⟨c1,c2,hc1,hc2⟩,x,rfl,hres⟩,hfs'⟩:=hq
    refine leave _ σ' _ (by simp) hfs' hres fun β I S a w hs r1 r2=>?_
    exact (hcat.2 cx1.noDfr σ' β I S fn.ntmps a w v1 v2 i1 i2 c1 c2 hcx1.noDfr hs r1 r2 hne hc1 hc2).2 x

end
end Go.V

namespace Go.V
open Go.RowKit

section
variable {P:Program} [Glb]

theorem den_of_Y {f:FuncId} {args:List D} {d':D} {Q:D→List Box→Yst→Prop} (hQ:∀ d bs y,Q d bs y→∀ (I:Imm) (β:BE) (v:Value),Rel I β v d→Rel I nob v d') (h:DenY P f args [] .non Q):Den P f args d':=by
 refine ⟨h.1,fun w I vs hag hgl hrel=>?_⟩
 let cx:Cx:=⟨(·<w.heap.size),fun w'=>Keep (·<w.heap.size) w w',fun y _ _=>y=.non,I,fun _ _=>False,0,nob,fun _=>False⟩
 have hcx:cx.Ok:=⟨hgl,fun w' w'' h1 h2=>h1.trans h2,fun _ _ _ _ h _=>h,fun _ _ h=>h.elim,fun _ _ h=>(by cases h),fun _ h=>h.elim⟩
 have hy:YieldOK P cx:=fun l x r S w' I' vs' G hj=>by cases hj
 have hp:Hp cx [] .non nob I (fun _=>False) w:=by
  refine ⟨{ tm:=fun t d _ hl=>(by cases hl),sz:=rfl,agree:=hag,bx:=?_,apart:=?_,own:=?_,clear:=?_,fr:=Keep.refl _ w,n0:=fun k hk=>hk,I0:=Imm.le_refl _,Iold:=fun _ _ _=>rfl,j:=rfl,sb:=fun _ h=>h.elim,sI:=?_,gh:=fun _ _ h=>h.elim,le0:=BE.le_refl _,nd:=.nil,pres:=fun _ h=>h.elim,dn:=fun _ h=>h.elim,marks:=fun d hd=>(by cases hd) },fun i hi=>absurd hi (by simp)⟩
  ·intro i b h;cases h
  ·intro i j b c R h;cases h
  ·intro i b R h;cases h
  ·intro i b R box h;cases h
  ·intro B off v hv hB
   exact (hB (cell_lt (hag B off v hv))).elim
 refine (h.2 cx w nob I _ vs hcx hy (Nat.le_refl _) hp hrel).mono ?_
 rintro e w' ⟨v,d,bs',y',β',I',S',rfl,hq,⟨hs,htot⟩,hv⟩
 exact ⟨v,I',rfl,hs.fr,⟨hs.I0,fun B off hB=>hs.Iold B off hB⟩,hs.agree,hQ d bs' y' hq I' β' v hv⟩

theorem DenY.cut {f:FuncId} {args:List D} {bs:List Box} {y:Yst} {Q Q':D→List Box→Yst→Prop} (h:DenY P f args bs y Q)
    (hQ:∀ d bs' y',Q d bs' y'→okAt bs.length d=true∧okBoxes bs.length (bs'.take bs.length)=true∧Q' d (bs'.take bs.length) y'):DenY P f args bs y Q':=by
  refine ⟨h.1,fun cx w β I S vs hcx hy hlo hH hrel=>(h.2 cx w β I S vs hcx hy hlo hH hrel).mono ?_⟩
  rintro e w' ⟨v,d,bs',y',β',I',S',rfl,hq,⟨hs,htot⟩,hv⟩
  obtain ⟨h1,h2,h3⟩:=hQ d bs' y' hq
  refine ⟨v,d,bs'.take bs.length,y',cutB bs.length β',I',S',rfl,h3,⟨hs.cut hcx hlo (fun t d _ hl=>(by cases hl)) h2,fun i hi=>?_⟩,hv.lowB bs.length h1⟩
  rw [List.length_take] at hi
  unfold cutB
  rw [if_pos (by omega)]
  exact htot i (by omega)

omit [Glb] in
theorem okB_cons {nb:Nat} {fz:Bool} {cs:List D} {r:List Box} (h:okAll nb cs=true) (hr:okBoxes nb r=true):okBoxes nb (.flat fz cs::r)=true:=by
 show (match okAll nb cs with | true=>okBoxes nb r | false=>false)=true
 rw [h,hr]

end
end Go.V

namespace Go.V
open Go.RowKit

def WkA (x y:D):Prop:=∀ (I:Imm) (β:BE) (v:Value),Rel I β v x→Rel I β v y
def WkL (r s:List D):Prop:=r.length=s.length∧∀ (i:Nat) (d e:D),r[i]?=some d→s[i]?=some e→WkA d e

theorem WkA.refl (x:D):WkA x x:=fun _ _ _ h=>h
theorem WkA.of [Glb] {x y:D} (h:Wk x y):WkA x y:=fun _ _ _ hr=>h.rel hr
theorem WkL.nil:WkL [] []:=⟨rfl,fun i d e h=>by simp at h⟩
theorem WkL.cons {d e:D} {r s:List D} (h:WkA d e) (hs:WkL r s):WkL (d::r) (e::s):=by
 refine ⟨by simp [hs.1],fun i a b ha hb=>?_⟩
 cases i with
 | zero=>simp at ha hb;subst ha hb;exact h
 | succ i=>exact hs.2 i a b (by simpa using ha) (by simpa using hb)
theorem WkL.relL {r s:List D} (h:WkL r s) {I:Imm} {β:BE} {vs:List Value} (hr:RelL I β vs r):RelL I β vs s:=by
 refine ⟨hr.1.trans h.1,fun i v e hv he=>?_⟩
 have hi:i<r.length:=by rw [h.1];exact (List.getElem?_eq_some_iff.1 he).1
 exact h.2 i r[i] e (List.getElem?_eq_getElem hi) he I β v (hr.2 i v r[i] hv (List.getElem?_eq_getElem hi))
theorem WkA.agg {r s:List D} (h:WkL r s):WkA (.agg r) (.agg s):=fun I β v hr=>by
 obtain ⟨cs,rfl,hc⟩:=hr.agg_inv
 have:=h.relL hc.1
 exact .agg cs s this.1 hc.2 this.2

theorem Den.wkargs [Glb] {P:Program} {k:FuncId} {args args':List D} {d:D} (h:Den P k args' d) (hw:WkL args args'):Den P k args d :=
 ⟨h.1,fun w I vs ha hg hr=>h.2 w I vs ha hg (hw.relL hr)⟩

end Go.V
