/- One operation, and a list of them in the order of the text; What an operation comes to is fixed by its operands and by the boxes, frozen or not; An append to nothing makes new memory: it may stand in a region whose order is open; A region whose order of evaluation is open; A region whose order of evaluation is open, run in whatever order; A region, in the order of the text or in whatever order. No condition. -/
import Derived.Carry
import Derived.Laws.RangeString
import Derived.Test.YtfdflbdnjimfaaaPackUE
import Derived.Test.YtfdflbdnjimfaaaPackUF

namespace Go.V
open Go.RowKit

def FS (cx:Cx) (σ:St) (N:Nat) (a:Act) (w:World):Prop :=
 ∃ β I S,Sim cx (fun _=>True) σ β I S N a w∧∀ i,i<σ.boxes.length→(β i).isSome=true

theorem FW.round {F:Fence} (h:FW F) {n:Nat} {P:Program} {l:Nat} {f:FuncId} {tmps:Array Value} {assign body:Code} {w:World} {R:Ending→World→Prop} (hr:RoundIn Fence.wide 0 P l f tmps assign body w R) :
    RoundIn F n P l f tmps assign body w R:=by
  rcases h with rfl | ⟨l,rfl⟩
  ·exact ⟨trivial,fun c cs _=>hr.2 c cs (room_wide _)⟩
  ·exact ⟨trivial,fun c cs _=>hr.2 c cs (room_wide _)⟩

section
variable {P:Program} [Glb] {sh:Kinds} {ish:Nat→Bool} {T:Nat→Option TI} {cx:Cx} {σ:St} {β:BE} {I:Imm} {S:Nat→Prop} {N:Nat} {a:Act} {w:World}

omit [Glb] in
theorem Sim.last {V:Nat→Prop} (h:Sim cx V σ β I S N a w):∀ i,(β i).isSome=true→i<σ.boxes.length:=fun i hi=>by
 obtain ⟨b,hb⟩:=Option.isSome_iff_exists.1 hi
 obtain ⟨box,h1,_⟩:=h.bx i b hb
 exact (List.getElem?_eq_some_iff.1 h1).1

omit [Glb] in
theorem Sim.fresh {V:Nat→Prop} (h:Sim cx V σ β I S N a w):β σ.boxes.length=none:=by
 cases hb:β σ.boxes.length with
 | none=>rfl
 | some b=>exact absurd (h.last _ (by simp [hb])) (Nat.lt_irrefl _)

omit [Glb] in
theorem Sim.round {V:Nat→Prop} {y':Yst} {S':Nat→Prop} {w':World} {G:Nat→Prop} (h:Sim cx V σ β I S N a w) (hG:∀ B,G B→(∃ es c,w.heap[B]?=some (.map es c))∧(∀ i b,β i=some b→b.R≠some B)∧(¬ cx.old B→∀ off,I B off=none)∧¬ cx.old B)
    (hj:cx.J y' S' w') (k:Keep (fun k=>k<w.heap.size∧¬ S k∧¬ G k) w w')
    (hS:∀ B,S' B→S B∨w.heap.size≤B∨G B) (hS':∀ B,S' B→B<w'.heap.size) (hI0:Agree cx.I0 w') (hfr:cx.Fr w'):Sim cx V ⟨σ.tmps,σ.boxes,y'⟩ β I S' N a w':=by
  have hne:∀ {B:Nat},B<w.heap.size→¬ S B→¬ G B→¬ S' B:=fun hB hn hg hs=>(hS _ hs).elim hn fun h=>h.elim (fun h=>by omega) hg
  have hbk:∀ {i b R},β i=some b→b.R=some R→R<w.heap.size∧¬ S R∧¬ G R:=fun {i b R} hb hR=>by
   obtain ⟨box,_,h2⟩:=h.bx i b hb
   obtain ⟨_,_,hh⟩:=h2.lt hR
   exact ⟨heap_lt hh,(h.own i b R hb hR).2,fun hg=>(hG R hg).2.1 i b hb hR⟩
  refine { h with tm:=h.tm,agree:=?_,bx:=?_,own:=?_,clear:=h.clear,fr:=hfr,n0:=fun B hB=>Nat.lt_of_lt_of_le (h.n0 B hB) k.size,j:=hj,sb:=hS',sI:=?_,marks:=?_ }
  ·intro B off v hv
   by_cases hB:cx.old B
   ·rw [h.Iold B off hB] at hv
    exact hI0 B off v hv
   ·have h1:=h.agree B off v hv
    rw [k.cell ⟨cell_lt h1,h.sI B off v hv hB,fun hg=>by rw [(hG B hg).2.2.1 hB off] at hv;cases hv⟩]
    exact h1
  ·intro i b hb
   obtain ⟨box,h1,h2⟩:=h.bx i b hb
   refine ⟨box,h1,h2.mono I.le_refl (BE.le_refl β) fun R hR=>?_⟩
   rcases hR with hR | hR
   ·exact k.block R (hbk hb hR)
   ·cases box with
    | miter =>
     obtain ⟨bm,hbm,hRm⟩:=hR
     exact k.block R (hbk hbm hRm)
    | _=>exact hR.elim
  ·intro i b R hb hR
   obtain ⟨h1,h2,h3⟩:=hbk hb hR
   exact ⟨(h.own i b R hb hR).1,hne h1 h2 h3⟩
  ·intro B off v hv hB
   exact hne (cell_lt (h.agree B off v hv)) (h.sI B off v hv hB) fun hg=>by rw [(hG B hg).2.2.1 hB off] at hv;cases hv
  ·intro d hd hD
   obtain ⟨R,h1,h2,h3,h4⟩:=h.marks d hd hD
   have h5:¬ G R:=fun hg=>by
    obtain ⟨⟨es,c,h6⟩,_⟩:=hG R hg
    rw [h2] at h6;cases h6
   exact ⟨R,h1,(k.block R ⟨heap_lt h2,h4,h5⟩).trans h2,h3,hne (heap_lt h2) h4 h5⟩

omit [Glb] in
theorem Sim.plus {V:Nat→Prop} (hs:Sim cx V σ β I S N a w) {L:List Nat} (hL:∀ (i:Nat) (box:Box),i∈L→σ.boxes[i]?=some box→box.fz=true):Sim cx V σ β (plusB L β w I) S N a w:=by
 have hle:=plusB_le hs.agree L β
 have hcase:∀ (B off:Nat),(∃ i b,i∈L∧β i=some b∧b.R=some B)∨plusB L β w I B off=I B off:=fun B off=>by
  unfold plusB
  split
  ·rename_i h;exact .inl h
  ·exact .inr rfl
 refine { hs with tm:=?_,agree:=plusB_agree hs.agree L β,bx:=?_,clear:=?_,I0:=Imm.le_trans hs.I0 hle,Iold:=?_,sI:=?_,gh:=fun v d hg=>(hs.gh v d hg).mono hle (BE.le_refl β),j:=hs.j,marks:=hs.marks,pres:=hs.pres,dn:=hs.dn,nd:=hs.nd }
 ·intro t d hV hl
  obtain ⟨v,hv,hr⟩:=hs.tm t d hV hl
  exact ⟨v,hv,hr.mono hle (BE.le_refl β)⟩
 ·intro i b hb
  obtain ⟨box,h1,h2⟩:=hs.bx i b hb
  exact ⟨box,h1,h2.mono hle (BE.le_refl β) fun _ _=>rfl⟩
 ·intro i b R box hb hR hbox hfz off
  rcases hcase R off with ⟨j,c,hj,hc,hcR⟩ | h
  ·obtain rfl:=hs.apart i j b c R hb hc hR hcR
   rw [hL i box hj hbox] at hfz;cases hfz
  ·rw [h];exact hs.clear i b R box hb hR hbox hfz off
 ·intro B off hB
  rcases hcase B off with ⟨j,c,hj,hc,hcR⟩ | h
  ·exact absurd hB (hs.own j c B hc hcR).1
  ·rw [h];exact hs.Iold B off hB
 ·intro B off v hv hB
  rcases hcase B off with ⟨j,c,hj,hc,hcR⟩ | h
  ·exact (hs.own j c B hc hcR).2
  ·rw [h] at hv;exact hs.sI B off v hv hB

omit [Glb] in
theorem FS.put {cx:Cx} {σ:St} {N:Nat} {a:Act} {w:World} {β:BE} {I:Imm} {S:Nat→Prop} (h:Sim cx (fun _=>True) σ β I S N a w) (ht:∀ i,i<σ.boxes.length→(β i).isSome=true) {dst:Option Nat} {v:Value} {d:D}
    (hd:∀ t,dst=some t→t<N) (hr:Rel I β v d):FS cx (σ.put dst d) N (a.put dst v) w :=
  ⟨β,I,S,h.put hd fun _=>hr,by cases dst <;> exact ht⟩

theorem op_plain (hT:TOK P T) {F:Fence} (hF:FW F) (hcx:cx.Ok) (hy:YieldOK P cx) (hs:FS cx σ N a w) {n:Nat} {o:Oper} (hdst:∀ t,o.dst=some t→t<N) {k:Eff→Prop} (hk:opE T (CD P sh) σ o k) (hlo:∀ b y nb,k (.gave b y nb)→cx.lo≤nb)
    {next:Act→World→Prop} {Q:Exit→Act→World→Prop} (hnext:∀ e a' w',k e→FS cx (effSt σ o.dst e) N a' w'→next a' w'):o.wpIn F n P a w next Q:=by
  obtain ⟨β,I,S,hs,htot⟩:=hs
  by_cases hyl:∃ c f l,o.op=.call c∧c.callee=.value f∧σ.ev f=some (.yld l)
  ·obtain ⟨c,f,l,ho,hc,hf⟩:=hyl
   simp only [opE,ho,hc,hf] at hk
   cases ha:σ.evL c.args.toList with
   | none=>rw [ha] at hk;exact hk.elim
   | some as =>
    rw [ha] at hk
    simp only at hk
    cases hyy:σ.y with
    | rem l' xs =>
     rw [hyy] at hk
     cases xs with
     | nil=>exact hk.elim
     | cons x r =>
      have hfv:=(hs.ev (x:=f) (fun t e=>trivial) hf).yld_inv
      have h3:=hs.evL (fun x t hx e=>trivial) ha
      have hI0:Agree cx.I0 w:=fun B off v hv=>hs.agree B off v (hs.I0 B off v hv)
      have hj:=hs.j
      rw [hyy] at hj
      have hrun:∀ {fn tmps assign body},(Instr.yield l (c.args.toList.map a.eval).toArray).run P w=.ok (.round l fn tmps assign body) w→(execOp a.eval o).run P w=.ok (.round l fn tmps assign body) w:=fun {fn tmps assign body} hyr=>by
       unfold execOp
       simp only [ho,resolve,hc,hfv,Deferred.ofValue,Sem.run_bind,Sem.run_pure,Result.andThen_ok,invoke]
       have e:(#[]:Array Value)++c.args.map a.eval=(c.args.toList.map a.eval).toArray:=by apply Array.toList_inj.1;simp
       rw [e]
       exact hyr
      simp only at hk
      split at hk
      ·rename_i i
       split at hk
       ·rename_i ks us hbox
        obtain ⟨rfl,rfl,hk⟩:=hk
        obtain ⟨hcond,hk1,hk2⟩:=iff'_true hk
        have hcond:plainAll ks=true∧plainAll us=true∧okBoxes i (σ.boxes.take i)=true:=by
         split at hcond
         ·exact ⟨by assumption,by assumption,hcond⟩
         ·cases hcond
        obtain ⟨hpk,hpu,hok⟩:=hcond
        obtain ⟨av,hav,hrv⟩:=h3.one_inv
        have hmv:∃ b R,av=.map (some R)∧β i=some b∧b.R=some R:=by
         cases hrv with
         | mloc _ b R h1 _ h2=>exact ⟨b,R,rfl,h1,h2⟩
        obtain ⟨b,R,rfl,hbi,hR⟩:=hmv
        obtain ⟨box',hbx',hbr⟩:=hs.bx i b hbi
        rw [hbox] at hbx';cases hbx'
        obtain ⟨_,R',es,clock,hR',hh,hclk,hm⟩:=hbr
        rw [hR] at hR';cases hR'
        obtain ⟨hno,hnS⟩:=hs.own i b R hbi hR
        have hnI:∀ off,I R off=none:=hs.clear i b R _ hbi hR hbox rfl
        have hlo':cx.lo≤i:=hlo _ _ _ hk1
        have hcut:=hs.cut hcx hlo' (tm:=lowT i σ.tmps) (fun t d _ hl=>by
         rcases lowT_look hl with ⟨h1,h2⟩ | ⟨rfl,e,h1⟩
         ·obtain ⟨v,hv,hr⟩:=hs.tm t d trivial h1
          exact ⟨v,hv,hr.lowB i h2⟩
         ·obtain ⟨v,hv,hr⟩:=hs.tm t e trivial h1
          exact ⟨v,hv,.und v⟩) hok
        obtain ⟨fn,tmps,assign,body,hyr,hround⟩:=hy l _ r S w _ _ _ hj hs.fr hI0 hs.n0 hs.sb hs.agree (.give R es clock ks us hh hclk hm hpk hpu hno hnS fun off=>by
         cases hv:cx.I0 R off with
         | none=>rfl
         | some v=>have:=hs.I0 R off v hv;rw [hnI off] at this;cases this)
        rw [← hav] at hyr
        refine ⟨fun f _=>hF.fn f,?_⟩
        rw [Oper.semAt_eq _ _ _ (by rw [ho];simp),hrun hyr]
        refine ⟨fun hh=>absurd hh (by rw [hF.depth];simp),(hF.round hround).mono ?_⟩
        rintro e w' ⟨b',S',rfl,hj',hkeep,hS,hS',hI0',hfr'⟩
        have hcutβ:∀ {j c},cutB i β j=some c→j<i∧β j=some c:=fun {j c} hj=>by
         unfold cutB at hj
         by_cases h:j<i
         ·rw [if_pos h] at hj;exact ⟨h,hj⟩
         ·rw [if_neg h] at hj;cases hj
        have hsim:=hcut.round (fun B hB=>by
         subst hB
         refine ⟨⟨es,clock,hh⟩,fun j c hj hcR=>?_,fun _=>hnI,hno⟩
         obtain ⟨h1,h2⟩:=hcutβ hj
         have:=hs.apart j i c b _ h2 hbi hcR hR
         omega) hj' hkeep hS hS' hI0' hfr'
        have htot2:∀ j,j<(σ.boxes.take i).length→(cutB i β j).isSome=true:=fun j hj=>by
         rw [List.length_take] at hj
         unfold cutB
         rw [if_pos (by omega)]
         exact htot j (by omega)
        cases b' with
        | true=>exact hnext (.gave true (.rem l r) i) _ _ hk1 (FS.put hsim htot2 hdst .tt)
        | false=>exact hnext (.gave false .stopped i) _ _ hk2 (FS.put hsim htot2 hdst .ff)
       ·exact hk.elim
      ·obtain ⟨rfl,⟨rs,hrs,rfl⟩,hk1,hk2⟩:=hk
       have hrel:=reifyL_sound hs.agree hs.bx h3 hrs
       have hagI:=plusB_agree hs.agree (as.flatMap (touch σ.boxes fuel)) β
       obtain ⟨fn,tmps,assign,body,hyr,hround⟩:=hy l rs r S w _ _ _ hj hs.fr hI0 hs.n0 hs.sb hagI (.plain _ _ hrel)
       refine ⟨fun f _=>hF.fn f,?_⟩
       rw [Oper.semAt_eq _ _ _ (by rw [ho];simp),hrun hyr]
       refine ⟨fun hh=>absurd hh (by rw [hF.depth];simp),(hF.round hround).mono ?_⟩
       rintro e w' ⟨b,S',rfl,hj',hkeep,hS,hS',hI0',hfr'⟩
       have hsim:=hs.round (fun B hB=>hB.elim) hj' hkeep hS hS' hI0' hfr'
       cases b with
       | true=>exact hnext (.yielded true (.rem l r)) _ _ hk1 (FS.put hsim htot hdst .tt)
       | false=>exact hnext (.yielded false .stopped) _ _ hk2 (FS.put hsim htot hdst .ff)
    | _=>rw [hyy] at hk;exact hk.elim
  · have mw:∀ (k':Eff→Prop),(∀ e,k' e→k e)→opE T (CD P sh) σ o k'→(mild o=true∨(∃ x,o.op=.assign x)∨∃ op t x y ls,o.op=.binOp op t x y ls)→((∀ d bs y,¬ k' (.resS d bs y))∨∀ c f fk fs cs,o.op=.call c→c.callee=.value f→σ.ev f=some (.clo (.func fk) fs cs)→sh.sh fk=false∨sh.nw fk=true)→o.wpIn F n P a w next Q:=by
      intro k' hkk hk' hm hsr
      refine mild_wp hT hF hcx hs (fun t _=>trivial) hm hk' (.inr fun c f l h1 h2 h3=>hyl ⟨c,f,l,h1,h2,h3⟩) hsr ?_ ?_ ?_ ?_
      ·intro d v hk hr
       exact hnext (.val d) _ _ (hkk _ hk) (FS.put hs htot hdst hr)
      ·intro b mk v w' bi hk hRw hkeep hbr _ hrel
       obtain ⟨hsim,hle⟩:=hs.new hcx hkeep (bs:=σ.boxes++[b]) (n:=σ.boxes.length) (b:=b) (bi:=bi) hs.fresh (by simp) (fun i hi=>List.getElem?_append_left (hs.last i hi))
        hRw hbr
       refine hnext (.new b mk) _ _ (hkk _ hk) (FS.put (σ:=⟨σ.tmps,σ.boxes++[b],σ.y⟩) hsim ?_ hdst (hrel _ _ (by simp)))
       intro i hi
       by_cases hl:i=σ.boxes.length
       ·simp [hl]
       ·simp only [hl,if_false];exact htot i (by simp at hi;omega)
      ·intro b mk L v w' bi hk hRw hkeep hbr _ hrel
       have hfzS:Sim cx (fun _=>True) ⟨σ.tmps,freezeIn σ.boxes 0 L,σ.y⟩ β I S N a w:=by
        refine hs.freeze (fun i box hb=>?_) (freezeIn_len _ _ _)
        rw [freezeIn_get _ _ _ _ _ hb]
        split
        ·exact .inr rfl
        ·exact .inl rfl
       have hfzP:Sim cx (fun _=>True) ⟨σ.tmps,freezeIn σ.boxes 0 L,σ.y⟩ β (plusB L β w I) S N a w:=by
        refine hfzS.plus (L:=L) fun i box hi hb=>?_
        have hb:(freezeIn σ.boxes 0 L)[i]?=some box:=hb
        have hil:i<σ.boxes.length:=by
         have:=(List.getElem?_eq_some_iff.1 hb).1
         rwa [freezeIn_len] at this
        rw [freezeIn_get _ _ _ _ _ (List.getElem?_eq_getElem hil)] at hb
        have:L.contains (0+i)=true:=by rw [Nat.zero_add];simpa using hi
        rw [this] at hb
        cases hb
        exact Box.freeze_fz _
       obtain ⟨hsim,hle⟩:=hfzP.new hcx hkeep (bs:=freezeIn σ.boxes 0 L++[b]) (n:=σ.boxes.length) (b:=b) (bi:=bi) hs.fresh (by rw [← freezeIn_len σ.boxes 0 L];simp) (fun i hi=>List.getElem?_append_left (by rw [freezeIn_len];exact hs.last i hi))
        hRw hbr
       refine hnext (.newF b mk L) _ _ (hkk _ hk) (FS.put (σ:=⟨σ.tmps,freezeIn σ.boxes 0 L++[b],σ.y⟩) hsim ?_ hdst (hrel _ _ (by simp)))
       intro i hi
       by_cases hl:i=σ.boxes.length
       ·simp [hl]
       ·simp only [hl,if_false];exact htot i (by have hi:i<(freezeIn σ.boxes 0 L++[b]).length:=hi;rw [List.length_append,freezeIn_len] at hi;simp at hi;omega)
      ·intro d as v w' I' hk hkeep hg hag hr
       have hfz:Sim cx (fun _=>True) ⟨σ.tmps,boxesAfter σ.boxes d as,σ.y⟩ β I S N a w:=by
        refine hs.freeze (fun i box hb=>?_) ?_
        ·unfold boxesAfter
         split
         ·exact .inl hb
         ·rw [freezeIn_get _ _ _ _ _ hb]
          split
          ·exact .inr rfl
          ·exact .inl rfl
        ·unfold boxesAfter
         split
         ·rfl
         ·exact freezeIn_len _ _ _
       obtain ⟨I'',hsim,hrel,_⟩:=hfz.res hcx hkeep hg hag hr (by
        by_cases hp:plain d=true
        ·exact .inl hp
        ·refine .inr fun i box hi hb=>?_
         have hb:(boxesAfter σ.boxes d as)[i]?=some box:=hb
         unfold boxesAfter at hb
         split at hb
         ·rename_i hp';exact absurd hp' hp
         · have hil:i<σ.boxes.length:=by
             have:=(List.getElem?_eq_some_iff.1 hb).1
             rwa [freezeIn_len] at this
           rw [freezeIn_get _ _ _ _ _ (List.getElem?_eq_getElem hil)] at hb
           have:(as.flatMap (touch σ.boxes fuel)).contains (0+i)=true:=by
            rw [Nat.zero_add];simpa using hi
           rw [this] at hb
           cases hb
           exact Box.freeze_fz _)
       refine hnext (.res d as) _ _ (hkk _ hk) (FS.put (σ:=⟨σ.tmps,boxesAfter σ.boxes d as,σ.y⟩) hsim ?_ hdst hrel)
       intro i hi
       refine htot i ?_
       have hi:i<(boxesAfter σ.boxes d as).length:=hi
       unfold boxesAfter at hi
       split at hi
       ·exact hi
       ·rwa [freezeIn_len] at hi
    by_cases hsh:∃ c f fk fs cs,o.op=.call c∧c.callee=.value f∧σ.ev f=some (.clo (.func fk) fs cs)∧sh.sh fk=true∧sh.nw fk=false
    ·obtain ⟨c,f,fk,fs,cs,ho,hc,hf,hshk,hnwk⟩:=hsh
     simp only [opE,ho,hc,hf] at hk
     cases ha:σ.evL c.args.toList with
     | none=>rw [ha] at hk;exact hk.elim
     | some as =>
      rw [ha] at hk
      simp only [hshk,hnwk] at hk
      rcases hk with ⟨rs,hrs,d,hden,hk⟩ | ⟨sel,args',bs0,Q',hsel,hfz,hargs,hbs,hden,_,hall⟩
      ·refine mw (fun e=>k e∧∀ d bs y,e≠.resS d bs y) (fun _ h=>h.1) ?_ (.inl (by simp [mild,ho,hc])) (.inl fun d bs y h=>h.2 d bs y rfl)
       simp only [opE,ho,hc,hf,ha,hnwk,hshk]
       exact .inl ⟨rs,hrs,d,hden,hk,fun _ _ _ e=>by cases e⟩
      obtain ⟨vs,us,hv,h1,h2⟩:=(hs.ev (x:=f) (fun t e=>trivial) hf).clo_inv
      have h3:=hs.evL (fun x t hx e=>trivial) ha
      have hrl:=h1.append (h3.append h2)
      rw [← hargs] at hrl
      have hcall:=share_call hcx hy hs htot hsel hrl hbs hfz hden
      have hrun:=run_callValue (P:=P) (w:=w) ho hc hv hden.1
      have earr:(vs++c.args.map a.eval)++us=(vs.toList++(c.args.toList.map a.eval++us.toList)).toArray:=by
       apply Array.toList_inj.1;simp
      rw [earr] at hrun
      refine wp_enter hF (by rw [ho];simp) hrun (R:=fun v w'=>∃ d bs' y',Q' d bs' y'∧∃ β' I' S',Sim cx (fun _=>True) ⟨σ.tmps,putSel σ.boxes sel (bs'.map (Box.ren (selF sel σ.boxes.length))),y'⟩ β' I' S' N a w' ∧
       (∀ i,i<(putSel σ.boxes sel (bs'.map (Box.ren (selF sel σ.boxes.length)))).length→(β' i).isSome=true)∧Rel I' β' v (ren (selF sel σ.boxes.length) d)) (hcall.mono ?_) ?_
      ·rintro e w' ⟨v,d,bs',y',rfl,hq,h⟩
       exact ⟨v,rfl,d,bs',y',hq,h⟩
      ·rintro v w' ⟨d,bs',y',hq,β',I',S',hsim,htot',hr⟩
       obtain ⟨X,rfl,hkk⟩:=hall d bs' y' hq
       exact hnext (.resS _ _ _) _ _ hkk (FS.put hsim htot' hdst hr)
    by_cases hm:mild o=true∨(∃ x,o.op=.assign x)∨∃ op t x y ls,o.op=.binOp op t x y ls
    · exact mw k (fun _ h=>h) hk hm (.inr fun c f fk fs cs h1 h2 h3=>by
        cases h:sh.sh fk with
        | false=>exact .inl rfl
        | true =>
         cases h':sh.nw fk with
         | true=>exact .inr rfl
         | false=>exact (hsh ⟨c,f,fk,fs,cs,h1,h2,h3,h,h'⟩).elim)
    ·unfold opE at hk
     cases ho:o.op with
     | store t p x =>
      simp only [ho] at hk
      cases ht:T t with
      | none=>rw [ht] at hk;exact hk.elim
      | some ti =>
       cases hp:σ.ev p with
       | none=>rw [ht,hp] at hk;exact hk.elim
       | some pd =>
        cases hx:σ.ev x with
        | none=>rw [ht,hp,hx] at hk;exact hk.elim
        | some xd =>
         rw [ht,hp,hx] at hk
         simp only at hk
         obtain ⟨w',i,b,hrun,hk',hsim⟩:=store_sound hcx hs (hT _ _ ht) (hs.ev (fun t e=>trivial) hp) (hs.ev (fun t e=>trivial) hx) hk
         refine wp_skipped hF (by rw [ho];simp) (w':=w') (by simp [execOp,ho,hrun]) ?_
         exact hnext (.set i b .und) _ _ hk' (FS.put (σ:=⟨σ.tmps,σ.boxes.set i b,σ.y⟩) hsim (fun j hj=>htot j (by simpa using hj)) hdst (.und _))
     | call c =>
      simp only [ho] at hk
      cases hc:c.callee with
      | value f=>exact (hm (.inl (by simp [mild,ho,hc]))).elim
      | builtin b =>
       rw [hc] at hk
       simp only at hk
       cases ha:σ.evL c.args.toList with
       | none=>rw [ha] at hk;exact hk.elim
       | some as =>
        rw [ha] at hk
        have hrl:=hs.evL (fun x t hx e=>trivial) ha
        have hargs:(c.args.map a.eval)=(c.args.toList.map a.eval).toArray:=by apply Array.toList_inj.1;simp
        cases b with
        | append =>
         simp only at hk
         cases as with
         | nil=>exact hk.elim
         | cons s as =>
          cases as with
          | nil=>exact hk.elim
          | cons x as =>
           cases as with
           | cons y as=>exact hk.elim
           | nil =>
            simp only at hk
            unfold typeAt at hk
            cases h0:c.argTypes[0]? with
            | none=>rw [h0] at hk;exact hk.elim
            | some t0 =>
             cases h1:c.argTypes[1]? with
             | none =>
              rw [h0,h1] at hk
              simp only at hk
              cases ht0:T t0 <;> rw [ht0] at hk <;> exact hk.elim
             | some t1 =>
              rw [h0,h1] at hk
              simp only at hk
              cases ht0:T t0 with
              | none=>rw [ht0] at hk;exact hk.elim
              | some ti =>
               cases ht1:T t1 with
               | none=>rw [ht0,ht1] at hk;exact hk.elim
               | some tx =>
                rw [ht0,ht1] at hk
                simp only at hk
                cases hd1:tx.desc with
                | slice e1 =>
                 rw [hd1] at hk
                 simp only at hk
                 cases hd:ti.desc with
                 | slice e =>
                  rw [hd] at hk
                  simp only [sliceTI] at hk
                  cases hte:T e with
                  | none=>rw [hte] at hk;exact hk.elim
                  | some te =>
                   rw [hte] at hk
                   simp only at hk
                   obtain ⟨hpos,hk⟩:=iff'_true hk
                   cases hp1:Nat.blt 0 te.size with
                   | false=>rw [hp1] at hpos;cases hpos
                   | true =>
                    rw [hp1] at hpos
                    obtain ⟨sv,vs',hvs,hsv,hrl'⟩:=hrl.cons_inv
                    obtain ⟨xv,hxs,hxv⟩:=hrl'.one_inv
                    rw [hvs,hxs] at hargs
                    obtain ⟨v,w',eff,hrun,hk',β',hsim,hrel,hyeq,htot'⟩:=append_sound hcx hs (hT _ _ ht0) hd (hT _ _ hte) (hT _ _ ht1) hd1 h0 h1 o.type (Nat.blt_eq ▸ hp1) (Nat.blt_eq ▸ hpos) hsv hxv hs.last hk
                    refine wp_value hF (by rw [ho];simp) (v:=v) (w':=w') ?_ ?_
                    ·simp only [execOp,ho,resolve,hc,Sem.run_bind,Sem.run_pure,Result.andThen_ok,invoke,builtin,hargs]
                     rw [hrun]
                     rfl
                    ·refine hnext eff _ _ hk' ?_
                     have:=FS.put (σ:=⟨σ.tmps,effBoxes σ eff,σ.y⟩) hsim (fun i hi=>htot'.1 i hi (htot i)) hdst hrel
                     unfold effSt
                     rw [hyeq.1,hyeq.2]
                     exact this
                 | _=>rw [hd] at hk;exact hk.elim
                | _=>rw [hd1] at hk;exact hk.elim
        | len | min | max=>exact (hm (.inl (by simp [mild,ho,hc]))).elim
        | _=>exact hk.elim
      | invoke r m=>rw [hc] at hk;exact hk.elim
     | assign x=>exact (hm (.inr (.inl ⟨x,ho⟩))).elim
     | binOp op t x y ls=>exact (hm (.inr (.inr ⟨_,_,_,_,_,ho⟩))).elim
     | makeMap t r =>
      simp only [ho] at hk
      cases ht:T t with
      | none=>rw [ht] at hk;exact hk.elim
      | some ti =>
       rw [ht] at hk
       cases r with
       | some x=>exact hk.elim
       | none =>
        simp only at hk
        cases hd:ti.desc with
        | map kt et =>
         rw [hd] at hk
         simp only at hk
         refine wp_value hF (by rw [ho];simp) (v:=.map (some w.heap.size)) (w':=w.alloc (.map #[] 0)) (by unfold execOp;simp only [ho,Option.map_none,Sem.run_bind];rw [run_makeMap];rfl) ?_
         obtain ⟨hsim,hle⟩:=hs.new hcx (Keep.alloc w _) (bs:=σ.boxes++[.map false [] []]) (n:=σ.boxes.length) (b:=.map false [] []) (bi:=⟨some w.heap.size,true,0,0,0,0⟩) hs.fresh (by simp) (fun i hi=>List.getElem?_append_left (hs.last i hi))
          (fun R' hR'=>by cases hR';exact Nat.le_refl _) ⟨rfl,_,#[],0,rfl,World.alloc_heap_new w _,fun e he=>by simp at he,.nil,rfl,rfl,fun i e d he=>by simp at he,fun i e d he=>by simp at he⟩
         refine hnext (.new (.map false [] []) fun i=>.mloc i) _ _ hk (FS.put (σ:=⟨σ.tmps,σ.boxes++[.map false [] []],σ.y⟩) hsim ?_ hdst (.mloc _ ⟨some w.heap.size,true,0,0,0,0⟩ w.heap.size (by simp) rfl rfl))
         intro i hi
         by_cases hl:i=σ.boxes.length
         ·simp [hl]
         ·simp only [hl,if_false];exact htot i (by simp at hi;omega)
        | _=>rw [hd] at hk;exact hk.elim
     | lookup t x i ok =>
      simp only [ho] at hk
      cases ht:T t with
      | none=>rw [ht] at hk;exact hk.elim
      | some ti =>
       cases hx:σ.ev x with
       | none=>rw [ht,hx] at hk;exact hk.elim
       | some m =>
        cases hi:σ.ev i with
        | none=>rw [ht,hx,hi] at hk;exact hk.elim
        | some key =>
         rw [ht,hx,hi] at hk
         simp only at hk
         cases hd:ti.desc with
         | map kt et =>
          rw [hd] at hk
          simp only at hk
          cases htk:T kt with
          | none=>rw [htk] at hk;exact hk.elim
          | some tk =>
           cases hte:T et with
           | none=>rw [htk,hte] at hk;exact hk.elim
           | some te =>
            rw [htk,hte] at hk
            simp only at hk
            obtain ⟨hint,hk⟩:=iff'_true hk
            have hxr:=hs.ev (x:=x) (fun t e=>trivial) hx
            have hir:=hs.ev (x:=i) (fun t e=>trivial) hi
            have fin:∀ {r:Option Nat} {es:List MapEntry} {ks vs:List D},a.eval x=.map r→(match r with | none=>es=[] | some R=>∃ clock,w.heap[R]?=some (.map es.toArray clock))→es.length=ks.length→es.length=vs.length →
                (∀ (i:Nat) (e:MapEntry) (d:D),es[i]?=some e→ks[i]?=some d→Rel I nob e.key d)→(∀ (i:Nat) (e:MapEntry) (d:D),es[i]?=some e→vs[i]?=some d→Rel I nob e.val d) →
                lookE ks vs key (zeroD te) ok k→o.wpIn F n P a w next Q:=by
              intro r es ks vs hev h1 h2 h3 h4 h5 h6
              obtain ⟨v,d,hrun,hk',hr⟩:=lookE_sound (hT _ _ ht) hd (hT _ _ htk) (hT _ _ hte) hint h1 h2 h3 h4 h5 hir h6
              refine wp_value hF (by rw [ho];simp) (v:=v) (w':=w) (by simp [execOp,ho,hev,hrun]) ?_
              exact hnext (.val d) _ _ hk' (FS.put hs htot hdst hr)
            cases m with
            | nilm =>
             have hev:a.eval x=.map none:=by
              revert hxr
              generalize a.eval x=y
              intro hxr
              cases hxr;rfl
             exact fin (es:=[]) hev rfl rfl rfl (fun i e d he=>by simp at he) (fun i e d he=>by simp at he) hk
            | mro ks vs =>
             have hev:∃ R es,a.eval x=.map (some R)∧I R 0=some (encM (List.toArray es))∧es.length=ks.length∧es.length=vs.length ∧
                 (∀ (i:Nat) (e:MapEntry) (d:D),es[i]?=some e→ks[i]?=some d→Rel I nob e.key d)∧(∀ (i:Nat) (e:MapEntry) (d:D),es[i]?=some e→vs[i]?=some d→Rel I nob e.val d):=by
               revert hxr
               generalize a.eval x=y
               intro hxr
               cases hxr with
               | mro R es _ _ h1 h2 h3 h4 h5 h6=>exact ⟨R,es,rfl,h1,h3,h4,h5,h6⟩
             obtain ⟨R,es,hev,hI,h3,h4,h5,h6⟩:=hev
             exact fin hev (cellM_enc (hs.agree _ _ _ hI)) h3 h4 h5 h6 hk
            | mloc j =>
             simp only at hk
             cases hb:σ.boxes[j]? with
             | none=>rw [hb] at hk;exact hk.elim
             | some box =>
              rw [hb] at hk
              cases box with
              | flat=>exact hk.elim
              | rows=>exact hk.elim
              | siter=>exact hk.elim
              | miter=>exact hk.elim
              | map fz ks vs =>
               have hev:∃ b R,a.eval x=.map (some R)∧β j=some b∧b.R=some R:=by
                revert hxr
                generalize a.eval x=y
                intro hxr
                cases hxr with
                | mloc _ b R h1 _ h2=>exact ⟨b,R,rfl,h1,h2⟩
               obtain ⟨b,R,hev,hbj,hR⟩:=hev
               obtain ⟨box',hbx',hbr⟩:=hs.bx j b hbj
               rw [hb] at hbx';cases hbx'
               obtain ⟨_,R',es,clock,hR',hh,_,hm⟩:=hbr
               rw [hR] at hR';cases hR'
               exact fin (es:=es.toList) hev ⟨clock,by simpa using hh⟩ hm.kl hm.vl hm.k hm.v hk
            | _=>exact hk.elim
         | _=>rw [hd] at hk;exact hk.elim
     | range t x =>
      simp only [ho] at hk
      cases ht:T t with
      | none=>rw [ht] at hk;exact hk.elim
      | some ti =>
       cases hx:σ.ev x with
       | none=>rw [ht,hx] at hk;exact hk.elim
       | some d =>
        rw [ht,hx] at hk
        cases d with
        | str s =>
         simp only at hk
         cases hd:ti.desc with
         | string =>
          rw [hd] at hk
          simp only at hk
          have hev:a.eval x=.string s:=(hs.ev (x:=x) (fun t e=>trivial) hx).str_inv
          have hu:P.underlying t=some .string:=hd ▸ (hT t ti ht).desc
          refine wp_value hF (by rw [ho];simp) (v:=.pointer (some ⟨w.heap.size,0,none⟩)) (w':=w.iter s 0) (by unfold execOp;simp only [ho,hev,Sem.run_bind];rw [run_range_string w t s hu];rfl) ?_
          obtain ⟨hsim,hle⟩:=hs.new hcx (Keep.alloc w _) (bs:=σ.boxes++[.siter false s 0]) (n:=σ.boxes.length) (b:=.siter false s 0) (bi:=⟨some w.heap.size,true,0,0,0,0⟩) hs.fresh (by simp) (fun i hi=>List.getElem?_append_left (hs.last i hi))
           (fun R' hR'=>by cases hR';exact Nat.le_refl _) ⟨rfl,_,rfl,World.alloc_heap_new w _⟩
          refine hnext (.new (.siter false s 0) fun i=>.sit i) _ _ hk (FS.put (σ:=⟨σ.tmps,σ.boxes++[.siter false s 0],σ.y⟩) hsim ?_ hdst (.sit _ ⟨some w.heap.size,true,0,0,0,0⟩ w.heap.size (by simp) rfl rfl))
          intro i hi
          by_cases hl:i=σ.boxes.length
          ·simp [hl]
          ·simp only [hl,if_false];exact htot i (by simp at hi;omega)
         | _=>rw [hd] at hk;exact hk.elim
        | mloc j =>
         simp only at hk
         cases hd:ti.desc with
         | map kt et =>
          cases hbox:σ.boxes[j]? with
          | none=>rw [hd,hbox] at hk;exact hk.elim
          | some box =>
          rw [hd,hbox] at hk
          cases box with
          | map fz ks vs =>
           simp only at hk
           obtain ⟨ob,hrun,hbr⟩:=range_map hs (hd ▸ (hT t ti ht).desc) (hs.ev (x:=x) (fun t e=>trivial) hx) hbox
           refine wp_value hF (by rw [ho];simp) (v:=.pointer (some ⟨w.heap.size,0,none⟩)) (w':=w.alloc ob) (by unfold execOp;simp only [ho,Sem.run_bind];rw [hrun];rfl) ?_
           obtain ⟨hsim,hle⟩:=hs.new hcx (Keep.alloc w ob) (bs:=σ.boxes++[.miter false j ks vs []]) (n:=σ.boxes.length) (b:=.miter false j ks vs []) (bi:=⟨some w.heap.size,true,0,0,0,0⟩) hs.fresh (by simp) (fun i hi=>List.getElem?_append_left (hs.last i hi))
            (fun R' hR'=>by cases hR';exact Nat.le_refl _) (hbr β (BE.le_refl β))
           refine hnext (.new (.miter false j ks vs []) fun i=>.sit i) _ _ hk (FS.put (σ:=⟨σ.tmps,σ.boxes++[.miter false j ks vs []],σ.y⟩) hsim ?_ hdst (.sit _ ⟨some w.heap.size,true,0,0,0,0⟩ w.heap.size (by simp) rfl rfl))
           intro i hi
           by_cases hl:i=σ.boxes.length
           ·simp [hl]
           ·simp only [hl,if_false];exact htot i (by simp at hi;omega)
          | _=>exact hk.elim
         | _=>rw [hd] at hk;exact hk.elim
        | _=>exact hk.elim
     | next x str =>
      simp only [ho] at hk
      cases str with
      | false =>
       cases hx:σ.ev x with
       | none=>rw [hx] at hk;exact hk.elim
       | some d =>
        rw [hx] at hk
        cases d with
        | sit i =>
         simp only at hk
         cases hb:σ.boxes[i]? with
         | none=>rw [hb] at hk;exact hk.elim
         | some box =>
          rw [hb] at hk
          cases box with
          | miter fz j ks vs seen =>
           cases fz with
           | true=>exact hk.elim
           | false =>
           simp only at hk
           obtain ⟨w1,seen',d,e,hrun,hk',hsim,hrel⟩:=next_map hcx hs (hs.ev (x:=x) (fun t e=>trivial) hx) hb hk o.type
           refine wp_value hF (by rw [ho];simp) (v:=e) (w':=w1) (by unfold execOp;simp only [ho,Sem.run_bind];rw [hrun];rfl) ?_
           exact hnext (.set i (.miter false j ks vs seen') d) _ _ hk' (FS.put (σ:=⟨σ.tmps,σ.boxes.set i (.miter false j ks vs seen'),σ.y⟩) hsim (fun j hj=>htot j (by simpa using hj)) hdst hrel)
          | _=>exact hk.elim
        | _=>exact hk.elim
      | true =>
       cases hx:σ.ev x with
       | none=>rw [hx] at hk;exact hk.elim
       | some d =>
        rw [hx] at hk
        cases d with
        | sit i =>
         simp only at hk
         cases hb:σ.boxes[i]? with
         | none=>rw [hb] at hk;exact hk.elim
         | some box =>
          rw [hb] at hk
          cases box with
          | siter fz s pos =>
           cases fz with
           | true=>exact hk.elim
           | false =>
           simp only at hk
           obtain ⟨w1,pos',d,e,hrun,hk',hsim,hrel⟩:=next_sound hcx hs (hs.ev (x:=x) (fun t e=>trivial) hx) hb hk o.type
           refine wp_value hF (by rw [ho];simp) (v:=e) (w':=w1) (by unfold execOp;simp only [ho,Sem.run_bind];rw [hrun];rfl) ?_
           exact hnext (.set i (.siter false s pos') d) _ _ hk' (FS.put (σ:=⟨σ.tmps,σ.boxes.set i (.siter false s pos'),σ.y⟩) hsim (fun j hj=>htot j (by simpa using hj)) hdst hrel)
          | _=>exact hk.elim
        | _=>exact hk.elim
     | entry x =>
      simp only [ho] at hk
      cases hx:σ.ev x with
      | none=>rw [hx] at hk;exact hk.elim
      | some d =>
       rw [hx] at hk
       cases d with
       | sit i =>
        simp only at hk
        cases hb:σ.boxes[i]? with
        | none=>rw [hb] at hk;exact hk.elim
        | some box =>
         rw [hb] at hk
         cases box with
         | miter fz j ks vs seen =>
          cases seen with
          | nil=>exact hk.elim
          | cons q seen =>
           simp only at hk
           obtain ⟨kd,vd,hkd,hvd,hk⟩:=hk
           obtain ⟨e,hrun,hrel⟩:=entry_map (P:=P) hs (hs.ev (x:=x) (fun t e=>trivial) hx) hb hkd hvd
           refine wp_value hF (by rw [ho];simp) (v:=e) (w':=w) (by unfold execOp;simp only [ho,Sem.run_bind];rw [hrun];rfl) ?_
           exact hnext (.val (.tup [kd,vd])) _ _ hk (FS.put hs htot hdst hrel)
         | _=>exact hk.elim
       | _=>exact hk.elim
     | mapUpdate t x i y =>
      simp only [ho] at hk
      cases ht:T t with
      | none=>rw [ht] at hk;exact hk.elim
      | some ti =>
       cases hx:σ.ev x with
       | none=>rw [ht,hx] at hk;exact hk.elim
       | some m =>
        cases hi:σ.ev i with
        | none=>rw [ht,hx,hi] at hk;exact hk.elim
        | some key =>
         cases hy':σ.ev y with
         | none=>rw [ht,hx,hi,hy'] at hk;exact hk.elim
         | some v =>
          rw [ht,hx,hi,hy'] at hk
          simp only at hk
          cases hd:ti.desc with
          | map kt et =>
           rw [hd] at hk
           simp only at hk
           cases htk:T kt with
           | none=>rw [htk] at hk;exact hk.elim
           | some tk =>
            rw [htk] at hk
            obtain ⟨w',i',b,hrun,hk',hsim⟩:=mupdE_sound hcx hs (hT _ _ ht) hd (hT _ _ htk) (hs.ev (fun t e=>trivial) hx) (hs.ev (fun t e=>trivial) hi) (hs.ev (fun t e=>trivial) hy') hk
            refine wp_skipped hF (by rw [ho];simp) (w':=w') (by simp [execOp,ho,hrun]) ?_
            exact hnext (.set i' b .und) _ _ hk' (FS.put (σ:=⟨σ.tmps,σ.boxes.set i' b,σ.y⟩) hsim (fun j hj=>htot j (by simpa using hj)) hdst (.und _))
          | _=>rw [hd] at hk;exact hk.elim
     | insert t x i y =>
      simp only [ho] at hk
      cases ht:T t with
      | none=>rw [ht] at hk;exact hk.elim
      | some ti =>
       cases hx:σ.ev x with
       | none=>rw [ht,hx] at hk;exact hk.elim
       | some m =>
        cases hi:σ.ev i with
        | none=>rw [ht,hx,hi] at hk;exact hk.elim
        | some key =>
         cases hy':σ.ev y with
         | none=>rw [ht,hx,hi,hy'] at hk;exact hk.elim
         | some v =>
          rw [ht,hx,hi,hy'] at hk
          simp only at hk
          cases hd:ti.desc with
          | map kt et =>
           rw [hd] at hk
           simp only at hk
           cases htk:T kt with
           | none=>rw [htk] at hk;exact hk.elim
           | some tk =>
            rw [htk] at hk
            obtain ⟨w',i',b,hrun,hk',hsim⟩:=mupdE_sound hcx hs (hT _ _ ht) hd (hT _ _ htk) (hs.ev (fun t e=>trivial) hx) (hs.ev (fun t e=>trivial) hi) (hs.ev (fun t e=>trivial) hy') hk
            refine wp_skipped hF (by rw [ho];simp) (w':=w') (by simp [execOp,ho,hrun]) ?_
            exact hnext (.set i' b .und) _ _ hk' (FS.put (σ:=⟨σ.tmps,σ.boxes.set i' b,σ.y⟩) hsim (fun j hj=>htot j (by simpa using hj)) hdst (.und _))
          | _=>rw [hd] at hk;exact hk.elim
     | _=>first | (rw [ho] at hk;exact hk.elim) | (refine absurd (Or.inl ?_) hm;simp [mild,ho];done)

omit [Glb] in
theorem FS.to {d d':D} {dst:Option Nat} (h:FS cx (σ.put dst d) N a w) (hr:∀ {I β v},Rel I β v d→Rel I β v d'):FS cx (σ.put dst d') N a w:=by
 cases dst with
 | none=>exact h
 | some t =>
  obtain ⟨β,I,S,hs,ht⟩:=h
  refine ⟨β,I,S,{ hs with tm:=?_,bx:=hs.bx,clear:=hs.clear,j:=hs.j },ht⟩
  intro u e hu he
  simp only [St.put,look] at he
  cases hb:Nat.beq t u with
  | true =>
   rw [hb] at he
   cases he
   obtain ⟨v,hv,hrv⟩:=hs.tm u d trivial (by simp only [St.put,look];rw [hb])
   exact ⟨v,hv,hr hrv⟩
  | false =>
   rw [hb] at he
   exact hs.tm u e trivial (by simp only [St.put,look];rw [hb];exact he)

theorem stepE_sound (hT:TOK P T) {F:Fence} (hF:FW F) (hcx:cx.Ok) (hy:YieldOK P cx) (hs:FS cx σ N a w) {n:Nat} {o:Oper} (hdst:∀ t,o.dst=some t→t<N) {fb:Eff→Bool} {g:Bool} {K:St→Prop} (hlo:∀ b y nb,fb (.gave b y nb)=false→cx.lo≤nb)
    (hk:stepE T (CD P sh) fb g σ o K) {next:Act→World→Prop} {Q:Exit→Act→World→Prop} (hnext:∀ σ' a' w',K σ'→FS cx σ' N a' w'→next a' w'):o.wpIn F n P a w next Q:=by
  rw [stepE_eq] at hk
  unfold stepE0 at hk
  refine op_plain hT hF hcx hy hs hdst hk (fun b y nb hk=>hlo b y nb (by
   unfold stepK at hk
   cases h:fb (.gave b y nb) with
   | true=>rw [h] at hk;exact hk.elim
   | false=>rfl)) fun e a' w' hk hfs=>?_
  unfold stepK at hk
  cases hfb:fb e with
  | true=>rw [hfb] at hk;exact hk.elim
  | false =>
  rw [hfb] at hk
  simp only at hk
  cases e with
  | val d =>
   cases g with
   | false=>exact hnext _ _ _ hk hfs
   | true =>
    cases d with
    | bool b =>
     cases b with
     | true=>exact hnext _ _ _ (hk.1 rfl) (FS.to hfs fun h=>by cases h;exact .tt)
     | false=>exact hnext _ _ _ (hk.2 rfl) (FS.to hfs fun h=>by cases h;exact .ff)
    | _=>exact hnext _ _ _ hk hfs
  | res d as =>
   cases g with
   | false=>exact hnext _ _ _ hk hfs
   | true =>
    cases d with
    | bool b =>
     cases b with
     | true=>exact hnext _ _ _ (hk.1 rfl) (FS.to hfs fun h=>by cases h;exact .tt)
     | false=>exact hnext _ _ _ (hk.2 rfl) (FS.to hfs fun h=>by cases h;exact .ff)
    | _=>exact hnext _ _ _ hk hfs
  | new b mk=>cases g <;> exact hnext _ _ _ hk hfs
  | set i b d=>cases g <;> exact hnext _ _ _ hk hfs
  | yielded b y=>cases g <;> exact hnext _ _ _ hk hfs
  | newF b mk L=>cases g <;> exact hnext _ _ _ hk hfs
  | gave b y nb=>cases g <;> exact hnext _ _ _ hk hfs
  | resS d bs y =>
   cases g with
   | false=>exact hnext _ _ _ hk hfs
   | true =>
    cases d with
    | bool b =>
     cases b with
     | true=>exact hnext _ _ _ (hk.1 rfl) (FS.to hfs fun h=>by cases h;exact .tt)
     | false=>exact hnext _ _ _ (hk.2 rfl) (FS.to hfs fun h=>by cases h;exact .ff)
    | _=>exact hnext _ _ _ hk hfs

omit [Glb] in
theorem FS.guardUnd {ops:Array Oper} {j:Nat} (hs:FS cx σ N a w) (h:guardUnd ops.toList σ j=true):yielded ops a.tmps j=none:=by
 obtain ⟨β,I,S,hs,_⟩:=hs
 unfold V.guardUnd at h
 unfold yielded
 have e:ops[j]?=ops.toList[j]?:=by simp
 rw [e]
 cases ho:ops.toList[j]? with
 | none=>rw [ho] at h;cases h
 | some o =>
  rw [ho] at h
  simp only at h
  cases hd:o.dst with
  | none=>rw [hd] at h;cases h
  | some t =>
   rw [hd] at h
   simp only at h
   cases hl:look σ.tmps t with
   | none=>rw [hl] at h;cases h
   | some d =>
    rw [hl] at h
    obtain ⟨v,hv,hr⟩:=hs.tm t d trivial hl
    cases d <;> first | (cases h;done) | skip
    cases hr
    simp [hd,hv]

omit [Glb] in
theorem FS.guardOf {ops:Array Oper} {j:Nat} {b:Bool} (hs:FS cx σ N a w) (h:guardOf ops.toList σ j=some b):yielded ops a.tmps j=some b:=by
 obtain ⟨β,I,S,hs,_⟩:=hs
 unfold V.guardOf at h
 unfold yielded
 have e:ops[j]?=ops.toList[j]?:=by simp
 rw [e]
 cases ho:ops.toList[j]? with
 | none=>rw [ho] at h;cases h
 | some o =>
  rw [ho] at h
  simp only at h
  cases hd:o.dst with
  | none=>rw [hd] at h;cases h
  | some t =>
   rw [hd] at h
   simp only at h
   cases hl:look σ.tmps t with
   | none=>rw [hl] at h;cases h
   | some d =>
    rw [hl] at h
    obtain ⟨v,hv,hr⟩:=hs.tm t d trivial hl
    cases d <;> first | (cases h;done) | skip
    ·cases h;cases hr;simp [hd,hv]
    ·cases h;cases hr;simp [hd,hv]

omit [Glb] in
theorem FS.skip (hs:FS cx σ N a w) {dst:Option Nat} (hdst:∀ t,dst=some t→t<N):FS cx (σ.put dst .skp) N (a.put dst undef) w:=by
 obtain ⟨β,I,S,hs,ht⟩:=hs
 exact FS.put hs ht hdst .skp

theorem runOps_sound (hT:TOK P T) {F:Fence} (hF:FW F) (hcx:cx.Ok) (hy:YieldOK P cx) {n:Nat} {ops:Array Oper} (hdst:∀ o∈ops.toList,∀ t,o.dst=some t→t<N) {fb:Eff→Bool} {K:St→Prop} (hlo:∀ b y nb,fb (.gave b y nb)=false→cx.lo≤nb)
    {Q:Exit→Act→World→Prop} (hQ:∀ σ' a' w',K σ'→FS cx σ' N a' w'→Q .normal a' w') :
    ∀ (rest:List Oper) (i:Nat) (σ:St) (a:Act) (w:World),ops.toList.drop i=rest→FS cx σ N a w→runOps T (CD P sh) fb ops.toList rest i σ K→wpOpsIn F n P ops Q (List.range' i rest.length) a w:=by
  intro rest
  induction rest with
  | nil=>intro i σ a w _ hs hk;exact hQ σ a w hk hs
  | cons o rest ih =>
   intro i σ a w hdr hs hk
   have hoi:ops[i]?=some o:=by
    have:(ops.toList.drop i)[0]?=some o:=by rw [hdr];rfl
    simpa using this
   have hrest:ops.toList.drop (i+1)=rest:=by
    have:(ops.toList.drop i).drop 1=rest:=by rw [hdr];rfl
    simpa [List.drop_drop,Nat.add_comm] using this
   have hmem:o∈ops.toList:=List.mem_of_getElem? (by simpa using hoi)
   have hd:=hdst o hmem
   have step:∀ g,stepE T (CD P sh) fb g σ o (fun σ'=>runOps T (CD P sh) fb ops.toList rest (i+1) σ' K)→o.wpIn F n P a w (wpOpsIn F n P ops Q (List.range' (i+1) rest.length)) Q :=
    fun g h=>stepE_sound hT hF hcx hy hs hd hlo h fun σ' a' w' hk' hs'=>ih (i+1) σ' a' w' hrest hs' hk'
   have skip:runOps T (CD P sh) fb ops.toList rest (i+1) (σ.put o.dst .skp) K→(∀ f,o.about P w a.eval=some f→F.fn f)∧wpOpsIn F n P ops Q (List.range' (i+1) rest.length) (a.put o.dst undef) w :=
    fun h=>⟨fun f _=>hF.fn f,ih (i+1) _ _ w hrest (hs.skip hd) h⟩
   simp only [List.length_cons,List.range'_succ,wpOpsIn,hoi]
   simp only [runOps] at hk
   cases hg:o.guard with
   | none =>
    rw [hg] at hk
    rw [if_pos (by simp [Region.wanted,hg])]
    exact step _ hk
   | some jw =>
    obtain ⟨j,want⟩:=jw
    rw [hg] at hk
    simp only at hk
    cases hu:V.guardUnd ops.toList σ j with
    | true =>
     rw [hu] at hk
     rw [if_neg (by simp [Region.wanted,hg,hs.guardUnd hu])]
     exact skip hk
    | false =>
     rw [hu] at hk
     simp only at hk
     cases ho:V.guardOf ops.toList σ j with
     | none=>rw [ho] at hk;exact hk.elim
     | some b =>
      rw [ho] at hk
      have hb:=hs.guardOf ho
      cases b <;> cases want <;> simp only at hk
      ·rw [if_pos (by simp [Region.wanted,hg,hb])];exact step _ hk
      ·rw [if_neg (by simp [Region.wanted,hg,hb])];exact skip hk
      ·rw [if_neg (by simp [Region.wanted,hg,hb])];exact skip hk
      ·rw [if_pos (by simp [Region.wanted,hg,hb])];exact step _ hk

theorem runOps_pre (hT:TOK P T) {F:Fence} (hF:FW F) (hcx:cx.Ok) (hy:YieldOK P cx) {n:Nat} {ops:Array Oper} (hdst:∀ o∈ops.toList,∀ t,o.dst=some t→t<N) {fb:Eff→Bool} {K:St→Prop} (hlo:∀ b y nb,fb (.gave b y nb)=false→cx.lo≤nb)
    {Q:Exit→Act→World→Prop} {tl:List Nat} (hQ:∀ σ' a' w',K σ'→FS cx σ' N a' w'→wpOpsIn F n P ops Q tl a' w') :
    ∀ (rest:List Oper) (i:Nat) (σ:St) (a:Act) (w:World),(∀ j o,rest[j]?=some o→ops[i+j]?=some o)→FS cx σ N a w→runOps T (CD P sh) fb ops.toList rest i σ K→wpOpsIn F n P ops Q (List.range' i rest.length++tl) a w:=by
  intro rest
  induction rest with
  | nil=>intro i σ a w _ hs hk;exact hQ σ a w hk hs
  | cons o rest ih =>
   intro i σ a w hdr hs hk
   have hoi:ops[i]?=some o:=hdr 0 o rfl
   have hrest:∀ j o',rest[j]?=some o'→ops[i+1+j]?=some o':=fun j o' h=>by
    have:=hdr (j+1) o' (by simpa using h)
    rw [show i+1+j=i+(j+1) by omega];exact this
   have hmem:o∈ops.toList:=List.mem_of_getElem? (by simpa using hoi)
   have hd:=hdst o hmem
   have step:∀ g,stepE T (CD P sh) fb g σ o (fun σ'=>runOps T (CD P sh) fb ops.toList rest (i+1) σ' K)→o.wpIn F n P a w (wpOpsIn F n P ops Q (List.range' (i+1) rest.length++tl)) Q :=
    fun g h=>stepE_sound hT hF hcx hy hs hd hlo h fun σ' a' w' hk' hs'=>ih (i+1) σ' a' w' hrest hs' hk'
   have skip:runOps T (CD P sh) fb ops.toList rest (i+1) (σ.put o.dst .skp) K→(∀ f,o.about P w a.eval=some f→F.fn f)∧wpOpsIn F n P ops Q (List.range' (i+1) rest.length++tl) (a.put o.dst undef) w :=
    fun h=>⟨fun f _=>hF.fn f,ih (i+1) _ _ w hrest (hs.skip hd) h⟩
   simp only [List.length_cons,List.range'_succ,List.cons_append,wpOpsIn,hoi]
   simp only [runOps] at hk
   cases hg:o.guard with
   | none =>
    rw [hg] at hk
    rw [if_pos (by simp [Region.wanted,hg])]
    exact step _ hk
   | some jw =>
    obtain ⟨j,want⟩:=jw
    rw [hg] at hk
    simp only at hk
    cases hu:V.guardUnd ops.toList σ j with
    | true =>
     rw [hu] at hk
     rw [if_neg (by simp [Region.wanted,hg,hs.guardUnd hu])]
     exact skip hk
    | false =>
     rw [hu] at hk
     simp only at hk
     cases ho:V.guardOf ops.toList σ j with
     | none=>rw [ho] at hk;exact hk.elim
     | some b =>
      rw [ho] at hk
      have hb:=hs.guardOf ho
      cases b <;> cases want <;> simp only at hk
      ·rw [if_pos (by simp [Region.wanted,hg,hb])];exact step _ hk
      ·rw [if_neg (by simp [Region.wanted,hg,hb])];exact skip hk
      ·rw [if_neg (by simp [Region.wanted,hg,hb])];exact skip hk
      ·rw [if_pos (by simp [Region.wanted,hg,hb])];exact step _ hk

end
end Go.V

namespace Go.V
open Go.RowKit

def Bg (bs bs':List Box):Prop:=∀ (i:Nat) (box:Box),bs[i]?=some box→bs'[i]?=some box∨bs'[i]?=some box.freeze

theorem Bg.refl (bs:List Box):Bg bs bs:=fun _ _ h=>.inl h
theorem Box.freeze_freeze (b:Box):b.freeze.freeze=b.freeze:=by cases b <;> rfl
theorem Bg.trans {a b c:List Box} (h:Bg a b) (k:Bg b c):Bg a c:=fun i box hb=>by
 rcases h i box hb with h1 | h1
 ·exact k i _ h1
 ·rcases k i _ h1 with h2 | h2
  ·exact .inr h2
  ·exact .inr (by rw [h2,Box.freeze_freeze])
theorem Bg.flat {bs bs':List Box} (h:Bg bs bs') {i:Nat} {fz:Bool} {cs:List D} (hb:bs[i]?=some (.flat fz cs)):∃ fz',bs'[i]?=some (.flat fz' cs):=by
 rcases h i _ hb with h | h
 ·exact ⟨_,h⟩
 ·exact ⟨_,h⟩
theorem Bg.rows {bs bs':List Box} (h:Bg bs bs') {i:Nat} {fz:Bool} {g sz:Nat} {rs:List (List D)} (hb:bs[i]?=some (.rows fz g sz rs)):∃ fz',bs'[i]?=some (.rows fz' g sz rs):=by
 rcases h i _ hb with h | h
 ·exact ⟨_,h⟩
 ·exact ⟨_,h⟩

theorem Bg.map {bs bs':List Box} (h:Bg bs bs') {i:Nat} {fz:Bool} {ks vs:List D} (hb:bs[i]?=some (.map fz ks vs)):∃ fz',bs'[i]?=some (.map fz' ks vs):=by
 rcases h i _ hb with h | h
 ·exact ⟨_,h⟩
 ·exact ⟨_,h⟩

theorem iff'_mk {b:Bool} {p:Prop} (hb:b=true) (h:p):Iff' b p:=by subst hb;exact h

theorem loadE_wit {ti:TI} {bs:List Box} {p:D} {k:Eff→Prop} (hk:loadE ti bs p k):∃ e,k e∧(∃ d,e=.val d)∧∀ bs',Bg bs bs'→∀ k':Eff→Prop,k' e→loadE ti bs' p k':=by
 unfold loadE at hk
 cases p with
 | loc i off =>
  simp only at hk
  cases hb:bs[i]? with
  | none=>rw [hb] at hk;exact hk.elim
  | some box =>
   rw [hb] at hk
   cases box with
   | rows=>exact hk.elim
   | map=>exact hk.elim
   | siter=>exact hk.elim
   | miter=>exact hk.elim
   | flat fz cells =>
    simp only at hk
    cases ha:ti.agg with
    | true =>
     rw [ha] at hk
     simp only at hk
     cases hr:readAgg cells off ti.size with
     | none=>rw [hr] at hk;exact hk.elim
     | some d =>
      rw [hr] at hk
      simp only [forceA_eq] at hk
      refine ⟨_,hk,⟨_,rfl⟩,fun bs' h k' hk'=>?_⟩
      obtain ⟨fz',h'⟩:=h.flat hb
      simp only [loadE,h',ha,hr,forceA_eq];exact hk'
    | false =>
     rw [ha] at hk
     simp only at hk
     cases hr:cells[off]? with
     | none=>rw [hr] at hk;exact hk.elim
     | some d =>
      rw [hr] at hk
      refine ⟨_,hk,⟨_,rfl⟩,fun bs' h k' hk'=>?_⟩
      obtain ⟨fz',h'⟩:=h.flat hb
      simp only [loadE,h',ha,hr];exact hk'
 | aloc i off =>
  simp only at hk
  cases hb:bs[i]? with
  | none=>rw [hb] at hk;exact hk.elim
  | some box =>
   rw [hb] at hk
   cases box with
   | rows=>exact hk.elim
   | map=>exact hk.elim
   | siter=>exact hk.elim
   | miter=>exact hk.elim
   | flat fz cells =>
    simp only at hk
    cases ha:ti.agg with
    | true =>
     rw [ha] at hk
     obtain ⟨cs,h1,h2,hk⟩:=hk
     refine ⟨_,hk,⟨_,rfl⟩,fun bs' h k' hk'=>?_⟩
     obtain ⟨fz',h'⟩:=h.flat hb
     simp only [loadE,h',ha];exact ⟨cs,h1,h2,hk'⟩
    | false =>
     rw [ha] at hk
     obtain ⟨d,h1,hk⟩:=hk
     refine ⟨_,hk,⟨_,rfl⟩,fun bs' h k' hk'=>?_⟩
     obtain ⟨fz',h'⟩:=h.flat hb
     simp only [loadE,h',ha];exact ⟨d,h1,hk'⟩
 | ro cells =>
  simp only at hk
  cases ha:ti.agg with
  | true =>
   rw [ha] at hk
   simp only at hk
   cases hr:readAgg cells 0 ti.size with
   | none=>rw [hr] at hk;exact hk.elim
   | some d =>
    rw [hr] at hk
    simp only [forceA_eq] at hk
    refine ⟨_,hk,⟨_,rfl⟩,fun bs' h k' hk'=>?_⟩
    simp only [loadE,ha,hr,forceA_eq];exact hk'
  | false =>
   rw [ha] at hk
   cases cells with
   | nil=>exact hk.elim
   | cons d r =>
    refine ⟨_,hk,⟨_,rfl⟩,fun bs' h k' hk'=>?_⟩
    simp only [loadE,ha];exact hk'
 | rloc i g r off =>
  simp only at hk
  cases hb:bs[i]? with
  | none=>rw [hb] at hk;exact hk.elim
  | some box =>
   rw [hb] at hk
   cases box with
   | flat=>exact hk.elim
   | map=>exact hk.elim
   | siter=>exact hk.elim
   | miter=>exact hk.elim
   | rows fz g' sz rs =>
    simp only at hk
    obtain ⟨hg,row,hrow,hk⟩:=iff'_true hk
    cases ha:ti.agg with
    | true =>
     rw [ha] at hk
     simp only at hk
     cases hr:readAgg row off ti.size with
     | none=>rw [hr] at hk;exact hk.elim
     | some d =>
      rw [hr] at hk
      simp only [forceA_eq] at hk
      refine ⟨_,hk,⟨_,rfl⟩,fun bs' h k' hk'=>?_⟩
      obtain ⟨fz',h'⟩:=h.rows hb
      simp only [loadE,h',ha];exact iff'_mk hg ⟨row,hrow,by rw [hr];first | exact hk' | (simp only [forceA_eq];exact hk')⟩
    | false =>
     rw [ha] at hk
     simp only at hk
     cases hr:row[off]? with
     | none=>rw [hr] at hk;exact hk.elim
     | some d =>
      rw [hr] at hk
      refine ⟨_,hk,⟨_,rfl⟩,fun bs' h k' hk'=>?_⟩
      obtain ⟨fz',h'⟩:=h.rows hb
      simp only [loadE,h',ha];exact iff'_mk hg ⟨row,hrow,by rw [hr];first | exact hk' | (simp only [forceA_eq];exact hk')⟩
 | _=>exact hk.elim

theorem fieldAddrE_wit {p:D} {off:Nat} {k:Eff→Prop} (hk:fieldAddrE p off k):∃ e,k e∧(∃ d,e=.val d)∧∀ k':Eff→Prop,k' e→fieldAddrE p off k':=by
 unfold fieldAddrE at hk
 cases p <;> first | exact hk.elim | exact ⟨_,hk,⟨_,rfl⟩,fun k' h=>h⟩ | (simp only [litN_eq] at hk;exact ⟨_,hk,⟨_,rfl⟩,fun k' h=>by simp only [fieldAddrE,litN_eq];exact h⟩)

theorem binE_wit {ti:TI} {op:BinOp} {x y:D} {k:D→Prop} (hk:binE ti op x y k):∃ d,k d∧∀ k':D→Prop,k' d→binE ti op x y k':=by
 unfold binE at hk
 split at hk
 ·cases op
  case shl | shr =>
   obtain ⟨h0,r,hr,hk⟩:=hk
   exact ⟨_,hk,fun k' h=>⟨h0,r,hr,h⟩⟩
  case quo | rem =>
   obtain ⟨hs,hz,r,hr,hk⟩:=iff'_true hk
   exact ⟨_,hk,fun k' h=>iff'_mk hs ⟨hz,r,hr,h⟩⟩
  case add | sub | mul | and | or | xor | andNot =>
   obtain ⟨hs,r,hr,hk⟩:=iff'_true hk
   exact ⟨_,hk,fun k' h=>iff'_mk hs ⟨r,hr,h⟩⟩
  case eql | neq | lss | leq | gtr | geq =>
   obtain ⟨hs,hk⟩:=iff'_true hk
   exact ⟨_,hk,fun k' h=>iff'_mk hs h⟩
 ·cases op <;> first | exact hk.elim | exact ⟨_,hk.2,fun k' h=>⟨hk.1,h⟩⟩ | exact ⟨_,hk,fun k' h=>h⟩
 ·split at hk
  ·rename_i h1 h2
   obtain ⟨hs,hk⟩:=iff'_true hk
   exact ⟨_,hk,fun k' h=>by simp only [binE,h1,h2];exact iff'_mk hs h⟩
  ·rename_i h1 h2
   obtain ⟨hs,hk⟩:=iff'_true hk
   exact ⟨_,hk,fun k' h=>by simp only [binE,h1,h2];exact iff'_mk hs h⟩
  ·exact hk.elim
 ·rename_i g1 g2 g3
  split at hk
  ·rename_i h4 h5 h6
   refine ⟨_,hk,fun k' h=>?_⟩
   unfold binE
   split
   ·exact (g1 _ _ _ _ rfl rfl).elim
   ·exact (g2 _ _ rfl rfl).elim
   ·exact (g3 _ _ rfl rfl).elim
   ·rw [h4,h5,h6];exact h
  ·rename_i h4 h5 h6
   refine ⟨_,hk,fun k' h=>?_⟩
   unfold binE
   split
   ·exact (g1 _ _ _ _ rfl rfl).elim
   ·exact (g2 _ _ rfl rfl).elim
   ·exact (g3 _ _ rfl rfl).elim
   ·rw [h4,h5,h6];exact h
  ·exact hk.elim

theorem minE_wit {l:List D} {k:D→Prop} (hk:minE l k):∃ d,k d∧∀ k':D→Prop,k' d→minE l k':=by
 unfold minE at hk
 split at hk
 ·obtain ⟨hs,hk⟩:=iff'_true hk
  exact ⟨_,hk,fun k' h=>iff'_mk hs h⟩
 ·obtain ⟨hs,hk⟩:=iff'_true hk
  exact ⟨_,hk,fun k' h=>iff'_mk hs h⟩
 ·exact hk.elim

theorem maxE_wit {l:List D} {k:D→Prop} (hk:maxE l k):∃ d,k d∧∀ k':D→Prop,k' d→maxE l k':=by
 unfold maxE at hk
 split at hk
 ·obtain ⟨hs,hk⟩:=iff'_true hk
  exact ⟨_,hk,fun k' h=>iff'_mk hs h⟩
 ·exact hk.elim

theorem lenE_wit {x:D} {k:D→Prop} (hk:lenE x k):∃ d,k d∧∀ k':D→Prop,k' d→lenE x k':=by
 unfold lenE at hk
 cases x <;> first | exact hk.elim | exact ⟨_,hk,fun k' h=>h⟩

theorem indexAddrE_wit {bs:List Box} {desc:TypeDesc} {es:Nat} {lit:Bool} {p i:D} {k:Eff→Prop} (hk:indexAddrE bs desc es lit p i k) :
    ∃ e,k e∧(∃ d,e=.val d)∧∀ bs',Bg bs bs'→∀ k':Eff→Prop,k' e→indexAddrE bs' desc es lit p i k':=by
  unfold indexAddrE at hk
  cases i with
  | int ki n =>
   simp only at hk
   cases desc with
   | array len e =>
    obtain ⟨hn,hk⟩:=hk
    cases p with
    | loc b o =>
     cases lit with
     | true=>simp only [litN_eq] at hk;exact ⟨_,hk,⟨_,rfl⟩,fun bs' _ k' h=>⟨hn,by simp only [litN_eq];exact h⟩⟩
     | false =>
      obtain ⟨m,hm,hk⟩:=hk
      exact ⟨_,hk,⟨_,rfl⟩,fun bs' _ k' h=>⟨hn,m,hm,h⟩⟩
    | aloc b o =>
     obtain ⟨m,hm,hk⟩:=hk
     exact ⟨_,hk,⟨_,rfl⟩,fun bs' _ k' h=>⟨hn,m,hm,h⟩⟩
    | rloc b g r o =>
     cases lit with
     | true=>exact ⟨_,hk,⟨_,rfl⟩,fun bs' _ k' h=>⟨hn,h⟩⟩
     | false=>exact hk.elim
    | ro cs =>
     obtain ⟨m,hm,hk⟩:=hk
     exact ⟨_,hk,⟨_,rfl⟩,fun bs' _ k' h=>⟨hn,m,hm,h⟩⟩
    | gp g o =>
     obtain ⟨m,hm,hk⟩:=hk
     exact ⟨_,hk,⟨_,rfl⟩,fun bs' _ k' h=>⟨hn,m,hm,h⟩⟩
    | _=>exact hk.elim
   | slice e =>
    cases p with
    | list sz rows =>
     obtain ⟨hs,hn,row,hrow,hk⟩:=iff'_true hk
     exact ⟨_,hk,⟨_,rfl⟩,fun bs' _ k' h=>iff'_mk hs ⟨hn,row,hrow,h⟩⟩
    | sl b g off len =>
     simp only at hk
     cases hb:bs[b]? with
     | none=>rw [hb] at hk;exact hk.elim
     | some box =>
      rw [hb] at hk
      cases box with
      | flat=>exact hk.elim
      | map=>exact hk.elim
      | siter=>exact hk.elim
      | miter=>exact hk.elim
      | rows fz g' sz rs =>
       obtain ⟨hs,hn,hn',m,hm,hk⟩:=iff'_true hk
       refine ⟨_,hk,⟨_,rfl⟩,fun bs' h' k' h=>?_⟩
       obtain ⟨fz',h'⟩:=h'.rows hb
       simp only [indexAddrE,h']
       exact iff'_mk hs ⟨hn,hn',m,hm,h⟩
    | asl b len =>
     obtain ⟨hs,hn,hn',m,hm,hk⟩:=iff'_true hk
     exact ⟨_,hk,⟨_,rfl⟩,fun bs' _ k' h=>iff'_mk hs ⟨hn,hn',m,hm,h⟩⟩
    | _=>exact hk.elim
   | _=>exact hk.elim
  | _=>exact hk.elim

theorem sliceE_wit {bs:List Box} {desc:TypeDesc} {es:Nat} {p:D} {lo hi:Option D} {k:Eff→Prop} (hk:sliceE bs desc es p lo hi k) :
    ∃ e,k e∧(∃ d,e=.val d)∧∀ bs',Bg bs bs'→∀ k':Eff→Prop,k' e→sliceE bs' desc es p lo hi k':=by
  unfold sliceE at hk
  cases desc with
  | slice e =>
   simp only at hk
   cases p with
   | list sz rows =>
    obtain ⟨hs,hk⟩:=iff'_true hk
    split at hk
    ·exact ⟨_,hk,⟨_,rfl⟩,fun bs' _ k' h=>iff'_mk hs h⟩
    ·obtain ⟨hn,l,hl,hk⟩:=hk
     exact ⟨_,hk,⟨_,rfl⟩,fun bs' _ k' h=>iff'_mk hs ⟨hn,l,hl,h⟩⟩
    ·obtain ⟨hn,l,hl,hk⟩:=hk
     exact ⟨_,hk,⟨_,rfl⟩,fun bs' _ k' h=>iff'_mk hs ⟨hn,l,hl,h⟩⟩
    ·obtain ⟨hn,l,hl,hk⟩:=hk
     exact ⟨_,hk,⟨_,rfl⟩,fun bs' _ k' h=>iff'_mk hs ⟨hn,l,hl,h⟩⟩
    ·exact hk.elim
   | sl i g off len =>
    simp only at hk
    cases hb:bs[i]? with
    | none=>rw [hb] at hk;exact hk.elim
    | some box =>
     rw [hb] at hk
     cases box with
     | flat=>exact hk.elim
     | map=>exact hk.elim
     | siter=>exact hk.elim
     | miter=>exact hk.elim
     | rows fz g' sz rs =>
      obtain ⟨hs,hk⟩:=iff'_true hk
      split at hk
      ·refine ⟨_,hk,⟨_,rfl⟩,fun bs' h' k' h=>?_⟩
       obtain ⟨fz',h'⟩:=h'.rows hb
       simp only [sliceE,h']
       exact iff'_mk hs h
      ·refine ⟨_,hk.2,⟨_,rfl⟩,fun bs' h' k' h=>?_⟩
       obtain ⟨fz',h'⟩:=h'.rows hb
       simp only [sliceE,h']
       exact iff'_mk hs ⟨hk.1,h⟩
      ·refine ⟨_,hk.2,⟨_,rfl⟩,fun bs' h' k' h=>?_⟩
       obtain ⟨fz',h'⟩:=h'.rows hb
       simp only [sliceE,h']
       exact iff'_mk hs ⟨hk.1,h⟩
      ·refine ⟨_,hk.2,⟨_,rfl⟩,fun bs' h' k' h=>?_⟩
       obtain ⟨fz',h'⟩:=h'.rows hb
       simp only [sliceE,h']
       exact iff'_mk hs ⟨hk.1,h⟩
      ·exact hk.elim
   | _=>exact hk.elim
  | _=>exact hk.elim

theorem mapO_congr {f g:D→Option D}:∀ {ds es:List D},mapO f ds=some es→(∀ d e,d∈ds→f d=some e→g d=some e)→mapO g ds=some es
 | [],es,h,_=>h
 | d::r,es,h,hfg=>by
  simp only [mapO] at h ⊢
  cases h1:f d with
  | none=>rw [h1] at h;cases h
  | some x =>
   rw [h1] at h
   cases h2:mapO f r with
   | none=>rw [h2] at h;cases h
   | some l =>
    rw [h2] at h
    rw [hfg d x (by simp) h1,mapO_congr h2 fun d e hd=>hfg d e (by simp [hd])]
    exact h

theorem mapO_mem {f:D→Option D}:∀ {ds es:List D},mapO f ds=some es→∀ d,d∈ds→∃ e,f d=some e
 | [],_,_,d,hd=>by cases hd
 | d::r,es,h,x,hx=>by
  simp only [mapO] at h
  cases h1:f d with
  | none=>rw [h1] at h;cases h
  | some y =>
   rw [h1] at h
   cases h2:mapO f r with
   | none=>rw [h2] at h;cases h
   | some l =>
    rcases List.mem_cons.1 hx with rfl | hx
    ·exact ⟨y,h1⟩
    ·exact mapO_mem h2 x hx

theorem flatMap_congr {l:List D} {f g:D→List Nat} (h:∀ d,d∈l→f d=g d):l.flatMap f=l.flatMap g:=by
 induction l with
 | nil=>rfl
 | cons d r ih=>simp only [List.flatMap_cons];rw [h d (by simp),ih fun e he=>h e (by simp [he])]

theorem reify_more {bs bs':List Box} (hb:Bg bs bs'):∀ (n:Nat) {d d':D},reify bs n d=some d'→reify bs' n d=some d'∧touch bs' n d=touch bs n d:=by
 intro n
 induction n with
 | zero=>intro d d' h;cases h
 | succ n ih =>
  intro d d' h
  have list:∀ {ds es:List D},mapO (reify bs n) ds=some es→mapO (reify bs' n) ds=some es∧ds.flatMap (touch bs' n)=ds.flatMap (touch bs n):=fun {ds es} hm =>
   ⟨mapO_congr hm fun d e _ he=>(ih he).1,flatMap_congr fun d hd=>let ⟨e,he⟩:=mapO_mem hm d hd;(ih he).2⟩
  cases d with
  | agg cs =>
   simp only [reify] at h
   cases hm:mapO (reify bs n) cs with
   | none=>rw [hm] at h;cases h
   | some l =>
    rw [hm] at h
    simp only [reify,touch]
    rw [(list hm).1,(list hm).2]
    exact ⟨h,rfl⟩
  | tup cs =>
   simp only [reify] at h
   cases hm:mapO (reify bs n) cs with
   | none=>rw [hm] at h;cases h
   | some l =>
    rw [hm] at h
    simp only [reify,touch]
    rw [(list hm).1,(list hm).2]
    exact ⟨h,rfl⟩
  | clo fn fs cs =>
   simp only [reify] at h
   cases hm:mapO (reify bs n) fs with
   | none=>rw [hm] at h;cases h
   | some l =>
    rw [hm] at h
    cases hm':mapO (reify bs n) cs with
    | none=>rw [hm'] at h;cases h
    | some l' =>
     rw [hm'] at h
     simp only [reify,touch]
     rw [(list hm).1,(list hm).2,(list hm').1,(list hm').2]
     exact ⟨h,rfl⟩
  | loc i off | aloc i off =>
   simp only [reify] at h
   cases hbi:bs[i]? with
   | none=>rw [hbi] at h;cases h
   | some box =>
    rw [hbi] at h
    cases box with
    | rows=>cases h
    | map=>cases h
    | siter=>cases h
    | miter=>cases h
    | flat fz cells =>
     simp only at h
     cases hm:mapO (reify bs n) (cells.drop off) with
     | none=>rw [hm] at h;cases h
     | some l =>
      rw [hm] at h
      obtain ⟨fz',h'⟩:=hb.flat hbi
      simp only [reify,touch,h',hbi]
      rw [(list hm).1,(list hm).2]
      exact ⟨h,rfl⟩
  | sl i g off len =>
   simp only [reify] at h
   cases hbi:bs[i]? with
   | none=>rw [hbi] at h;cases h
   | some box =>
    rw [hbi] at h
    cases box with
    | flat=>cases h
    | map=>cases h
    | siter=>cases h
    | miter=>cases h
    | rows fz g' sz rs =>
     obtain ⟨fz',h'⟩:=hb.rows hbi
     simp only [reify,touch,h']
     exact ⟨h,trivial⟩
  | mloc i =>
   simp only [reify] at h
   cases hbi:bs[i]? with
   | none=>rw [hbi] at h;cases h
   | some box =>
    rw [hbi] at h
    cases box with
    | flat=>cases h
    | rows=>cases h
    | siter=>cases h
    | miter=>cases h
    | map fz ks vs =>
     obtain ⟨fz',h'⟩:=hb.map hbi
     simp only [reify,touch,h']
     exact ⟨h,trivial⟩
  | und | skp | yld | rloc | sit | asl=>cases h
  | _=>exact ⟨h,rfl⟩

theorem reifyL_more {bs bs':List Box} (hb:Bg bs bs') {ds es:List D} (h:reifyL bs ds=some es):reifyL bs' ds=some es∧ds.flatMap (touch bs' fuel)=ds.flatMap (touch bs fuel) :=
 ⟨mapO_congr h fun _ _ _ he=>(reify_more hb fuel he).1,flatMap_congr fun d hd=>let ⟨_,he⟩:=mapO_mem h d hd;(reify_more hb fuel he).2⟩

structure Le (o:Oper) (σ σ':St):Prop where
 ev:∀ x,x∈o.op.operands.toList→σ'.ev x=σ.ev x
 bs:Bg σ.boxes σ'.boxes

theorem evL_congr {σ σ':St}:∀ {xs:List Operand},(∀ x,x∈xs→σ'.ev x=σ.ev x)→σ'.evL xs=σ.evL xs
 | [],_=>rfl
 | x::r,h=>by simp only [St.evL];rw [h x (by simp),evL_congr fun y hy=>h y (by simp [hy])]

theorem evP_congr {σ σ':St}:∀ {xs:List (Nat × Operand)},(∀ x,x∈xs.map (·.2)→σ'.ev x=σ.ev x)→σ'.evP xs=σ.evP xs
 | [],_=>rfl
 | (i,x)::r,h=>by simp only [St.evP];rw [h x (by simp),evP_congr fun y hy=>h y (by simp only [List.map_cons,List.mem_cons];exact .inr hy)]

def Mld (σ:St):Eff→Prop
 | .val _=>True
 | .new b _=>b.fz=false
 | .res _ as=>∃ rs,reifyL σ.boxes as=some rs
 | _=>False

theorem opE_wit {T:Nat→Option TI} {C:Ctr} {σ:St} {o:Oper} (hm:mild o=true) {k:Eff→Prop} (hy:(∀ b y,¬ k (.yielded b y))∧∀ b y nb,¬ k (.gave b y nb)) (hsr:∀ d bs y,¬ k (.resS d bs y)) (hnf:∀ b mk L,¬ k (.newF b mk L)) (hk:opE T C σ o k) :
    ∃ e,k e∧Mld σ e∧∀ σ',Le o σ σ'→∀ k':Eff→Prop,k' e→opE T C σ' o k':=by
  have fin:∀ {e:Eff},k e→Mld σ e→(∀ σ',Le o σ σ'→∀ k':Eff→Prop,k' e→opE T C σ' o k')→∃ e,k e∧Mld σ e∧∀ σ',Le o σ σ'→∀ k':Eff→Prop,k' e→opE T C σ' o k':=fun h1 h2 h3=>⟨_,h1,h2,h3⟩
  have vals:∀ {p:Eff→Prop},(∃ e,k e∧(∃ d,e=.val d)∧p e)→∃ e,k e∧Mld σ e∧p e:=fun ⟨e,h1,⟨d,h2⟩,h3⟩=>⟨e,h1,by rw [h2];trivial,h3⟩
  unfold opE at hk
  cases ho:o.op with
  | move x | assign x =>
   simp only [ho] at hk
   cases hx:σ.ev x with
   | none=>rw [hx] at hk;exact hk.elim
   | some d =>
    rw [hx] at hk
    refine fin hk trivial fun σ' hl k' h=>?_
    simp only [opE,ho,hl.ev x (by simp [ho,Op.operands]),hx];exact h
  | pick c x y =>
   simp only [ho] at hk
   have hin:c∈o.op.operands.toList∧x∈o.op.operands.toList∧y∈o.op.operands.toList:=by simp [ho,Op.operands]
   cases hc:σ.ev c with
   | none=>rw [hc] at hk;exact hk.elim
   | some dc =>
    rw [hc] at hk
    cases dc with
    | tt =>
     simp only at hk
     cases hx:σ.ev x with
     | none=>rw [hx] at hk;exact hk.elim
     | some d =>
      rw [hx] at hk
      refine fin hk trivial fun σ' hl k' h=>?_
      simp only [opE,ho,hl.ev c hin.1,hl.ev x hin.2.1,hc,hx];exact h
    | ff =>
     simp only at hk
     cases hx:σ.ev y with
     | none=>rw [hx] at hk;exact hk.elim
     | some d =>
      rw [hx] at hk
      refine fin hk trivial fun σ' hl k' h=>?_
      simp only [opE,ho,hl.ev c hin.1,hl.ev y hin.2.2,hc,hx];exact h
    | bool b =>
     simp only at hk
     cases b with
     | true =>
      have hk:=hk.1 rfl
      cases hx:σ.ev x with
      | none=>rw [hx] at hk;exact hk.elim
      | some d =>
       rw [hx] at hk
       refine fin hk trivial fun σ' hl k' h=>?_
       simp only [opE,ho,hl.ev c hin.1,hl.ev x hin.2.1,hc,hx];exact ⟨fun _=>h,(fun hh=>by cases hh)⟩
     | false =>
      have hk:=hk.2 rfl
      cases hx:σ.ev y with
      | none=>rw [hx] at hk;exact hk.elim
      | some d =>
       rw [hx] at hk
       refine fin hk trivial fun σ' hl k' h=>?_
       simp only [opE,ho,hl.ev c hin.1,hl.ev y hin.2.2,hc,hx];exact ⟨(fun hh=>by cases hh),fun _=>h⟩
    | _=>exact hk.elim
  | alloc t =>
   simp only [ho] at hk
   cases ht:T t with
   | none=>rw [ht] at hk;exact hk.elim
   | some ti =>
    rw [ht] at hk
    refine fin hk rfl fun σ' hl k' h=>?_
    simp only [opE,ho,ht];exact h
  | box t x =>
   simp only [ho] at hk
   cases hx:σ.ev x with
   | none=>rw [hx] at hk;exact hk.elim
   | some d =>
    rw [hx] at hk
    simp only at hk
    cases hc:cellsOf d with
    | none=>rw [hc] at hk;exact hk.elim
    | some cs =>
     rw [hc] at hk
     refine fin hk rfl fun σ' hl k' h=>?_
     simp only [opE,ho,hl.ev x (by simp [ho,Op.operands]),hx,hc];exact h
  | build t ps =>
   simp only [ho] at hk
   have hin:∀ x,x∈ps.toList.map (·.2)→x∈o.op.operands.toList:=fun x hx=>by simpa [ho,Op.operands] using hx
   cases ht:T t with
   | none=>rw [ht] at hk;exact hk.elim
   | some ti =>
    cases hp:σ.evP ps.toList with
    | none=>rw [ht,hp] at hk;exact hk.elim
    | some l =>
     rw [ht,hp] at hk
     simp only at hk
     cases hb:buildable T ti.desc with
     | false=>rw [hb] at hk;exact hk.elim
     | true =>
      cases hf:fillCells (placeE T ti.desc) ti.zero l with
      | none=>rw [hb,hf] at hk;exact hk.elim
      | some cs =>
       rw [hb,hf] at hk
       simp only [forceL_eq] at hk
       refine fin hk trivial fun σ' hl k' h=>?_
       have:=evP_congr (σ:=σ) (σ':=σ') (xs:=ps.toList) fun x hx=>hl.ev x (hin x hx)
       simp only [opE,ho,ht,this,hp,hb,hf,forceL_eq];exact h
  | buildSlice t len ps =>
   simp only [ho] at hk
   have hin:∀ x,x∈ps.toList.map (·.2)→x∈o.op.operands.toList:=fun x hx=>by simpa [ho,Op.operands] using hx
   cases ht:T t with
   | none=>rw [ht] at hk;exact hk.elim
   | some ti =>
    cases hp:σ.evP ps.toList with
    | none=>rw [ht,hp] at hk;exact hk.elim
    | some l =>
     rw [ht,hp] at hk
     simp only at hk
     cases hb:sliceTI T ti.desc with
     | none=>rw [hb] at hk;exact hk.elim
     | some te =>
      rw [hb] at hk
      simp only at hk
      cases hf:fillRows te.size (List.replicate len te.zero) l with
      | none =>
       rw [hf] at hk
       obtain ⟨l',_,rows,_,hk⟩:=hk
       obtain ⟨_,hk⟩:=iff'_true hk
       exact (hnf _ _ _ hk).elim
      | some cs =>
       rw [hf] at hk
       obtain ⟨hi,hk⟩:=iff'_true hk
       refine fin hk rfl fun σ' hl k' h=>?_
       have:=evP_congr (σ:=σ) (σ':=σ') (xs:=ps.toList) fun x hx=>hl.ev x (hin x hx)
       simp only [opE,ho,ht,this,hp,hb,hf];exact iff'_mk hi h
  | load t p =>
   simp only [ho] at hk
   cases ht:T t with
   | none=>rw [ht] at hk;exact hk.elim
   | some ti =>
    cases hp:σ.ev p with
    | none=>rw [ht,hp] at hk;exact hk.elim
    | some d =>
     rw [ht,hp] at hk
     have hep:=fun σ' (hl:Le o σ σ')=>(hl.ev p (by simp [ho,Op.operands])).trans hp
     by_cases hgp:∃ g off,d=.gp g off
     ·obtain ⟨g,off,rfl⟩:=hgp
      simp only at hk
      cases ha:ti.agg with
      | true=>rw [ha] at hk;exact hk.elim
      | false =>
       rw [ha] at hk
       obtain ⟨kd,m,hg,hk⟩:=hk
       refine fin hk trivial fun σ' hl k' h=>?_
       simp only [opE,ho,ht,hep σ' hl,ha];exact ⟨kd,m,hg,h⟩
     · have hk:loadE ti σ.boxes d k:=by
         cases d <;> first | exact hk | exact absurd ⟨_,_,rfl⟩ hgp
       obtain ⟨e,h1,⟨d',rfl⟩,h3⟩:=loadE_wit hk
       refine fin h1 trivial fun σ' hl k' h=>?_
       have:=h3 _ hl.bs k' h
       simp only [opE,ho,ht,hep σ' hl]
       cases d <;> first | exact this | exact absurd ⟨_,_,rfl⟩ hgp
  | nilCheck x =>
   simp only [ho] at hk
   cases hx:σ.ev x with
   | none=>rw [hx] at hk;exact hk.elim
   | some d =>
    rw [hx] at hk
    cases d <;> first
     | exact hk.elim
     | (refine fin hk trivial fun σ' hl k' h=>?_
        simp only [opE,ho,hl.ev x (by simp [ho,Op.operands]),hx];exact h)
  | binOp op t x y ls =>
   simp only [ho] at hk
   have hnl:isNilC y=false:=by
    unfold mild at hm
    rw [ho] at hm
    simpa using hm
   cases ht:T t with
   | none=>rw [ht] at hk;exact hk.elim
   | some ti =>
    cases hx:σ.ev x with
    | none=>rw [ht,hx] at hk;exact hk.elim
    | some dx =>
     cases hy:σ.ev y with
     | none=>rw [ht,hx,hy] at hk;revert hk;cases dx <;> exact fun hk=>hk.elim
     | some dy =>
      rw [ht,hx,hy] at hk
      have ex:=fun σ' (hl:Le o σ σ')=>(hl.ev x (by simp [ho,Op.operands])).trans hx
      have ey:=fun σ' (hl:Le o σ σ')=>(hl.ev y (by simp [ho,Op.operands])).trans hy
      by_cases hnl':(∃ sz rows,dx=.list sz rows)∧dy=.nils
      ·obtain ⟨⟨sz,rows,rfl⟩,rfl⟩:=hnl'
       exfalso
       simp only [hnl] at hk
       split at hk
       ·rename_i h;cases h
       ·exact hk
      · have hk:binE ti op dx dy fun d=>k (.val d):=by
          revert hk
          split
          ·rename_i h1 h2 h3
           cases h2;cases h3
           exact absurd ⟨⟨_,_,rfl⟩,rfl⟩ hnl'
          ·rename_i h1 h2 h3
           cases h1;cases h2;cases h3
           exact id
          ·rename_i h
           exact absurd rfl (h _ _ _ rfl rfl)
        obtain ⟨d,h1,h2⟩:=binE_wit hk
        refine fin (e:=.val d) h1 trivial fun σ' hl k' h=>?_
        simp only [opE,ho,ht,ex σ' hl,ey σ' hl]
        split
        ·rename_i h1 h2 h3
         cases h2;cases h3
         exact absurd ⟨⟨_,_,rfl⟩,rfl⟩ hnl'
        ·rename_i h1 h2 h3
         cases h1;cases h2;cases h3
         exact h2 _ h
        ·rename_i h
         exact absurd rfl (h _ _ _ rfl rfl)
  | unOp op t x =>
   simp only [ho] at hk
   cases hx:σ.ev x with
   | none=>rw [hx] at hk;cases op <;> exact hk.elim
   | some dx =>
    rw [hx] at hk
    have hex:=fun σ' (hl:Le o σ σ')=>(hl.ev x (by simp [ho,Op.operands])).trans hx
    cases op <;> cases dx <;> first
     | exact hk.elim
     | exact fin hk trivial fun σ' hl k' h=>by simp only [opE,ho,hex σ' hl];exact h
     | (obtain ⟨r,hr,hk⟩:=hk
        exact fin hk trivial fun σ' hl k' h=>by simp only [opE,ho,hex σ' hl];exact ⟨r,hr,h⟩)
  | convert s d x =>
   simp only [ho] at hk
   cases hs:T s with
   | none=>rw [hs] at hk;exact hk.elim
   | some ts =>
    cases hd:T d with
    | none=>rw [hs,hd] at hk;exact hk.elim
    | some td =>
     cases hx:σ.ev x with
     | none=>rw [hs,hd,hx] at hk;exact hk.elim
     | some v =>
      rw [hs,hd,hx] at hk
      simp only at hk
      split at hk
      ·rename_i h1 h2
       obtain ⟨r,hr,hk⟩:=hk
       refine fin hk trivial fun σ' hl k' h=>?_
       simp only [opE,ho,hs,hd,hl.ev x (by simp [ho,Op.operands]),hx,h1,h2];exact ⟨r,hr,h⟩
      ·exact hk.elim
  | makeFunc fn fs cs =>
   simp only [ho] at hk
   cases h1:σ.evL fs.toList with
   | none=>rw [h1] at hk;exact hk.elim
   | some l =>
    cases h2:σ.evL cs.toList with
    | none=>rw [h1,h2] at hk;exact hk.elim
    | some m =>
     rw [h1,h2] at hk
     refine fin hk trivial fun σ' hl k' h=>?_
     have e1:=evL_congr (σ:=σ) (σ':=σ') (xs:=fs.toList) fun x hx=>hl.ev x (by simp only [ho,Op.operands,Array.toList_append,List.mem_append];exact .inl hx)
     have e2:=evL_congr (σ:=σ) (σ':=σ') (xs:=cs.toList) fun x hx=>hl.ev x (by simp only [ho,Op.operands,Array.toList_append,List.mem_append];exact .inr hx)
     simp only [opE,ho,e1,e2,h1,h2];exact h
  | makeSlice t l c =>
   simp only [ho] at hk
   cases ht:T t with
   | none=>rw [ht] at hk;exact hk.elim
   | some ti =>
    cases hx:σ.ev l with
    | none=>rw [ht,hx] at hk;exact hk.elim
    | some dl =>
     cases hc:σ.ev c with
     | none =>
      rw [ht,hx,hc] at hk
      exfalso
      split at hk
      ·simp_all
      ·exact hk
     | some dc =>
      rw [ht,hx,hc] at hk
      split at hk
      ·rename_i h1 h2 h3
       simp only [Option.some.injEq] at h1 h2 h3
       subst h1 h2 h3
       cases hb:sliceTI T ti.desc with
       | none=>rw [hb] at hk;exact hk.elim
       | some te =>
        rw [hb] at hk
        obtain ⟨hi,h1,h2,h3,j,h4,hk⟩:=iff'_true hk
        obtain ⟨_,b,mk,hk,hfz,h5⟩:=makeE_inv hk
        refine fin hk hfz fun σ' hl k' h=>?_
        simp only [opE,ho,ht,hl.ev l (by simp [ho,Op.operands]),hl.ev c (by simp [ho,Op.operands]),hx,hc,hb]
        exact iff'_mk hi ⟨h1,h2,h3,j,h4,h5 k' h⟩
      ·exact hk.elim
  | slice t x lo hi mx =>
   simp only [ho] at hk
   cases mx with
   | some m=>exact hk.elim
   | none =>
    cases ht:T t with
    | none=>rw [ht] at hk;exact hk.elim
    | some ti =>
     cases hx:σ.ev x with
     | none=>rw [ht,hx] at hk;exact hk.elim
     | some p =>
      cases hlo:optE σ lo with
      | none=>rw [ht,hx,hlo] at hk;exact hk.elim
      | some l =>
       cases hhi:optE σ hi with
       | none=>rw [ht,hx,hlo,hhi] at hk;exact hk.elim
       | some h =>
        rw [ht,hx,hlo,hhi] at hk
        simp only at hk
        cases hb:elemTI T ti.desc with
        | none =>
         rw [hb] at hk
         have hk:sliceSE ti.desc p l h k:=hk
         have h3:∃ d,k (.val d)∧∀ k':Eff→Prop,k' (.val d)→sliceSE ti.desc p l h k':=by
          unfold sliceSE at hk ⊢
          split at hk
          ·exact ⟨_,hk.2,fun k' hh=>⟨hk.1,hh⟩⟩
          ·exact hk.elim
         obtain ⟨d,h1,h3⟩:=h3
         refine fin h1 trivial fun σ' hl k' hh=>?_
         have e1:optE σ' lo=optE σ lo:=by
          cases lo with
          | none=>rfl
          | some y=>simp only [optE];rw [hl.ev y (by simp [ho,Op.operands])]
         have e2:optE σ' hi=optE σ hi:=by
          cases hi with
          | none=>rfl
          | some y=>simp only [optE];rw [hl.ev y (by simp [ho,Op.operands])]
         simp only [opE,ho,ht,hl.ev x (by simp [ho,Op.operands]),hx,e1,e2,hlo,hhi,hb];exact h3 k' hh
        | some te =>
         rw [hb] at hk
         obtain ⟨e,h1,⟨d',rfl⟩,h3⟩:=sliceE_wit hk
         refine fin h1 trivial fun σ' hl k' hh=>?_
         have e1:optE σ' lo=optE σ lo:=by
          cases lo with
          | none=>rfl
          | some y=>simp only [optE];rw [hl.ev y (by simp [ho,Op.operands])]
         have e2:optE σ' hi=optE σ hi:=by
          cases hi with
          | none=>rfl
          | some y=>simp only [optE];rw [hl.ev y (by simp [ho,Op.operands])]
         simp only [opE,ho,ht,hl.ev x (by simp [ho,Op.operands]),hx,e1,e2,hlo,hhi,hb];exact h3 _ hl.bs k' hh
  | fieldAddr t x f =>
   simp only [ho] at hk
   cases ht:T t with
   | none=>rw [ht] at hk;exact hk.elim
   | some ti =>
    cases hx:σ.ev x with
    | none=>rw [ht,hx] at hk;exact hk.elim
    | some p =>
     rw [ht,hx] at hk
     simp only at hk
     cases hf:fieldTI T ti.desc f with
     | none=>rw [hf] at hk;exact hk.elim
     | some q =>
      rw [hf] at hk
      obtain ⟨hi,hk⟩:=iff'_true hk
      obtain ⟨e,h1,⟨d',rfl⟩,h3⟩:=fieldAddrE_wit hk
      refine fin h1 trivial fun σ' hl k' h=>?_
      simp only [opE,ho,ht,hl.ev x (by simp [ho,Op.operands]),hx,hf];exact iff'_mk hi (h3 k' h)
  | field t x f =>
   simp only [ho] at hk
   cases ht:T t with
   | none=>rw [ht] at hk;exact hk.elim
   | some ti =>
    cases hx:σ.ev x with
    | none=>rw [ht,hx] at hk;exact hk.elim
    | some p =>
     rw [ht,hx] at hk
     cases p with
     | agg cs =>
      simp only at hk
      cases hf:fieldTI T ti.desc f with
      | none=>rw [hf] at hk;exact hk.elim
      | some q =>
       rw [hf] at hk
       simp only at hk
       cases ha:q.2.agg with
       | true =>
        rw [ha] at hk
        simp only at hk
        cases hr:readAgg cs q.1 q.2.size with
        | none=>rw [hr] at hk;exact hk.elim
        | some d =>
         rw [hr] at hk
         simp only [forceA_eq] at hk
         refine fin hk trivial fun σ' hl k' h=>?_
         simp only [opE,ho,ht,hl.ev x (by simp [ho,Op.operands]),hx,hf,ha,hr,forceA_eq];exact h
       | false =>
        rw [ha] at hk
        simp only at hk
        cases hr:cs[q.1]? with
        | none=>rw [hr] at hk;exact hk.elim
        | some d =>
         rw [hr] at hk
         refine fin hk trivial fun σ' hl k' h=>?_
         simp only [opE,ho,ht,hl.ev x (by simp [ho,Op.operands]),hx,hf,ha,hr];exact h
     | _=>exact hk.elim
  | indexAddr t x i =>
   simp only [ho] at hk
   cases ht:T t with
   | none=>rw [ht] at hk;exact hk.elim
   | some ti =>
    cases hx:σ.ev x with
    | none=>rw [ht,hx] at hk;exact hk.elim
    | some p =>
     cases hn:σ.ev i with
     | none=>rw [ht,hx,hn] at hk;exact hk.elim
     | some dn =>
      rw [ht,hx,hn] at hk
      simp only at hk
      cases hb:elemTI T ti.desc with
      | none=>rw [hb] at hk;exact hk.elim
      | some te =>
       rw [hb] at hk
       obtain ⟨e,h1,⟨d',rfl⟩,h3⟩:=indexAddrE_wit hk
       refine fin h1 trivial fun σ' hl k' h=>?_
       simp only [opE,ho,ht,hl.ev x (by simp [ho,Op.operands]),hl.ev i (by simp [ho,Op.operands]),hx,hn,hb];exact h3 _ hl.bs k' h
  | index t x i =>
   simp only [ho] at hk
   cases ht:T t with
   | none=>rw [ht] at hk;exact hk.elim
   | some ti =>
    cases hx:σ.ev x with
    | none=>rw [ht,hx] at hk;exact hk.elim
    | some p =>
     cases hn:σ.ev i with
     | none =>
      rw [ht,hx,hn] at hk
      cases p <;> exact hk.elim
     | some dn =>
      rw [ht,hx,hn] at hk
      cases p with
      | str st =>
       cases dn with
       | int ki n =>
        simp only at hk
        cases hd:ti.desc with
        | string =>
         rw [hd] at hk
         obtain ⟨h0,b,hb,hk⟩:=hk
         refine fin hk trivial fun σ' hl k' h=>?_
         simp only [opE,ho,ht,hl.ev x (by simp [ho,Op.operands]),hl.ev i (by simp [ho,Op.operands]),hx,hn,hd];exact ⟨h0,b,hb,h⟩
        | _=>rw [hd] at hk;exact hk.elim
       | _=>exact hk.elim
      | agg cs =>
       cases dn with
       | int ki n =>
        simp only at hk
        cases hd:ti.desc with
        | array len e =>
         rw [hd] at hk
         cases hb:elemTI T (.array len e) with
         | none=>rw [hb] at hk;exact hk.elim
         | some te =>
          rw [hb] at hk
          obtain ⟨hnn,hk⟩:=hk
          cases ha:te.agg with
          | true =>
           rw [ha] at hk
           obtain ⟨ds,h1,h2,hk⟩:=hk
           refine fin hk trivial fun σ' hl k' h=>?_
           simp only [opE,ho,ht,hl.ev x (by simp [ho,Op.operands]),hl.ev i (by simp [ho,Op.operands]),hx,hn,hd,hb,ha];exact ⟨hnn,ds,h1,h2,h⟩
          | false =>
           rw [ha] at hk
           obtain ⟨ds,h1,hk⟩:=hk
           refine fin hk trivial fun σ' hl k' h=>?_
           simp only [opE,ho,ht,hl.ev x (by simp [ho,Op.operands]),hl.ev i (by simp [ho,Op.operands]),hx,hn,hd,hb,ha];exact ⟨hnn,ds,h1,h⟩
        | _=>rw [hd] at hk;exact hk.elim
       | _=>exact hk.elim
      | _=>exact hk.elim
  | extract t i =>
   simp only [ho] at hk
   cases hx:σ.ev t with
   | none=>rw [hx] at hk;exact hk.elim
   | some d =>
    rw [hx] at hk
    cases d with
    | tup ds =>
     simp only at hk
     cases hd:ds[i]? with
     | none=>rw [hd] at hk;exact hk.elim
     | some d =>
      rw [hd] at hk
      refine fin hk trivial fun σ' hl k' h=>?_
      simp only [opE,ho,hl.ev t (by simp [ho,Op.operands]),hx,hd];exact h
    | _=>exact hk.elim
  | call c =>
   simp only [ho] at hk
   cases hc:c.callee with
   | value f =>
    rw [hc] at hk
    simp only at hk
    have hin:∀ x,x∈c.args.toList→x∈o.op.operands.toList:=fun x hx=>by
     simp only [ho,Op.operands,Call.operands,hc,Array.toList_append,List.mem_append];exact .inr hx
    have hfi:f∈o.op.operands.toList:=by simp [ho,Op.operands,Call.operands,hc]
    cases hf:σ.ev f with
    | none=>rw [hf] at hk;exact hk.elim
    | some df =>
     rw [hf] at hk
     cases ha:σ.evL c.args.toList with
     | none =>
      rw [ha] at hk
      exfalso
      revert hk
      split <;> simp_all
     | some as =>
      rw [ha] at hk
      cases df with
      | clo fn fs cs =>
       cases fn with
       | func fk =>
        simp only at hk
        have e1:=fun σ' (hl:Le o σ σ')=>evL_congr (σ:=σ) (σ':=σ') (xs:=c.args.toList) fun x hx=>hl.ev x (hin x hx)
        cases hnw:C.nw fk with
        | true =>
         rw [hnw] at hk
         obtain ⟨rs,hrs,b,hC,hk⟩:=hk
         obtain ⟨hnok,hk⟩:=iff'_true hk
         refine fin hk (by unfold newOK at hnok;split at hnok <;> first | rfl | cases hnok) fun σ' hl k' h=>?_
         simp only [opE,ho,hc,hl.ev f hfi,hf,e1 σ' hl,ha,hnw]
         exact ⟨rs,(reifyL_more hl.bs hrs).1,b,hC,iff'_mk hnok h⟩
        | false =>
        rw [hnw] at hk
        simp only at hk
        cases hshk:C.sh fk with
        | true =>
         rw [hshk] at hk
         rcases hk with ⟨rs,hrs,d,hC,hk⟩ | ⟨sel,args',bs0,Q,_,_,_,_,_,⟨d,bs',y',hq⟩,hk⟩
         ·refine fin hk ⟨rs,hrs⟩ fun σ' hl k' h=>?_
          simp only [opE,ho,hc,hl.ev f hfi,hf,e1 σ' hl,ha,hnw,hshk]
          exact .inl ⟨rs,(reifyL_more hl.bs hrs).1,d,hC,h⟩
         obtain ⟨X,_,hkk⟩:=hk d bs' y' hq
         exact (hsr _ _ _ hkk).elim
        | false =>
        rw [hshk] at hk
        obtain ⟨rs,hrs,d,hC,hk⟩:=hk
        refine fin hk ⟨rs,hrs⟩ fun σ' hl k' h=>?_
        simp only [opE,ho,hc,hl.ev f hfi,hf,e1 σ' hl,ha,hnw,hshk]
        exact ⟨rs,(reifyL_more hl.bs hrs).1,d,hC,h⟩
       | _=>exact hk.elim
      | yld l =>
       simp only at hk
       cases hyy:σ.y with
       | rem l' xs =>
        rw [hyy] at hk
        cases xs with
        | nil=>exact hk.elim
        | cons x r =>
         exfalso
         simp only at hk
         split at hk
         ·split at hk
          ·obtain ⟨_,_,hk⟩:=hk
           obtain ⟨_,hk⟩:=iff'_true hk
           exact hy.2 _ _ _ hk.1
          ·exact hk
         ·exact hy.1 _ _ hk.2.2.1
       | _=>rw [hyy] at hk;exact hk.elim
      | _=>exact hk.elim
   | builtin b =>
    rw [hc] at hk
    simp only at hk
    cases ha:σ.evL c.args.toList with
    | none=>rw [ha] at hk;exact hk.elim
    | some as =>
     rw [ha] at hk
     have hin:∀ x,x∈c.args.toList→x∈o.op.operands.toList:=fun x hx=>by
      simp only [ho,Op.operands,Call.operands,hc,Array.toList_append,List.mem_append];exact .inr hx
     have e1:=fun σ' (hl:Le o σ σ')=>evL_congr (σ:=σ) (σ':=σ') (xs:=c.args.toList) fun x hx=>hl.ev x (hin x hx)
     cases b with
     | len =>
      simp only at hk
      cases as with
      | nil=>exact hk.elim
      | cons x as =>
       cases as with
       | cons y as=>exact hk.elim
       | nil =>
        simp only at hk
        cases ht:typeAt T c 0 with
        | none=>rw [ht] at hk;exact hk.elim
        | some ti =>
         rw [ht] at hk
         simp only at hk
         cases hd:ti.desc with
         | array m e =>
          rw [hd] at hk
          refine fin hk trivial fun σ' hl k' h=>?_
          simp only [opE,ho,hc,e1 σ' hl,ha,ht,hd];exact h
         | slice e =>
          rw [hd] at hk
          obtain ⟨d,h1,h2⟩:=lenE_wit hk
          refine fin h1 trivial fun σ' hl k' h=>?_
          simp only [opE,ho,hc,e1 σ' hl,ha,ht,hd];exact h2 _ h
         | string =>
          rw [hd] at hk
          cases x with
          | str s =>
           refine fin hk trivial fun σ' hl k' h=>?_
           simp only [opE,ho,hc,e1 σ' hl,ha,ht,hd];exact h
          | _=>exact hk.elim
         | _=>rw [hd] at hk;exact hk.elim
     | min =>
      obtain ⟨d,h1,h2⟩:=minE_wit hk
      refine fin h1 trivial fun σ' hl k' h=>?_
      simp only [opE,ho,hc,e1 σ' hl,ha];exact h2 _ h
     | max =>
      obtain ⟨d,h1,h2⟩:=maxE_wit hk
      refine fin h1 trivial fun σ' hl k' h=>?_
      simp only [opE,ho,hc,e1 σ' hl,ha];exact h2 _ h
     | _=>(simp [mild,ho,hc] at hm)
   | invoke r m=>rw [hc] at hk;exact hk.elim
  | _=>(simp [mild,ho] at hm)

end Go.V

namespace Go.V
open Go.RowKit

section
variable {P:Program} [Glb] {sh:Kinds} {ish:Nat→Bool} {T:Nat→Option TI} {C:Ctr} {cx:Cx} {V:Nat→Prop} {σ:St} {β:BE} {I:Imm} {S:Nat→Prop} {N:Nat} {a:Act} {w:World}

structure AppParts (T:Nat→Option TI) (o:Oper) (c:Call) (t0 t1 e e1:TypeId) (ti ti1 te:TI):Prop where
 op:o.op=.call c
 callee:c.callee=.builtin .append
 h0:c.argTypes[0]?=some t0
 h1:c.argTypes[1]?=some t1
 t0:T t0=some ti
 t1:T t1=some ti1
 d0:ti.desc=.slice e
 d1:ti1.desc=.slice e1
 tE:T e=some te
 size:Nat.blt 0 te.size=true
 bytes:Nat.blt 0 te.bytes=true

omit [Glb] in
theorem app_inv {o:Oper} (hm:isApp o=true) {k:Eff→Prop} (hk:opE T C σ o k) :
    ∃ c t0 t1 e e1 ti ti1 te s x,AppParts T o c t0 t1 e e1 ti ti1 te∧σ.evL c.args.toList=some [s,x]∧appendE σ.boxes te.size te.bytes s x k:=by
  unfold isApp at hm
  unfold opE at hk
  cases ho:o.op with
  | call c =>
   rw [ho] at hm
   simp only [ho] at hk
   simp only at hm
   cases hc:c.callee with
   | builtin b =>
    rw [hc] at hm hk
    cases b with
    | append =>
     simp only at hk
     cases ha:σ.evL c.args.toList with
     | none=>rw [ha] at hk;exact hk.elim
     | some as =>
      rw [ha] at hk
      simp only at hk
      cases as with
      | nil=>exact hk.elim
      | cons s as =>
       cases as with
       | nil=>exact hk.elim
       | cons x as =>
        cases as with
        | cons y as=>exact hk.elim
        | nil =>
         simp only at hk
         unfold typeAt at hk
         cases h0:c.argTypes[0]? with
         | none=>rw [h0] at hk;exact hk.elim
         | some t0 =>
          cases h1:c.argTypes[1]? with
          | none =>
           rw [h0,h1] at hk
           simp only at hk
           cases ht0:T t0 <;> rw [ht0] at hk <;> exact hk.elim
          | some t1 =>
           rw [h0,h1] at hk
           simp only at hk
           cases ht0:T t0 with
           | none=>rw [ht0] at hk;exact hk.elim
           | some ti =>
            cases ht1:T t1 with
            | none=>rw [ht0,ht1] at hk;exact hk.elim
            | some tx =>
             rw [ht0,ht1] at hk
             simp only at hk
             cases hd1:tx.desc with
             | slice e1 =>
              rw [hd1] at hk
              simp only at hk
              cases hd:ti.desc with
              | slice e =>
               rw [hd] at hk
               simp only [sliceTI] at hk
               cases hte:T e with
               | none=>rw [hte] at hk;exact hk.elim
               | some te =>
                rw [hte] at hk
                simp only at hk
                obtain ⟨hpos,hk⟩:=iff'_true hk
                cases hp1:Nat.blt 0 te.size with
                | false=>rw [hp1] at hpos;cases hpos
                | true =>
                 rw [hp1] at hpos
                 exact ⟨c,t0,t1,e,e1,ti,tx,te,s,x,⟨ho,hc,h0,h1,ht0,ht1,hd,hd1,hte,hp1,hpos⟩,ha,hk⟩
              | _=>rw [hd] at hk;exact hk.elim
             | _=>rw [hd1] at hk;exact hk.elim
    | _=>cases hm
   | value f=>rw [hc] at hm;cases hm
   | invoke r m=>rw [hc] at hm;cases hm
  | _=>rw [ho] at hm;cases hm

omit [Glb] in
theorem app_mk {o:Oper} {c:Call} {t0 t1 e e1:TypeId} {ti ti1 te:TI} (h:AppParts T o c t0 t1 e e1 ti ti1 te) {s x:D} (ha:σ.evL c.args.toList=some [s,x]) {k:Eff→Prop} (hk:appendE σ.boxes te.size te.bytes s x k):opE T C σ o k:=by
 obtain ⟨ho,hc,h0,h1,ht0,ht1,hd,hd1,hte,hp1,hpos⟩:=h
 simp only [opE,ho,hc,ha,typeAt,h0,h1,ht0,ht1,hd,hd1,sliceTI,hte]
 exact iff'_mk (by rw [hp1];exact hpos) hk

omit [Glb] in
theorem rowsOf_bg {bs bs':List Box} (h:Bg bs bs') {d:D} {r:Nat × List (List D)} (hr:rowsOf bs d=some r):rowsOf bs' d=some r:=by
 unfold rowsOf at hr ⊢
 cases d with
 | sl i g off len =>
  simp only at hr ⊢
  cases hb:bs[i]? with
  | none=>rw [hb] at hr;cases hr
  | some box =>
   rw [hb] at hr
   cases box with
   | flat=>cases hr
   | map=>cases hr
   | siter=>cases hr
   | miter=>cases hr
   | rows fz g' sz rs =>
    rcases h i _ hb with h1 | h1
    ·rw [h1];exact hr
    ·rw [h1];exact hr
 | _=>exact hr

omit [Glb] in
theorem opE_witA {o:Oper} (hm:isApp o=true) {k:Eff→Prop} (hs:∀ i b d,¬ k (.set i b d)) (hk:opE T C σ o k) :
    ∃ e,k e∧Mld σ e∧∀ σ',Le o σ σ'→∀ k':Eff→Prop,k' e→opE T C σ' o k':=by
  obtain ⟨c,t0,t1,e,e1,ti,ti1,te,s,x,hp,ha,hk⟩:=app_inv hm hk
  unfold appendE at hk
  cases hr:rowsOf σ.boxes x with
  | none=>rw [hr] at hk;exact hk.elim
  | some q =>
   obtain ⟨sz,rows⟩:=q
   rw [hr] at hk
   simp only at hk
   obtain ⟨hsz,hk⟩:=hk
   cases s with
   | nils =>
    obtain ⟨hmost,hk⟩:=hk
    refine ⟨_,hk,rfl,fun σ' hl k' h=>?_⟩
    have hin:∀ x,x∈c.args.toList→x∈o.op.operands.toList:=fun x hx=>by
     simp only [hp.op,Op.operands,Call.operands,hp.callee,Array.toList_append,List.mem_append];exact .inr hx
    have e1:=evL_congr (σ:=σ) (σ':=σ') (xs:=c.args.toList) fun x hx=>hl.ev x (hin x hx)
    refine app_mk hp (e1.trans ha) ?_
    unfold appendE
    rw [rowsOf_bg hl.bs hr]
    exact ⟨hsz,hmost,h⟩
   | sl i g off len =>
    simp only at hk
    cases hb:σ.boxes[i]? with
    | none=>rw [hb] at hk;exact hk.elim
    | some box =>
     rw [hb] at hk
     cases box with
     | flat=>exact hk.elim
     | map=>exact hk.elim
     | siter=>exact hk.elim
     | miter=>exact hk.elim
     | rows fz g' sz' rs =>
      cases fz with
      | true=>exact hk.elim
      | false =>
       simp only at hk
       obtain ⟨_,_,_,old,_,all,_,_,hk2⟩:=iff'_true hk
       exact (hs _ _ _ hk2).elim
   | _=>exact hk.elim

omit [Glb] in
theorem append_new (hs:Sim cx V σ β I S N a w) {t t1:TypeId} {ti ti1 te:TI} (h:TIok P t ti) {e e1:TypeId} (hd:ti.desc=.slice e) (he:TIok P e te) (h1:TIok P t1 ti1) (hd1:ti1.desc=.slice e1)
    {ats:Array TypeId} (h0:ats[0]?=some t) (h0':ats[1]?=some t1) (ty:TypeId) (hpos:0<te.size) (hbpos:0<te.bytes) {sv xv:Value} {x:D} (hsv:Rel I β sv .nils) (hxv:Rel I β xv x) {k:Eff→Prop}
    (hk:appendE σ.boxes te.size te.bytes .nils x k) :
    ∃ v w' bi b mk,(Builtin.append_ ats ty #[sv,xv]).run P w=.ok v w'∧k (.new b mk)∧(∀ R,bi.R=some R→w.heap.size≤R)∧Keep (·<w.heap.size) w w'∧BoxRel I β w' bi b∧b.fz=false∧∀ (β':BE) (i:Nat),β' i=some bi→Rel I β' v (mk i):=by
  unfold appendE at hk
  cases hr:rowsOf σ.boxes x with
  | none=>rw [hr] at hk;exact hk.elim
  | some q =>
   obtain ⟨sz,rows⟩:=q
   rw [hr] at hk
   simp only at hk
   obtain ⟨hsz,hmost,hk⟩:=hk
   have hsz':rows=[]∨sz=te.size:=by
    split at hsz
    ·rename_i hq;exact .inr (Nat.eq_of_beq_eq_true hq)
    ·exact .inl hsz
   obtain ⟨B,c2,f,rfl,hread,hrows⟩:=rows_read hs hxv hr hpos hsz'
   have hf:∀ w',Keep (·<w.heap.size) w w'→(Builtin.firstCells te.size rows.length (.slice B rows.length c2)).run P w'=.ok ((List.range (rows.length*te.size)).map f).toArray w':=fun w' kk=>run_firstCells hread kk
   cases hsv with | nils A0=>?_
   rcases Nat.eq_zero_or_pos rows.length with h00 | hp
   ·have hrun:=run_append_here (w:=w) h hd he h1 hd1 h0 h0' ty A0 B 0 0 rows.length c2 (by omega) (hf w (Keep.refl _ w)) (w':=w) (by cases A0 with | none=>rfl | some A0=>simp [h00,storeCells])
    have hrn:rows=[]:=List.eq_nil_of_length_eq_zero h00
    refine ⟨_,w,⟨none,false,0,te.size,0,0⟩,_,_,hrun,hk,fun R h=>(by cases h),Keep.refl _ w,⟨rfl,rfl,rfl,h00.symm,hrows.row,by simp [h00],rfl⟩,rfl,fun β' i hi=>?_⟩
    rw [h00]
    exact .sl A0 0 i 0 0 0 ⟨none,false,0,te.size,0,0⟩ hi rfl rfl rfl (Nat.le_refl _) (Nat.le_refl _) (fun h=>absurd h (by omega))
   ·obtain ⟨z,hz,hrun⟩:=run_append_anew (w:=w) h hd he h1 hd1 h0 h0' ty A0 B 0 0 rows.length c2 (by omega) hbpos (by simpa using hmost) (olds:=#[]) (by cases A0 with | none=>simp [Builtin.firstCells] | some A0=>simp [Builtin.firstCells,loadCells,loadCellsFrom]) (hf w.drew (Keep.drew _ w))
    have hge:=grownCap_ge w (0+rows.length) 0 e
    have hb:=new_grown (β:=β) (e:=e) (c:=#[]++((List.range (rows.length*te.size)).map f).toArray++Builtin.zeroCells z.cells (grownCap w (0+rows.length) 0 e - (0+rows.length))) (cap:=grownCap w (0+rows.length) 0 e)
     (more:=(Builtin.zeroCells z.cells (grownCap w (0+rows.length) 0 e - (0+rows.length))).toList) hrows (by simp) hge (by simp) (by
      simp only [Array.size_append,size_zeroCells',hz,List.size_toArray,List.length_map,List.length_range,Nat.zero_add,List.length_nil]
      have hge':=hge
      simp only [Nat.zero_add] at hge'
      rw [← Nat.add_mul];congr 1;omega) w.drew 0
    refine ⟨_,_,_,_,_,hrun,hk,fun R h=>(by cases h;exact Nat.le_refl _),(Keep.drew _ w).trans (Keep.alloc w.drew _),hb,rfl,fun β' i hi=>?_⟩
    have:=Rel.sl (I:=I) (β:=β') (some ⟨w.heap.size,0,none⟩) (grownCap w (0+rows.length) 0 e) i 0 0 (0+rows.length) _ hi rfl rfl (by simp) hge (by simp) (fun _=>⟨w.heap.size,rfl,by simp⟩)
    simpa using this

theorem app_wp (hT:TOK P T) {F:Fence} (hF:FW F) (hs:Sim cx V σ β I S N a w) {n:Nat} {o:Oper} (hV:∀ t,Operand.tmp t∈o.op.operands.toList→V t) (hm:isApp o=true) {k:Eff→Prop}
    (hk:opE T (CD P sh) σ o k) (hset:∀ i b d,¬ k (.set i b d)) {next:Act→World→Prop} {Q:Exit→Act→World→Prop}
    (hnew:∀ b mk v w' bi,k (.new b mk)→(∀ R,bi.R=some R→w.heap.size≤R)→Keep (·<w.heap.size) w w'→BoxRel I β w' bi b→b.fz=false→(∀ (β':BE) (i:Nat),β' i=some bi→Rel I β' v (mk i))→next (a.put o.dst v) w') :
    o.wpIn F n P a w next Q:=by
  obtain ⟨c,t0,t1,e,e1,ti,ti1,te,s,x,hp,ha,hk⟩:=app_inv hm hk
  have hin:∀ x,x∈c.args.toList→x∈o.op.operands.toList:=fun x hx=>by
   simp only [hp.op,Op.operands,Call.operands,hp.callee,Array.toList_append,List.mem_append];exact .inr hx
  have hrl:=hs.evL (fun x t hx e=>hV t (e ▸ hin x hx)) ha
  have hargs:(c.args.map a.eval)=(c.args.toList.map a.eval).toArray:=by apply Array.toList_inj.1;simp
  obtain ⟨sv,vs',hvs,hsv,hrl'⟩:=hrl.cons_inv
  obtain ⟨xv,hxs,hxv⟩:=hrl'.one_inv
  rw [hvs,hxs] at hargs
  have hs0:s=.nils:=by
   unfold appendE at hk
   cases hr:rowsOf σ.boxes x with
   | none=>rw [hr] at hk;exact hk.elim
   | some q =>
    obtain ⟨sz,rows⟩:=q
    rw [hr] at hk
    simp only at hk
    obtain ⟨hsz,hk⟩:=hk
    cases s with
    | nils=>rfl
    | sl i g off len =>
     simp only at hk
     cases hb:σ.boxes[i]? with
     | none=>rw [hb] at hk;exact hk.elim
     | some box =>
      rw [hb] at hk
      cases box with
      | flat=>exact hk.elim
      | map=>exact hk.elim
      | siter=>exact hk.elim
      | miter=>exact hk.elim
      | rows fz g' sz' rs =>
       cases fz with
       | true=>exact hk.elim
       | false =>
        simp only at hk
        obtain ⟨_,_,_,old,_,all,_,_,hk2⟩:=iff'_true hk
        exact (hset _ _ _ hk2).elim
    | _=>exact hk.elim
  subst hs0
  obtain ⟨v,w',bi,b,mk,hrun,hk',h1,h2,h3,h4,h5⟩:=append_new hs (hT _ _ hp.t0) hp.d0 (hT _ _ hp.tE) (hT _ _ hp.t1) hp.d1 hp.h0 hp.h1 o.type (Nat.blt_eq ▸ hp.size) (Nat.blt_eq ▸ hp.bytes) hsv hxv hk
  refine wp_value hF (by rw [hp.op];simp) (v:=v) (w':=w') ?_ (hnew b mk v w' bi hk' h1 h2 h3 h4 h5)
  simp only [execOp,hp.op,resolve,hp.callee,Sem.run_bind,Sem.run_pure,Result.andThen_ok,invoke,builtin,hargs]
  rw [hrun]
  rfl

theorem mildA_wp (hT:TOK P T) {F:Fence} (hF:FW F) (hs:Sim cx V σ β I S N a w) {n:Nat} {o:Oper} (hV:∀ t,Operand.tmp t∈o.op.operands.toList→V t) (hm:mild o=true∨isApp o=true) {k:Eff→Prop}
    (hcx:cx.Ok) (hk:opE T (CD P sh) σ o k) (hyl:(∀ b y,¬ k (.yielded b y))∧∀ b y nb,¬ k (.gave b y nb)) (hsr:∀ d bs y,¬ k (.resS d bs y)) (hnf:∀ b mk L,¬ k (.newF b mk L)) (hset:∀ i b d,¬ k (.set i b d)) {next:Act→World→Prop} {Q:Exit→Act→World→Prop} (hval:∀ d v,k (.val d)→Rel I β v d→next (a.put o.dst v) w)
    (hnew:∀ b mk v w' bi,k (.new b mk)→(∀ R,bi.R=some R→w.heap.size≤R)→Keep (·<w.heap.size) w w'→BoxRel I β w' bi b→b.fz=false→(∀ (β':BE) (i:Nat),β' i=some bi→Rel I β' v (mk i))→next (a.put o.dst v) w')
    (hres:∀ d as v w' I',k (.res d as)→Keep (·<w.heap.size) w w'→Grow w.heap.size (plusB (as.flatMap (touch σ.boxes fuel)) β w I) I'→Agree I' w'→Rel I' nob v d→next (a.put o.dst v) w') :
    o.wpIn F n P a w next Q:=by
  rcases hm with hm | hm
  ·exact mild_wp hT hF hcx hs hV (.inl hm) hk (.inl hyl) (.inl hsr) hval hnew (fun b mk L _ _ _ hk=>(hnf b mk L hk).elim) hres
  ·exact app_wp hT hF hs hV hm hk hset hnew

end

theorem takeWhile_getP {p:Oper→Bool} {ops:List Oper}:∀ {i:Nat} {o:Oper},i<(ops.takeWhile p).length→ops[i]?=some o→p o=true:=by
 induction ops with
 | nil=>intro i o h;simp at h
 | cons x r ih =>
  intro i o h ho
  rw [List.takeWhile_cons] at h
  split at h
  ·rename_i hx
   cases i with
   | zero=>simp at ho;subst ho;exact hx
   | succ i=>exact ih (by simpa using h) (by simpa using ho)
  ·simp at h

theorem mildA_or {o:Oper} (h:mildA o=true):mild o=true∨isApp o=true:=by
 unfold mildA at h;rwa [Bool.or_eq_true] at h

theorem valOp_mild {o:Oper} (h:valOp o=true):mild o=true:=by
 unfold valOp at h
 unfold mild
 cases ho:o.op with
 | call c =>
  rw [ho] at h
  simp only at h ⊢
  cases hc:c.callee with
  | builtin b=>rw [hc] at h;cases b <;> first | rfl | cases h
  | value f=>rfl
  | invoke r m=>rw [hc] at h;cases h
 | binOp op t x y ls=>rw [ho] at h;exact h
 | _=>first | rfl | (rw [ho] at h;cases h)

end Go.V

namespace Go.V
open Go.RowKit

def wantD (ops:List Oper) (σ:St) (o:Oper):Option Bool :=
 match o.guard with
 | none=>some true
 | some (j,want)=>match guardUnd ops σ j with
  | true=>some false
  | false=>match guardOf ops σ j with
   | none=>none
   | some b=>some (b==want)

section
variable {P:Program} [Glb] {T:Nat→Option TI} {C:Ctr} {cx:Cx} {V:Nat→Prop} {σ:St} {β:BE} {I:Imm} {S:Nat→Prop} {N:Nat} {a:Act} {w:World}

omit [Glb] in
theorem runOps_want {fb:Eff→Bool} {ops rest:List Oper} {o:Oper} {i:Nat} {K:St→Prop} (h:runOps T C fb ops (o::rest) i σ K) :
    (wantD ops σ o=some true∧stepE T C fb (isGuard ops i) σ o fun σ'=>runOps T C fb ops rest (i+1) σ' K)∨(wantD ops σ o=some false∧runOps T C fb ops rest (i+1) (σ.put o.dst .skp) K):=by
  simp only [runOps] at h
  unfold wantD
  cases hg:o.guard with
  | none=>rw [hg] at h;exact .inl ⟨rfl,h⟩
  | some jw =>
   obtain ⟨j,want⟩:=jw
   rw [hg] at h
   simp only at h ⊢
   cases hu:guardUnd ops σ j with
   | true=>rw [hu] at h;exact .inr ⟨rfl,h⟩
   | false =>
    rw [hu] at h
    simp only at h ⊢
    cases ho:guardOf ops σ j with
    | none=>rw [ho] at h;exact h.elim
    | some b =>
     rw [ho] at h
     cases b <;> cases want <;> simp only at h
     ·exact .inl ⟨rfl,h⟩
     ·exact .inr ⟨rfl,h⟩
     ·exact .inr ⟨rfl,h⟩
     ·exact .inl ⟨rfl,h⟩

omit [Glb] in
theorem Sim.want {ops:Array Oper} {o:Oper} {b:Bool} (hs:Sim cx V σ β I S N a w) (hV:∀ j want oj t,o.guard=some (j,want)→ops[j]?=some oj→oj.dst=some t→V t) (h:wantD ops.toList σ o=some b) :
    Region.wanted o (yielded ops a.tmps)=b:=by
  unfold wantD at h
  unfold Region.wanted
  cases hg:o.guard with
  | none=>rw [hg] at h;cases h;rfl
  | some jw =>
   obtain ⟨j,want⟩:=jw
   rw [hg] at h
   simp only at h ⊢
   have e:ops[j]?=ops.toList[j]?:=by simp
   cases hu:guardUnd ops.toList σ j with
   | true =>
    rw [hu] at h
    cases h
    unfold guardUnd at hu
    unfold yielded
    rw [e]
    cases ho:ops.toList[j]? with
    | none=>rw [ho] at hu;cases hu
    | some oj =>
     rw [ho] at hu
     simp only at hu
     cases hd:oj.dst with
     | none=>rw [hd] at hu;cases hu
     | some t =>
      rw [hd] at hu
      simp only at hu
      cases hl:look σ.tmps t with
      | none=>rw [hl] at hu;cases hu
      | some d =>
       rw [hl] at hu
       obtain ⟨v,hv,hr⟩:=hs.tm t d (hV j want oj t hg (e.trans ho) hd) hl
       cases d <;> first | (cases hu;done) | skip
       cases hr
       simp [hd,hv]
   | false =>
    rw [hu] at h
    simp only at h
    cases hgo:guardOf ops.toList σ j with
    | none=>rw [hgo] at h;cases h
    | some c =>
     rw [hgo] at h
     cases h
     have:yielded ops a.tmps j=some c:=by
      unfold guardOf at hgo
      unfold yielded
      rw [e]
      cases ho:ops.toList[j]? with
      | none=>rw [ho] at hgo;cases hgo
      | some oj =>
       rw [ho] at hgo
       simp only at hgo
       cases hd:oj.dst with
       | none=>rw [hd] at hgo;cases hgo
       | some t =>
        rw [hd] at hgo
        simp only at hgo
        cases hl:look σ.tmps t with
        | none=>rw [hl] at hgo;cases hgo
        | some d =>
         rw [hl] at hgo
         obtain ⟨v,hv,hr⟩:=hs.tm t d (hV j want oj t hg (e.trans ho) hd) hl
         cases d <;> first | (cases hgo;done) | skip
         ·cases hgo;cases hr;simp [hd,hv]
         ·cases hgo;cases hr;simp [hd,hv]
     rw [this]
     cases c <;> cases want <;> rfl

def bd (b:Bool):D:=match b with | true=>.tt | false=>.ff

inductive Part:Eff→Eff→Prop
 | same (e:Eff):Part e e
 | val (b:Bool):Part (.val (.bool b)) (.val (bd b))
 | res (b:Bool) (as:List D):Part (.res (.bool b) as) (.res (bd b) as)

omit [Glb] in
theorem stepE_wit {fb:Eff→Bool} (hfb:((∀ b y,fb (.yielded b y)=true)∧∀ b y nb,fb (.gave b y nb)=true)∧(∀ d bs y,fb (.resS d bs y)=true)∧∀ b mk L,fb (.newF b mk L)=true) {g:Bool} {o:Oper} (hm:mild o=true∨(isApp o=true∧∀ i b d,fb (.set i b d)=true)) {K:St→Prop} (h:stepE T C fb g σ o K) :
    ∃ e e',Mld σ e∧Part e e'∧(∀ σ',Le o σ σ'→∀ k':Eff→Prop,k' e→opE T C σ' o k')∧K (effSt σ o.dst e'):=by
  rw [stepE_eq] at h
  unfold stepE0 at h
  obtain ⟨e,hk,hml,hw⟩:∃ e,stepK fb g σ o.dst K e∧Mld σ e∧∀ σ',Le o σ σ'→∀ k':Eff→Prop,k' e→opE T C σ' o k':=by
   rcases hm with hm | ⟨hm,hset⟩
   ·exact opE_wit hm ⟨fun b y hh=>by unfold stepK at hh;rw [hfb.1.1] at hh;exact hh,fun b y nb hh=>by unfold stepK at hh;rw [hfb.1.2] at hh;exact hh⟩ (fun d bs y hh=>by unfold stepK at hh;rw [hfb.2.1] at hh;exact hh) (fun b mk L hh=>by unfold stepK at hh;rw [hfb.2.2] at hh;exact hh) h
   ·exact opE_witA hm (fun i b d hh=>by unfold stepK at hh;rw [hset] at hh;exact hh) h
  unfold stepK at hk
  cases hf:fb e with
  | true=>rw [hf] at hk;exact hk.elim
  | false =>
  rw [hf] at hk
  simp only at hk
  cases e with
  | val d =>
   cases g with
   | false=>exact ⟨_,_,hml,.same _,hw,hk⟩
   | true =>
    cases d with
    | bool b =>
     cases b with
     | true=>exact ⟨_,_,hml,.val true,hw,hk.1 rfl⟩
     | false=>exact ⟨_,_,hml,.val false,hw,hk.2 rfl⟩
    | _=>exact ⟨_,_,hml,.same _,hw,hk⟩
  | res d as =>
   cases g with
   | false=>exact ⟨_,_,hml,.same _,hw,hk⟩
   | true =>
    cases d with
    | bool b =>
     cases b with
     | true=>exact ⟨_,_,hml,.res true as,hw,hk.1 rfl⟩
     | false=>exact ⟨_,_,hml,.res false as,hw,hk.2 rfl⟩
    | _=>exact ⟨_,_,hml,.same _,hw,hk⟩
  | new b mk=>cases g <;> exact ⟨_,_,hml,.same _,hw,hk⟩
  | set i b d=>exact hml.elim
  | yielded b y=>exact hml.elim
  | resS d bs y=>exact hml.elim
  | newF b mk L=>exact hml.elim
  | gave b y nb=>exact hml.elim

def Stp (T:Nat→Option TI) (C:Ctr) (ops:List Oper) (o:Oper) (σ σ':St):Prop :=
 (wantD ops σ o=some false∧σ'=σ.put o.dst .skp) ∨
 (wantD ops σ o=some true∧∃ e e',Mld σ e∧Part e e'∧(∀ σ'',Le o σ σ''→∀ k':Eff→Prop,k' e→opE T C σ'' o k')∧σ'=effSt σ o.dst e')

omit [Glb] in
theorem runOps_steps {fb:Eff→Bool} (hfb:((∀ b y,fb (.yielded b y)=true)∧∀ b y nb,fb (.gave b y nb)=true)∧(∀ d bs y,fb (.resS d bs y)=true)∧∀ b mk L,fb (.newF b mk L)=true) {ops:List Oper} {K:St→Prop}:∀ (l1 l2:List Oper) (i:Nat) (σ:St),(∀ o∈l1,mild o=true∨(isApp o=true∧∀ i b d,fb (.set i b d)=true))→runOps T C fb ops (l1++l2) i σ K →
    ∃ σs:Nat→St,σs 0=σ∧(∀ (j:Nat) (o:Oper),l1[j]?=some o→Stp T C ops o (σs j) (σs (j+1)))∧runOps T C fb ops l2 (i+l1.length) (σs l1.length) K
  | [],l2,i,σ,_,h=>⟨fun _=>σ,rfl,fun j o ho=>by simp at ho,h⟩
  | o::l1,l2,i,σ,hm,h=>by
   have main:∀ σ',Stp T C ops o σ σ'→runOps T C fb ops (l1++l2) (i+1) σ' K→∃ σs:Nat→St,σs 0=σ∧(∀ (j:Nat) (o':Oper),(o::l1)[j]?=some o'→Stp T C ops o' (σs j) (σs (j+1)))∧runOps T C fb ops l2 (i+(o::l1).length) (σs (o::l1).length) K:=by
    intro σ' hst hr
    obtain ⟨σs,h0,h1,h2⟩:=runOps_steps hfb l1 l2 (i+1) σ' (fun o ho=>hm o (by simp [ho])) hr
    refine ⟨fun j=>match j with | 0=>σ | j+1=>σs j,rfl,?_,?_⟩
    ·intro j o' ho
     cases j with
     | zero=>simp at ho;subst ho;simp only;rw [h0];exact hst
     | succ j=>exact h1 j o' (by simpa using ho)
    ·simp only [List.length_cons]
     have:i+(l1.length+1)=i+1+l1.length:=by omega
     rw [this]
     exact h2
   rcases runOps_want h with ⟨hw,h⟩ | ⟨hw,h⟩
   ·obtain ⟨e,e',h1,h2,h3,h4⟩:=stepE_wit hfb (hm o (by simp)) h
    exact main _ (.inr ⟨hw,e,e',h1,h2,h3,rfl⟩) h4
   ·exact main _ (.inl ⟨hw,rfl⟩) h

/-! ### What a step keeps -/

omit [Glb] in
theorem look_put {σ:St} {dst:Option Nat} {d:D} {t:Nat} (h:dst≠some t):look (σ.put dst d).tmps t=look σ.tmps t:=by
 cases dst with
 | none=>rfl
 | some u =>
  simp only [St.put,look]
  have:Nat.beq u t=false:=Bool.eq_false_iff.2 fun hh=>h (by rw [Nat.eq_of_beq_eq_true hh])
  rw [this]
omit [Glb] in
theorem look_put_same {σ:St} {d:D} {t:Nat}:look (σ.put (some t) d).tmps t=some d:=by
 simp [St.put,look]

omit [Glb] in
theorem Mld.part {σ:St} {e e':Eff} (h:Mld σ e) (hp:Part e e'):Mld σ e':=by
 cases hp with
 | same=>exact h
 | val b=>trivial
 | res b as=>exact h

omit [Glb] in
theorem boxesAfter_bg (bs:List Box) (d:D) (as:List D):Bg bs (boxesAfter bs d as):=fun i box hb=>by
 unfold boxesAfter
 split
 ·exact .inl hb
 ·rw [freezeIn_get _ _ _ _ _ hb]
  split
  ·exact .inr rfl
  ·exact .inl rfl

omit [Glb] in
theorem put_boxes {σ:St} {dst:Option Nat} {d:D}:(σ.put dst d).boxes=σ.boxes:=by cases dst <;> rfl
omit [Glb] in
theorem put_y {σ:St} {dst:Option Nat} {d:D}:(σ.put dst d).y=σ.y:=by cases dst <;> rfl

omit [Glb] in
theorem effBoxes_bg {σ:St} {e:Eff} (h:Mld σ e):Bg σ.boxes (effBoxes σ e):=by
 cases e with
 | val d=>exact Bg.refl _
 | new b mk=>intro i box hb;left;show (σ.boxes++[b])[i]?=_;rw [List.getElem?_append_left (List.getElem?_eq_some_iff.1 hb).1];exact hb
 | res d as=>exact boxesAfter_bg _ _ _
 | set i b d=>exact h.elim
 | yielded b y=>exact h.elim
 | resS d bs y=>exact h.elim
 | newF b mk L=>exact h.elim
 | gave b y nb=>exact h.elim

omit [Glb] in
theorem Stp.bg {ops:List Oper} {o:Oper} {σ σ':St} (h:Stp T C ops o σ σ'):Bg σ.boxes σ'.boxes:=by
 rcases h with ⟨_,rfl⟩ | ⟨_,e,e',h1,h2,_,rfl⟩
 ·rw [put_boxes];exact Bg.refl _
 ·unfold effSt;rw [put_boxes];exact effBoxes_bg (h1.part h2)
omit [Glb] in
theorem Stp.look {ops:List Oper} {o:Oper} {σ σ':St} (h:Stp T C ops o σ σ') {t:Nat} (ht:o.dst≠some t):look σ'.tmps t=look σ.tmps t:=by
 rcases h with ⟨_,rfl⟩ | ⟨_,e,e',h1,h2,_,rfl⟩
 ·exact look_put ht
 ·have h3:=h1.part h2
  unfold effSt
  refine (look_put ht).trans ?_
  cases e' <;> first | rfl | exact h3.elim
omit [Glb] in
theorem Stp.y {ops:List Oper} {o:Oper} {σ σ':St} (h:Stp T C ops o σ σ'):σ'.y=σ.y:=by
 rcases h with ⟨_,rfl⟩ | ⟨_,e,e',h1,h2,_,rfl⟩
 ·exact put_y
 ·unfold effSt
  rw [put_y]
  have:=h1.part h2
  cases e' <;> first | rfl | exact this.elim

omit [Glb] in
theorem boxesAfter_len (bs:List Box) (d:D) (as:List D):(boxesAfter bs d as).length=bs.length:=by
 unfold boxesAfter;split
 ·rfl
 ·exact freezeIn_len _ _ _

omit [Glb] in
theorem Stp.len {ops:List Oper} {o:Oper} {σ σ':St} (h:Stp T C ops o σ σ'):σ.boxes.length≤σ'.boxes.length∧σ'.boxes.length≤σ.boxes.length+1:=by
 rcases h with ⟨_,rfl⟩ | ⟨_,e,e',h1,h2,_,rfl⟩
 ·rw [put_boxes];omega
 ·unfold effSt
  rw [put_boxes]
  have:=h1.part h2
  cases e' with
  | val d=>simp [effBoxes]
  | new b mk=>simp [effBoxes]
  | res d as=>simp [effBoxes,boxesAfter_len]
  | set i b d=>exact this.elim
  | yielded b y=>exact this.elim
  | resS d bs y=>exact this.elim
  | newF b mk L=>exact this.elim
  | gave b y nb=>exact this.elim

omit [Glb] in
theorem Sim.move {V':Nat→Prop} {σ':St} (h:Sim cx V σ β I S N a w) (ht:∀ t,V' t→V t∧look σ'.tmps t=look σ.tmps t) (hb:Bg σ.boxes σ'.boxes) (hy:σ'.y=σ.y):Sim cx V' σ' β I S N a w :=
 { h with
   tm:=fun t d hV hl=>h.tm t d (ht t hV).1 ((ht t hV).2 ▸ hl)
   j:=by rw [hy];exact h.j
   bx:=fun i b hβ=>by
    obtain ⟨box,h1,h2⟩:=h.bx i b hβ
    rcases hb i box h1 with h3 | h3
    ·exact ⟨box,h3,h2⟩
    ·exact ⟨_,h3,by cases box <;> exact h2⟩
   clear:=fun i b R box hβ hR hbox hf=>by
    obtain ⟨box0,h1,h2⟩:=h.bx i b hβ
    rcases hb i box0 h1 with h3 | h3
    ·rw [hbox] at h3;cases h3
     exact h.clear i b R _ hβ hR h1 hf
    ·rw [hbox] at h3;cases h3
     rw [Box.freeze_fz] at hf;cases hf }

omit [Glb] in
theorem Sim.fill {V':Nat→Prop} (h:Sim cx V σ β I S N a w) {dst:Option Nat} {v:Value} (hd:∀ t,dst=some t→t<N) (hV:∀ t,V' t→dst=some t∨V t)
    (hr:∀ t d,dst=some t→look σ.tmps t=some d→Rel I β v d):Sim cx V' σ β I S N (a.put dst v) w:=by
  cases dst with
  | none=>exact { h with tm:=fun t d ht hl=>h.tm t d ((hV t ht).resolve_left (by simp)) hl }
  | some u =>
   refine { h with tm:=?_,sz:=by simp [Act.put,h.sz],marks:=h.marks,pres:=h.pres,dn:=h.dn,nd:=h.nd }
   intro t d ht hl
   by_cases hut:u=t
   ·subst hut
    exact ⟨v,by simp [Act.put,h.sz,hd u rfl],hr u d rfl hl⟩
   ·obtain ⟨x,hx,hrx⟩:=h.tm t d ((hV t ht).resolve_left (by simpa using hut)) hl
    exact ⟨x,by simp only [Act.put];rw [Array.getElem?_setIfInBounds_ne hut];exact hx,hrx⟩

end
end Go.V

namespace Go.V
open Go.RowKit

inductive Behind (ops:Array Oper):Oper→Nat→Prop
 | edge {o:Oper} {j:Nat} (h:∃ e∈o.after.toList,e.on=j∧Region.binds .any e=true):Behind ops o j
 | via {o ok:Oper} {k j:Nat} (h:∃ e∈o.after.toList,e.on=k∧Region.binds .any e=true) (hk:ops[k]?=some ok) (hj:Behind ops ok j):Behind ops o j

structure DrawB (ops:Array Oper) (m:Nat):Prop where
 le:m≤ops.size
 mild:∀ (i:Nat) (o:Oper),i<m→ops[i]?=some o→V.mild o=true∨isApp o=true
 edge:∀ (i:Nat) (o:Oper) (e:Edge),ops[i]?=some o→e∈o.after.toList→Region.binds .any e=true→e.on<i
 guard:∀ (i:Nat) (o:Oper) (g:Nat) (want:Bool),ops[i]?=some o→o.guard=some (g,want)→g<i
 apart:∀ (i j:Nat) (oi oj:Oper) (t:Nat),i<m→j<m→ops[i]?=some oi→ops[j]?=some oj→oj.dst=some t →
  (Operand.tmp t∈oi.op.operands.toList→j<i∧∃ e∈oi.after.toList,e.on=j∧Region.binds .any e=true)∧(i=j∨oi.dst≠some t)
 guardEdge:∀ (i:Nat) (oi:Oper) (g:Nat) (want:Bool),i<m→ops[i]?=some oi→oi.guard=some (g,want)→∃ e∈oi.after.toList,e.on=g∧Region.binds .any e=true

structure DrawOK (ops:Array Oper) (m:Nat):Prop extends DrawB ops m where
 tail:∀ (i:Nat) (o:Oper) (j:Nat),m≤i→ops[i]?=some o→j<i→Behind ops o j

theorem hasEdge_spec {o:Oper} {j:Nat} (h:hasEdge o j=true):∃ e∈o.after.toList,e.on=j∧Region.binds .any e=true:=by
 unfold hasEdge at h
 obtain ⟨e,he,h⟩:=List.any_eq_true.1 h
 simp only [Bool.and_eq_true] at h
 refine ⟨e,he,Nat.eq_of_beq_eq_true h.1,?_⟩
 have h2:=h.2
 unfold Region.binds
 cases hg:e.ground <;> rw [hg] at h2 <;> first | rfl | cases h2

theorem Behind.snoc {ops:Array Oper} {o os:Oper} {s j:Nat} (h:Behind ops o s) (hs:ops[s]?=some os) (he:∃ e∈os.after.toList,e.on=j∧Region.binds .any e=true):Behind ops o j:=by
 induction h with
 | edge h=>exact .via h hs (.edge he)
 | via h hk _ ih=>exact .via h hk (ih hs)

theorem behind_all {ops:Array Oper} {i:Nat} {o:Oper} (ho:ops[i]?=some o) (h:∀ j,j<i→∃ s,s≤i∧j<s∧hasEdge (ops.toList.getD s default) j=true):∀ (d j:Nat),j<i→i - j≤d→Behind ops o j
 | 0,j,hj,hd=>by omega
 | d+1,j,hj,hd=>by
  obtain ⟨s,h1,h2,h3⟩:=h j hj
  have hsn:s<ops.size:=by have:=(Array.getElem?_eq_some_iff.1 ho).1;omega
  have hos:ops[s]?=some ops[s]:=Array.getElem?_eq_getElem hsn
  have hos':ops.toList[s]?=some ops[s]:=by simp
  rw [List.getD_eq_getElem?_getD,hos'] at h3
  rcases Nat.lt_or_ge s i with hlt | hge
  ·exact (behind_all ho h d s hlt (by omega)).snoc hos (hasEdge_spec h3)
  ·have:s=i:=by omega
   subst this
   rw [ho] at hos
   cases hos
   exact .edge (hasEdge_spec h3)

theorem Behind.lt {ops:Array Oper} {o:Oper} {j:Nat} (h:Behind ops o j) (hedge:∀ (i:Nat) (o:Oper) (e:Edge),ops[i]?=some o→e∈o.after.toList→Region.binds .any e=true→e.on<i):∀ {n:Nat},(∀ e∈o.after.toList,Region.binds .any e=true→e.on<n)→j<n:=by
 induction h with
 | edge h=>intro n hn;obtain ⟨e,he,rfl,hb⟩:=h;exact hn e he hb
 | via h hk _ ih =>
  intro n hn
  obtain ⟨e,he,rfl,hb⟩:=h
  have h1:=hn e he hb
  exact ih fun e' he' hb'=>Nat.lt_trans (hedge _ _ e' hk he' hb') h1

theorem Behind.listed {ops:Array Oper} {o:Oper} {j:Nat} (h:Behind ops o j) {L:Nat→Prop} (hdown:∀ (i:Nat) (o:Oper) (e:Edge),ops[i]?=some o→L i→e∈o.after.toList→Region.binds .any e=true→L e.on):(∀ e∈o.after.toList,Region.binds .any e=true→L e.on)→L j:=by
 induction h with
 | edge h=>intro hn;obtain ⟨e,he,rfl,hb⟩:=h;exact hn e he hb
 | via h hk _ ih =>
  intro hn
  obtain ⟨e,he,rfl,hb⟩:=h
  have h1:=hn e he hb
  exact ih fun e' he' hb'=>hdown _ _ e' hk h1 he' hb'

theorem takeWhile_get {ops:List Oper}:∀ {i:Nat} {o:Oper},i<(ops.takeWhile mild).length→ops[i]?=some o→mild o=true:=by
 induction ops with
 | nil=>intro i o h;simp at h
 | cons x r ih =>
  intro i o h ho
  rw [List.takeWhile_cons] at h
  split at h
  ·rename_i hx
   cases i with
   | zero=>simp at ho;subst ho;exact hx
   | succ i=>exact ih (by simpa using h) (by simpa using ho)
  ·simp at h


theorem okDrawAt_spec {ops:Array Oper} {m:Nat} (hm:m≤(ops.toList.takeWhile mild).length) (h:okDrawAt ops.toList m=true):DrawOK ops m:=by
 have hle:(ops.toList.takeWhile mild).length≤ops.size:=by
  have:=List.takeWhile_prefix (p:=mild) (l:=ops.toList) |>.length_le
  simpa using this
 have hget:∀ {i o},ops[i]?=some o→ops.toList.getD i default=o:=fun {i o} ho=>by
  have:ops.toList[i]?=some o:=by simpa using ho
  rw [List.getD_eq_getElem?_getD,this];rfl
 unfold okDrawAt at h
 simp only [Bool.and_eq_true,List.all_eq_true,List.mem_range,Bool.or_eq_true] at h
 obtain ⟨h1,h2⟩:=h
 have hlt:∀ {i o},ops[i]?=some o→i<ops.toList.length:=fun {i o} ho=>by
  have:=(Array.getElem?_eq_some_iff.1 ho).1;simpa using this
 refine ⟨⟨Nat.le_trans hm hle,fun i o hi ho=>.inl (takeWhile_get (Nat.lt_of_lt_of_le hi hm) (by simpa using ho)),?_,?_,?_,?_⟩,?_⟩
 ·intro i o e ho he hb
  rcases (h1 i (hlt ho)).1.1 e (by rw [hget ho];exact he) with h | h
  ·exact Nat.blt_eq ▸ h
  ·exfalso
   unfold bindsB at h
   unfold Region.binds at hb
   cases hg:e.ground <;> rw [hg] at h hb <;> first | (simp at h;done) | (simp at hb;done)
 ·intro i o g want ho hg
  have:=(h1 i (hlt ho)).1.2
  rw [hget ho,hg] at this
  exact Nat.blt_eq ▸ this
 ·intro i j oi oj t hi hj hoi hoj hd
  have:=(h2 i hi).1 j hj
  rw [hget hoi,hget hoj,hd] at this
  simp only [Bool.and_eq_true,Bool.or_eq_true,Bool.not_eq_true'] at this
  obtain ⟨h3,h4⟩:=this
  refine ⟨fun hin=>?_,?_⟩
  ·rcases h3 with h3 | h3
   ·exfalso
    have:(tmpsOf oi).contains t=true:=by
     rw [List.contains_iff_mem]
     exact List.mem_filterMap.2 ⟨.tmp t,hin,rfl⟩
    rw [this] at h3;cases h3
   ·exact ⟨Nat.blt_eq ▸ h3.1,hasEdge_spec h3.2⟩
  ·rcases h4 with h4 | h4
   ·exact .inl (Nat.eq_of_beq_eq_true h4)
   ·refine .inr fun e=>?_
    rw [e] at h4
    simp at h4
 ·intro i oi g want hi hoi hg
  have:=(h2 i hi).2
  rw [hget hoi,hg] at this
  exact hasEdge_spec this
 ·intro i o j hi ho hj
  rcases (h1 i (hlt ho)).2 with hh | hh
  ·have:i<_:=Nat.blt_eq ▸ hh
   omega
  ·refine behind_all ho (fun k hk=>?_) i j hj (by omega)
   obtain ⟨s,hs,h3⟩:=List.any_eq_true.1 (hh k hk)
   rw [List.mem_range] at hs
   simp only [Bool.and_eq_true] at h3
   exact ⟨s,by omega,Nat.blt_eq ▸ h3.1,h3.2⟩

theorem okDraw_spec {ops:Array Oper} (h:okDraw ops.toList=true):∃ m,m≤(ops.toList.takeWhile mild).length∧DrawOK ops m:=by
 unfold okDraw at h
 rw [Bool.or_eq_true] at h
 rcases h with h | h
 ·exact ⟨_,Nat.le_refl _,okDrawAt_spec (Nat.le_refl _) h⟩
 · have main:∀ l:List Oper,(l.takeWhile fun o=>mild o && !(isAssign o)).length≤(l.takeWhile mild).length:=by
     intro l
     induction l with
     | nil=>exact Nat.le_refl _
     | cons x r ih =>
      rw [List.takeWhile_cons,List.takeWhile_cons]
      cases hx:mild x with
      | false=>simp
      | true =>
       cases hy:isAssign x with
       | true=>simp
       | false=>simp;exact ih
   exact ⟨_,main _,okDrawAt_spec (main _) h⟩

theorem getD_true_false {l:Array Bool} {i:Nat} (h:l.getD i false=true):l.getD i true=true:=by
 rcases Nat.lt_or_ge i l.size with h' | h'
 ·simp [h'] at h ⊢;exact h
 ·simp [Array.getElem?_eq_none h'] at h

theorem reify_lt {bs:List Box}:∀ (n:Nat) {d d':D},reify bs n d=some d'→∀ i,i∈touch bs n d→i<bs.length:=by
 intro n
 induction n with
 | zero=>intro d d' h;cases h
 | succ n ih =>
  intro d d' h i hi
  have list:∀ {ds es:List D},mapO (reify bs n) ds=some es→i∈ds.flatMap (touch bs n)→i<bs.length:=fun {ds es} hm hi=>by
   obtain ⟨d,hd,hi⟩:=List.mem_flatMap.1 hi
   obtain ⟨e,he⟩:=mapO_mem hm d hd
   exact ih he i hi
  cases d with
  | agg cs =>
   simp only [reify] at h
   cases hm:mapO (reify bs n) cs with
   | none=>rw [hm] at h;cases h
   | some l=>exact list hm hi
  | tup cs =>
   simp only [reify] at h
   cases hm:mapO (reify bs n) cs with
   | none=>rw [hm] at h;cases h
   | some l=>exact list hm hi
  | clo fn fs cs =>
   simp only [reify] at h
   cases hm:mapO (reify bs n) fs with
   | none=>rw [hm] at h;cases h
   | some l =>
    rw [hm] at h
    cases hm':mapO (reify bs n) cs with
    | none=>rw [hm'] at h;cases h
    | some l' =>
     simp only [touch,List.mem_append] at hi
     exact hi.elim (list hm) (list hm')
  | loc j off | aloc j off =>
   simp only [reify] at h
   cases hbi:bs[j]? with
   | none=>rw [hbi] at h;cases h
   | some box =>
    rw [hbi] at h
    cases box with
    | rows=>cases h
    | map=>cases h
    | siter=>cases h
    | miter=>cases h
    | flat fz cells =>
     simp only at h
     cases hm:mapO (reify bs n) (cells.drop off) with
     | none=>rw [hm] at h;cases h
     | some l =>
      simp only [touch,hbi,List.mem_cons] at hi
      rcases hi with rfl | hi
      ·exact (List.getElem?_eq_some_iff.1 hbi).1
      ·exact list hm hi
  | sl j g off len =>
   simp only [reify] at h
   cases hbi:bs[j]? with
   | none=>rw [hbi] at h;cases h
   | some box =>
    simp only [touch,List.mem_singleton] at hi
    subst hi
    exact (List.getElem?_eq_some_iff.1 hbi).1
  | mloc j =>
   simp only [reify] at h
   cases hbi:bs[j]? with
   | none=>rw [hbi] at h;cases h
   | some box =>
    simp only [touch,List.mem_singleton] at hi
    subst hi
    exact (List.getElem?_eq_some_iff.1 hbi).1
  | und | skp | yld | rloc | sit | asl=>cases h
  | _=>simp [touch] at hi

theorem reifyL_lt {bs:List Box} {ds es:List D} (h:reifyL bs ds=some es):∀ i,i∈ds.flatMap (touch bs fuel)→i<bs.length:=fun i hi=>by
 obtain ⟨d,hd,hi⟩:=List.mem_flatMap.1 hi
 obtain ⟨e,he⟩:=mapO_mem h d hd
 exact reify_lt fuel he i hi

section
variable {P:Program} [Glb] {sh:Kinds} {ish:Nat→Bool} {T:Nat→Option TI} {C:Ctr} {cx:Cx} {V:Nat→Prop} {σ:St} {β:BE} {I:Imm} {S:Nat→Prop} {N:Nat} {a:Act} {w:World}

structure Run (T:Nat→Option TI) (C:Ctr) (ops:Array Oper) (m:Nat) (σs:Nat→St):Prop where
 step:∀ (i:Nat) (o:Oper),i<m→ops[i]?=some o→Stp T C ops.toList o (σs i) (σs (i+1))

variable {ops:Array Oper} {m:Nat} {σs:Nat→St}

omit [Glb] in
theorem Run.bg (h:Run T C ops m σs) (hm:m≤ops.size):∀ (k i:Nat),i+k≤m→Bg (σs i).boxes (σs (i+k)).boxes
 | 0,i,_=>Bg.refl _
 | k+1,i,hk=>(h.bg hm k i (by omega)).trans ((h.step (i+k) _ (by omega) (Array.getElem?_eq_getElem (by omega))).bg)

omit [Glb] in
theorem Run.y (h:Run T C ops m σs) (hm:m≤ops.size):∀ (k i:Nat),i+k≤m→(σs (i+k)).y=(σs i).y
 | 0,i,_=>rfl
 | k+1,i,hk=>((h.step (i+k) _ (by omega) (Array.getElem?_eq_getElem (by omega))).y).trans (h.y hm k i (by omega))

omit [Glb] in
theorem Run.len (h:Run T C ops m σs) (hm:m≤ops.size):∀ (k i:Nat),i+k≤m→(σs i).boxes.length≤(σs (i+k)).boxes.length
 | 0,i,_=>Nat.le_refl _
 | k+1,i,hk=>Nat.le_trans (h.len hm k i (by omega)) ((h.step (i+k) _ (by omega) (Array.getElem?_eq_getElem (by omega))).len).1

omit [Glb] in
theorem Run.look (h:Run T C ops m σs) (hm:m≤ops.size) {t:Nat}:∀ (k i:Nat),i+k≤m→(∀ (j:Nat) (o:Oper),i≤j→j<i+k→ops[j]?=some o→o.dst≠some t)→look (σs (i+k)).tmps t=look (σs i).tmps t
 | 0,i,_,_=>rfl
 | k+1,i,hk,hd=>((h.step (i+k) _ (by omega) (Array.getElem?_eq_getElem (by omega))).look (hd (i+k) _ (by omega) (by omega) (Array.getElem?_eq_getElem (by omega)))).trans
     (h.look hm k i (by omega) fun j o h1 h2=>hd j o h1 (by omega))

omit [Glb] in
theorem Run.made (h:Run T C ops m σs) (hm:m≤ops.size) (b:Nat):∀ k,k≤m→b<(σs k).boxes.length→b<(σs 0).boxes.length∨∃ i,i<k∧(σs i).boxes.length≤b∧b<(σs (i+1)).boxes.length
 | 0,_,hb=>.inl hb
 | k+1,hk,hb=>by
  by_cases hb':b<(σs k).boxes.length
  ·rcases h.made hm b k (by omega) hb' with h | ⟨i,h1,h2⟩
   ·exact .inl h
   ·exact .inr ⟨i,by omega,h2⟩
  ·exact .inr ⟨k,by omega,by omega,hb⟩

def Vl (ops:Array Oper) (m:Nat) (listed:Array Bool) (t:Nat):Prop:=∀ (j:Nat) (o:Oper),j<m→ops[j]?=some o→listed.getD j true=false→o.dst≠some t

def Bl (σs:Nat→St) (m:Nat) (listed:Array Bool) (β:BE):Prop :=
 ∀ b,(β b).isSome=true↔(b<(σs 0).boxes.length∨∃ i,i<m∧listed.getD i true=true∧(σs i).boxes.length≤b∧b<(σs (i+1)).boxes.length)


theorem draw_step (hT:TOK P T) {F:Fence} (hF:FW F) (hcx:cx.Ok) (hd:DrawB ops m) (hr:Run T (CD P sh) ops m σs) (hdst:∀ o∈ops.toList,∀ t,o.dst=some t→t<N) {n:Nat} {listed:Array Bool} (hls:listed.size=ops.size)
    (hs:Sim cx (Vl ops m listed) (σs m) β I S N a w) (hb:Bl σs m listed β) {i:Nat} (him:i<m) (hri:i∈Region.ready .any ops listed) {next:Act→World→Prop} {Q:Exit→Act→World→Prop}
    (hnext:∀ β' I' a' w',Sim cx (Vl ops m (listed.setIfInBounds i true)) (σs m) β' I' S N a' w'→Bl σs m (listed.setIfInBounds i true) β'→next a' w'):wpOpIn F n P ops Q i next a w:=by
  obtain ⟨hun,o,ho,hedges⟩:=mem_ready.1 hri
  have hmem:o∈ops.toList:=List.mem_of_getElem? (by simpa using ho)
  have hdo:=hdst o hmem
  have hst:=hr.step i o him ho
  have hbgi:Bg (σs i).boxes (σs m).boxes:=by have:=hr.bg hd.le (m - i) i (by omega);rwa [show i+(m - i)=m by omega] at this
  have hbgi1:Bg (σs (i+1)).boxes (σs m).boxes:=by have:=hr.bg hd.le (m - (i+1)) (i+1) (by omega);rwa [show i+1+(m - (i+1))=m by omega] at this
  -- a slot that is read holds what it held then
  have hkeep:∀ t,(∀ (j:Nat) (oj:Oper),i≤j→j<m→ops[j]?=some oj→oj.dst≠some t)→look (σs m).tmps t=look (σs i).tmps t:=fun t ht=>by
   have:=hr.look hd.le (t:=t) (m - i) i (by omega) (fun j oj h1 h2=>ht j oj h1 (by omega))
   rwa [show i+(m - i)=m by omega] at this
  have hlistedE:∀ j,(∃ e∈o.after.toList,e.on=j∧Region.binds .any e=true)→listed.getD j true=true:=by
   rintro j ⟨e,he,rfl,hbd⟩
   exact getD_true_false (hedges e (by simpa using he) hbd)
  have hread:∀ t,Operand.tmp t∈o.op.operands.toList→Vl ops m listed t∧look (σs m).tmps t=look (σs i).tmps t:=by
   intro t ht
   refine ⟨fun j oj hj hoj hun' hdj=>?_,hkeep t fun j oj h1 h2 hoj hdj=>?_⟩
   ·have:=hlistedE j (((hd.apart i j o oj t him hj ho hoj hdj).1 ht).2)
    rw [this] at hun';cases hun'
   ·have:=((hd.apart i j o oj t him h2 ho hoj hdj).1 ht).1
    omega
  have hguard:∀ (j:Nat) (want:Bool) (oj:Oper) (t:Nat),o.guard=some (j,want)→ops[j]?=some oj→oj.dst=some t→Vl ops m listed t∧look (σs m).tmps t=look (σs i).tmps t:=by
   intro j want oj t hg hoj hdj
   have hji:=hd.guard i o j want ho hg
   have hlj:=hlistedE j (hd.guardEdge i o j want him ho hg)
   refine ⟨fun k ok hk hok hunk hdk=>?_,hkeep t fun k ok h1 h2 hok hdk=>?_⟩
   ·rcases (hd.apart k j ok oj t hk (by omega) hok hoj hdj).2 with rfl | h
    ·rw [hlj] at hunk;cases hunk
    ·exact h hdk
   ·rcases (hd.apart k j ok oj t h2 (by omega) hok hoj hdj).2 with rfl | h
    ·omega
    ·exact h hdk
  have hwant:wantD ops.toList (σs m) o=wantD ops.toList (σs i) o:=by
   unfold wantD
   cases hg:o.guard with
   | none=>rfl
   | some jw =>
    obtain ⟨j,want⟩:=jw
    have e1:guardUnd ops.toList (σs m) j=guardUnd ops.toList (σs i) j∧guardOf ops.toList (σs m) j=guardOf ops.toList (σs i) j:=by
     unfold guardUnd guardOf
     cases hoj:ops.toList[j]? with
     | none=>exact ⟨rfl,rfl⟩
     | some oj =>
      simp only
      cases hdj:oj.dst with
      | none=>exact ⟨rfl,rfl⟩
      | some t =>
       simp only
       rw [(hguard j want oj t hg (by simpa using hoj) hdj).2]
       exact ⟨rfl,rfl⟩
    simp only
    rw [e1.1,e1.2]
  have hVnext:∀ t,Vl ops m (listed.setIfInBounds i true) t→o.dst=some t∨Vl ops m listed t:=by
   intro t ht
   by_cases hdt:o.dst=some t
   ·exact .inl hdt
   ·refine .inr fun j oj hj hoj hun'=>?_
    by_cases hji:j=i
    ·subst hji;rw [ho] at hoj;cases hoj;exact hdt
    ·exact ht j oj hj hoj (by rw [getD_set_ne true (Ne.symm hji)];exact hun')
  have hil:i<listed.size:=by rw [hls];exact (Array.getElem?_eq_some_iff.1 ho).1
  have hset:∀ j,(listed.setIfInBounds i true).getD j true=true↔(j=i∨listed.getD j true=true):=by
   intro j
   by_cases hji:j=i
   ·subst hji;simp [hil]
   ·rw [getD_set_ne true (Ne.symm hji)];simp [hji]
  have hmono:∀ {j k},j≤k→k≤m→(σs j).boxes.length≤(σs k).boxes.length:=fun {j k} h1 h2=>by
   have:=hr.len hd.le (k - j) j (by omega)
   rwa [show j+(k - j)=k by omega] at this
  -- the boxes,where none is made
  have hBsame:(σs (i+1)).boxes.length=(σs i).boxes.length→Bl σs m (listed.setIfInBounds i true) β:=by
   intro heq b
   rw [hb b]
   constructor
   ·rintro (h | ⟨j,h1,h2,h3⟩)
    ·exact .inl h
    ·exact .inr ⟨j,h1,(hset j).2 (.inr h2),h3⟩
   ·rintro (h | ⟨j,h1,h2,h3,h4⟩)
    ·exact .inl h
    ·rcases (hset j).1 h2 with rfl | h2
     ·omega
     ·exact .inr ⟨j,h1,h2,h3,h4⟩
  unfold wpOpIn
  simp only [ho]
  have hslot:∀ t,o.dst=some t→look (σs m).tmps t=look (σs (i+1)).tmps t:=fun t ht=>by
   have:=hr.look hd.le (t:=t) (m - (i+1)) (i+1) (by omega) (fun j oj h1 h2 hoj hdj=>by
    rcases (hd.apart j i oj o t (by omega) him hoj ho ht).2 with h | h
    ·omega
    ·exact h hdj)
   rwa [show i+1+(m - (i+1))=m by omega] at this
  rcases hst with ⟨hw,hσ⟩ | ⟨hw,e,e',hml,hpart,hwit,hσ⟩
  ·
   have:=hs.want (fun j want oj t hg hoj hdj=>(hguard j want oj t hg hoj hdj).1) (hwant.trans hw)
   rw [if_neg (by rw [this];simp)]
   refine ⟨fun f _=>hF.fn f,hnext β I _ w (hs.fill hdo hVnext fun t d hdt hl=>?_) (hBsame (by rw [hσ,put_boxes]))⟩
   rw [hslot t hdt,hσ,hdt,look_put_same] at hl
   cases hl
   exact .skp
  ·have:=hs.want (fun j want oj t hg hoj hdj=>(hguard j want oj t hg hoj hdj).1) (hwant.trans hw)
   rw [if_pos this]
   have hle:Le o (σs i) (σs m):=⟨fun x hx=>by
    cases x with
    | tmp t=>exact (hread t hx).2
    | _=>rfl,hbgi⟩
   have hslotv:∀ t d,o.dst=some t→look (σs m).tmps t=some d→d=effVal (σs i) e':=fun t d hdt hl=>by
    rw [hslot t hdt,hσ,hdt] at hl
    unfold effSt at hl
    rw [look_put_same] at hl
    cases hl;rfl
   refine mildA_wp hT hF hs (fun t ht=>(hread t ht).1) (hd.mild i o him ho) hcx (k:=fun e₁=>e₁=e) (hwit _ hle _ rfl) ⟨fun b y hh=>by rw [← hh] at hml;exact hml,fun b y nb hh=>by rw [← hh] at hml;exact hml⟩ (fun d bs y hh=>by rw [← hh] at hml;exact hml) (fun b mk L hh=>by rw [← hh] at hml;exact hml) (fun i b d hh=>by rw [← hh] at hml;exact hml) ?_ ?_ ?_
   ·
    rintro d v rfl hrel
    refine hnext β I _ w (hs.fill hdo hVnext fun t d' hdt hl=>?_) (hBsame ?_)
    ·rw [hslotv t d' hdt hl]
     cases hpart with
     | same=>exact hrel
     | val b=>cases hrel;cases b <;> first | exact .tt | exact .ff
    ·rw [hσ];unfold effSt;rw [put_boxes]
     cases hpart <;> rfl
   ·
    rintro b mk v w' bi rfl hRw hkeep hbr hfz hrel
    have he':e'=.new b mk:=by cases hpart;rfl
    subst he'
    have hlen:(σs (i+1)).boxes=(σs i).boxes++[b]:=by rw [hσ];unfold effSt;rw [put_boxes];rfl
    have hbox:∃ b',(σs m).boxes[(σs i).boxes.length]?=some b'∧BoxRel I β w' bi b':=by
     rcases hbgi1 (σs i).boxes.length b (by rw [hlen];simp) with h | h
     ·exact ⟨_,h,hbr⟩
     ·exact ⟨_,h,by cases b <;> exact hbr⟩
    obtain ⟨b',hb',hbr'⟩:=hbox
    have hnone:β (σs i).boxes.length=none:=by
     cases hβ:β (σs i).boxes.length with
     | none=>rfl
     | some c =>
      exfalso
      rcases (hb _).1 (by rw [hβ];rfl) with h | ⟨j,h1,h2,h3,h4⟩
      ·have:=hmono (j:=0) (k:=i) (by omega) (by omega);omega
      ·rcases Nat.lt_trichotomy j i with h | rfl | h
       ·have:=hmono (j:=j+1) (k:=i) (by omega) (by omega);omega
       ·rw [h2] at hun;cases hun
       ·have:=hmono (j:=i+1) (k:=j) (by omega) (by omega)
        rw [hlen] at this
        simp at this
        omega
    obtain ⟨hsim,hleβ⟩:=hs.new hcx hkeep (bs:=(σs m).boxes) (n:=(σs i).boxes.length) hnone hb' (fun _ _=>rfl) hRw hbr'
    refine hnext _ I _ w' (hsim.fill hdo hVnext fun t d' hdt hl=>?_) ?_
    ·rw [hslotv t d' hdt hl]
     exact hrel _ _ (by simp)
    ·intro k
     by_cases hk:k=(σs i).boxes.length
     ·subst hk
      simp only [if_true,Option.isSome_some,true_iff]
      exact .inr ⟨i,him,(hset i).2 (.inl rfl),Nat.le_refl _,by rw [hlen];simp⟩
     ·simp only [if_neg hk]
      rw [hb k]
      constructor
      ·rintro (h | ⟨j,h1,h2,h3⟩)
       ·exact .inl h
       ·exact .inr ⟨j,h1,(hset j).2 (.inr h2),h3⟩
      ·rintro (h | ⟨j,h1,h2,h3,h4⟩)
       ·exact .inl h
       ·rcases (hset j).1 h2 with rfl | h2
        ·rw [hlen] at h4;simp at h4;omega
        ·exact .inr ⟨j,h1,h2,h3,h4⟩
   ·
    rintro d as v w' I' rfl hkeep hg hag hrel
    obtain ⟨rs,hrs⟩:=hml
    have htouch:=(reifyL_more hbgi hrs).2
    have hlt:=reifyL_lt hrs
    obtain ⟨d',he'⟩:∃ d',e'=.res d' as∧(d'=d∨∃ b,d=.bool b∧d'=bd b):=by
     cases hpart with
     | same=>exact ⟨_,rfl,.inl rfl⟩
     | res b=>exact ⟨_,rfl,.inr ⟨b,rfl,rfl⟩⟩
    obtain ⟨rfl,hdd⟩:=he'
    have hboxes:(σs (i+1)).boxes=boxesAfter (σs i).boxes d' as:=by rw [hσ];unfold effSt;rw [put_boxes];rfl
    obtain ⟨I'',hsim,hrel',_⟩:=hs.res hcx hkeep hg hag hrel (by
     by_cases hp:plain d=true
     ·exact .inl hp
     ·refine .inr fun x box hx hbx=>?_
      rw [htouch] at hx
      have hp':plain d'≠true:=by
       rcases hdd with rfl | ⟨b,rfl,rfl⟩
       ·exact hp
       ·exact absurd rfl hp
      have hxl:=hlt x hx
      have h1:(σs (i+1)).boxes[x]?=some ((σs i).boxes[x]).freeze:=by
       rw [hboxes]
       unfold boxesAfter
       split
       ·rename_i h;exact absurd h hp'
       ·rw [freezeIn_get _ _ _ _ _ (List.getElem?_eq_getElem hxl)]
        have:(as.flatMap (touch (σs i).boxes fuel)).contains (0+x)=true:=by
         rw [Nat.zero_add];simpa using hx
        rw [this]
      rcases hbgi1 x _ h1 with h2 | h2 <;> (rw [hbx] at h2;cases h2;exact Box.freeze_fz _))
    refine hnext β I'' _ w' (hsim.fill hdo hVnext fun t d₁ hdt hl=>?_) (hBsame (by rw [hboxes,boxesAfter_len]))
    rw [hslotv t d₁ hdt hl]
    rcases hdd with rfl | ⟨b,rfl,rfl⟩
    ·exact hrel'
    ·cases hrel';cases b <;> first | exact .tt | exact .ff

end
end Go.V

namespace Go.V
open Go.RowKit

theorem least_nat {p:Nat→Prop}:∀ n,p n→∃ i,p i∧∀ j,j<i→¬ p j:=by
 intro n
 induction n using Nat.strongRecOn with
 | _ n ih =>
  intro h
  by_cases hx:∃ j,j<n∧p j
  ·obtain ⟨j,h1,h2⟩:=hx
   exact ih j h1 h2
  ·exact ⟨n,h,fun j hj hp=>hx ⟨j,hj,hp⟩⟩

theorem getD_ff_tt {l:Array Bool} {i:Nat} (hi:i<l.size) (h:l.getD i true=true):l.getD i false=true:=by
 simp [hi] at h ⊢;exact h
theorem getD_not {l:Array Bool} {i:Nat} (h:¬ l.getD i true=false):l.getD i true=true:=by
 cases hh:l.getD i true with
 | true=>rfl
 | false=>exact absurd hh h

theorem count_set {l:Array Bool} {i:Nat} (hi:i<l.size) (h:l.getD i true=false):(l.setIfInBounds i true).toList.count false+1=l.toList.count false:=by
 rw [Array.toList_setIfInBounds,List.count_set (by simpa using hi)]
 have hv:l.toList[i]'(by simpa using hi)=false:=by simpa [hi] using h
 have hpos:0<l.toList.count false:=List.count_pos_iff.2 (hv ▸ List.getElem_mem _)
 rw [hv]
 simp only [show (false==false)=true from rfl,show (true==false)=false from rfl,if_true,Bool.false_eq_true,if_false]
 omega

theorem count_zero {l:Array Bool} (h:l.toList.count false=0) {i:Nat} (hi:i<l.size):l.getD i true=true:=by
 have:=List.count_eq_zero.1 h
 cases hh:l.getD i true with
 | true=>rfl
 | false =>
  refine absurd (?_:false∈l.toList) this
  have hv:l.toList[i]'(by simpa using hi)=false:=by simpa [hi] using hh
  exact hv ▸ List.getElem_mem _

section
variable {P:Program} [Glb] {sh:Kinds} {ish:Nat→Bool} {T:Nat→Option TI} {cx:Cx} {σ:St} {N:Nat} {a:Act} {w:World} {ops:Array Oper} {m:Nat}

omit [Glb] in
theorem FS.want (hs:FS cx σ N a w) {o:Oper} {b:Bool} (h:wantD ops.toList σ o=some b):Region.wanted o (yielded ops a.tmps)=b:=by
 obtain ⟨β,I,S,hs,_⟩:=hs
 exact hs.want (fun _ _ _ _ _ _ _=>trivial) h

theorem runOps_step (hT:TOK P T) {F:Fence} (hF:FW F) (hcx:cx.Ok) (hy:YieldOK P cx) (hs:FS cx σ N a w) {n i:Nat} {o:Oper} (ho:ops[i]?=some o) (hdst:∀ t,o.dst=some t→t<N) {rest:List Oper} {fb:Eff→Bool} {K:St→Prop} (hlo:∀ b y nb,fb (.gave b y nb)=false→cx.lo≤nb)
    (hk:runOps T (CD P sh) fb ops.toList (o::rest) i σ K) {next:Act→World→Prop} {Q:Exit→Act→World→Prop}
    (hnext:∀ σ' a' w',runOps T (CD P sh) fb ops.toList rest (i+1) σ' K→FS cx σ' N a' w'→next a' w'):wpOpIn F n P ops Q i next a w:=by
  unfold wpOpIn
  simp only [ho]
  rcases runOps_want hk with ⟨hw,h⟩ | ⟨hw,h⟩
  ·rw [if_pos (hs.want hw)]
   exact stepE_sound hT hF hcx hy hs hdst hlo h hnext
  ·rw [if_neg (by rw [hs.want hw];simp)]
   exact ⟨fun f _=>hF.fn f,hnext _ _ w h (hs.skip hdst)⟩

theorem draw_tail (hT:TOK P T) {F:Fence} (hF:FW F) (hcx:cx.Ok) (hy:YieldOK P cx) (hd:DrawOK ops m) (hdst:∀ o∈ops.toList,∀ t,o.dst=some t→t<N) {n:Nat} {K:St→Prop} {Q:Exit→Act→World→Prop} {fb:Eff→Bool} (hfb:∀ b y nb,fb (.gave b y nb)=true)
    (hQ:∀ σ' a' w',K σ'→FS cx σ' N a' w'→Q .normal a' w') :
    ∀ (rest:List Oper) (i:Nat) (σ:St) (a:Act) (w:World) (fuel:Nat) (listed:Array Bool),ops.toList.drop i=rest→m≤i→listed.size=ops.size→(∀ j,j<ops.size→(listed.getD j true=true↔j<i))→listed.toList.count false=fuel →
     FS cx σ N a w→runOps T (CD P sh) fb ops.toList rest i σ K→wpAnyIn F n P .any ops Q fuel listed a w:=by
  intro rest
  induction rest with
  | nil =>
   intro i σ a w fuel listed hdr hi hsz hl hc hs hk
   have hn:ops.size≤i:=by simpa using hdr
   refine wpAnyIn_done ?_ (hQ σ a w hk hs) fuel
   cases hr:Region.ready .any ops listed with
   | nil=>rfl
   | cons x xs =>
    obtain ⟨h0,o,ho,_⟩:=mem_ready.1 (show x∈Region.ready .any ops listed by rw [hr];simp)
    have hx:=(Array.getElem?_eq_some_iff.1 ho).1
    rw [(hl x hx).2 (by omega)] at h0
    cases h0
  | cons o rest ih =>
   intro i σ a w fuel listed hdr hi hsz hl hc hs hk
   have hoi:ops[i]?=some o:=by
    have:(ops.toList.drop i)[0]?=some o:=by rw [hdr];rfl
    simpa using this
   have hrest:ops.toList.drop (i+1)=rest:=by
    have:(ops.toList.drop i).drop 1=rest:=by rw [hdr];rfl
    simpa [List.drop_drop,Nat.add_comm] using this
   have hin:=(Array.getElem?_eq_some_iff.1 hoi).1
   have hun:listed.getD i true=false:=by
    cases h:listed.getD i true with
    | false=>rfl
    | true=>have:=(hl i hin).1 h;omega
   have hil:i<listed.size:=by omega
   have hcs:=count_set hil hun
   have hri:i∈Region.ready .any ops listed:=mem_ready.2 ⟨hun,o,hoi,fun e he hb=>by
    have h1:=hd.edge i o e hoi (by simpa using he) hb
    exact getD_ff_tt (by omega) ((hl e.on (by omega)).2 h1)⟩
   have hone:∀ j,j∈Region.ready .any ops listed→j=i:=by
    intro j hj
    obtain ⟨h0,oj,hoj,hall⟩:=mem_ready.1 hj
    have hjn:=(Array.getElem?_eq_some_iff.1 hoj).1
    rcases Nat.lt_trichotomy j i with h | h | h
    ·rw [(hl j hjn).2 h] at h0;cases h0
    ·exact h
    · have:=(hd.tail j oj i (by omega) hoj h).lt hd.edge (n:=i) fun e he hb=>by
        have h1:=getD_true_false (hall e (by simpa using he) hb)
        have h2:=hd.edge j oj e hoj he hb
        exact (hl e.on (by omega)).1 h1
      omega
   cases fuel with
   | zero=>omega
   | succ fuel =>
    refine ⟨fun h=>by (rw [h] at hri;cases hri),fun j hj=>?_⟩
    obtain rfl:=hone j hj
    refine runOps_step hT hF hcx hy hs hoi (hdst o (List.mem_of_getElem? (by simpa using hoi))) (fun b y nb h=>by rw [hfb] at h;cases h) hk fun σ' a' w' hk' hs'=>?_
    refine ih (j+1) σ' a' w' fuel _ hrest (by omega) (by simpa using hsz) ?_ (by omega) hs' hk'
    intro k hkn
    by_cases hkj:k=j
    ·subst hkj;simp [hil]
    ·rw [getD_set_ne true (Ne.symm hkj),hl k hkn];omega

theorem draw_any (hT:TOK P T) {F:Fence} (hF:FW F) (hcx:cx.Ok) (hy:YieldOK P cx) (hd:DrawOK ops m) (hdst:∀ o∈ops.toList,∀ t,o.dst=some t→t<N) {n:Nat} {K:St→Prop} {Q:Exit→Act→World→Prop} {fb:Eff→Bool} (hfb:∀ b y nb,fb (.gave b y nb)=true)
    (hQ:∀ σ' a' w',K σ'→FS cx σ' N a' w'→Q .normal a' w') {σs:Nat→St} (hr:Run T (CD P sh) ops m σs) (hk:runOps T (CD P sh) fb ops.toList (ops.toList.drop m) m (σs m) K) :
    ∀ (fuel:Nat) (listed:Array Bool) (a:Act) (w:World) (β:BE) (I:Imm) (S:Nat→Prop),listed.size=ops.size→listed.toList.count false=fuel→(∀ i,m≤i→i<ops.size→listed.getD i true=false) →
     (∀ (i:Nat) (o:Oper) (e:Edge),ops[i]?=some o→listed.getD i true=true→e∈o.after.toList→Region.binds .any e=true→listed.getD e.on false=true)→Sim cx (Vl ops m listed) (σs m) β I S N a w→Bl σs m listed β→wpAnyIn F n P .any ops Q fuel listed a w:=by
  have full:∀ {listed:Array Bool} {a:Act} {w:World} {β:BE} {I:Imm} {S:Nat→Prop},(∀ i,i<m→listed.getD i true=true)→Sim cx (Vl ops m listed) (σs m) β I S N a w→Bl σs m listed β→FS cx (σs m) N a w:=by
   intro listed a w β I S hl hs hb
   refine ⟨β,I,S,hs.move (fun t _=>⟨fun j o hj ho hun=>by (rw [hl j hj] at hun;cases hun),rfl⟩) (Bg.refl _) rfl,fun b hbl=>(hb b).2 ?_⟩
   rcases hr.made hd.le b m (Nat.le_refl _) hbl with h | ⟨i,h1,h2⟩
   ·exact .inl h
   ·exact .inr ⟨i,h1,hl i h1,h2⟩
  intro fuel
  induction fuel with
  | zero =>
   intro listed a w β I S hsz hc htail hdown hs hb
   have hall:∀ i,i<ops.size→listed.getD i true=true:=fun i hi=>count_zero hc (by omega)
   have hmn:m=ops.size:=by
    have:=hd.le
    rcases Nat.lt_or_ge m ops.size with h | h
    ·have:=htail m (Nat.le_refl _) h
     rw [hall m h] at this;cases this
    ·omega
   have hfs:=full (fun i hi=>hall i (by omega)) hs hb
   rw [show ops.toList.drop m=[] by rw [hmn];simp] at hk
   refine wpAnyIn_done ?_ (hQ _ _ _ hk hfs) 0
   cases hrd:Region.ready .any ops listed with
   | nil=>rfl
   | cons x xs =>
    obtain ⟨h0,o,ho,_⟩:=mem_ready.1 (show x∈Region.ready .any ops listed by rw [hrd];simp)
    rw [hall x (Array.getElem?_eq_some_iff.1 ho).1] at h0
    cases h0
  | succ fuel ih =>
   intro listed a w β I S hsz hc htail hdown hs hb
   refine ⟨fun hrd=>?_,fun i hi=>?_⟩
   ·
    exfalso
    have:∃ i,i<ops.size∧listed.getD i true=false:=by
     have hpos:0<listed.toList.count false:=by omega
     have hmem:=List.count_pos_iff.1 hpos
     obtain ⟨i,hi,hv⟩:=List.getElem_of_mem hmem
     have hi':i<listed.size:=by simpa using hi
     exact ⟨i,by omega,by simpa [hi'] using hv⟩
    obtain ⟨i,hi⟩:=this
    obtain ⟨j,⟨hj,hun⟩,hmin⟩:=least_nat (p:=fun i=>i<ops.size∧listed.getD i true=false) i hi
    have:j∈Region.ready .any ops listed:=mem_ready.2 ⟨hun,ops[j],Array.getElem?_eq_getElem hj,fun e he hb=>by
     have h1:=hd.edge j _ e (Array.getElem?_eq_getElem hj) (by simpa using he) hb
     exact getD_ff_tt (by omega) (getD_not fun h=>hmin e.on h1 ⟨by omega,h⟩)⟩
    rw [hrd] at this
    cases this
   ·obtain ⟨hun,o,ho,hall⟩:=mem_ready.1 hi
    have hin:=(Array.getElem?_eq_some_iff.1 ho).1
    have hcs:=count_set (l:=listed) (i:=i) (by omega) hun
    rcases Nat.lt_or_ge i m with him | him
    ·refine draw_step hT hF hcx hd.toDrawB hr hdst hsz hs hb him hi fun β' I' a' w' hs' hb'=>?_
     refine ih _ a' w' β' I' S (by simpa using hsz) (by omega) (fun j h1 h2=>?_) (fun j oj e hoj hj he hbd=>getD_set_true ?_) hs' hb'
     ·rw [getD_set_ne true (by omega)]
      exact htail j h1 h2
     ·by_cases hji:j=i
      ·subst hji
       rw [ho] at hoj;cases hoj
       exact hall e (by simpa using he) hbd
      ·rw [getD_set_ne true (Ne.symm hji)] at hj
       exact hdown j oj e hoj hj he hbd
    · have hbefore:∀ j,j<i→listed.getD j true=true:=fun j hj=>by
        exact (hd.tail i o j him ho hj).listed (L:=fun k=>listed.getD k true=true) (fun k ok e' hok hk he' hb'=>getD_true_false (hdown k ok e' hok hk he' hb')) fun e he hb=>getD_true_false (hall e (by simpa using he) hb)
      have him':i=m:=by
       rcases Nat.lt_or_ge m i with h | h
       ·have h1:=hbefore m h
        rw [htail m (Nat.le_refl _) (by omega)] at h1;cases h1
       ·omega
      subst him'
      have hfs:=full hbefore hs hb
      have:=draw_tail hT hF hcx hy hd hdst hfb hQ (ops.toList.drop i) i (σs i) a w (fuel+1) listed rfl (Nat.le_refl _) hsz (fun j hj=>⟨(fun h=>by
       rcases Nat.lt_or_ge j i with h' | h'
       ·exact h'
       ·exfalso;rw [htail j h' hj] at h;exact absurd h (by simp)),fun h=>hbefore j h⟩) hc hfs hk (n:=n) (F:=F)
      exact this.2 i hi

omit [Glb] in
theorem noFb_lo {lo:Nat} (hlo:cx.lo≤lo):∀ b y nb,noFb lo (.gave b y nb)=false→cx.lo≤nb:=fun b y nb h=>by
 unfold noFb at h
 simp only at h
 cases hb:Nat.ble lo nb with
 | true=>exact Nat.le_trans hlo (Nat.le_of_ble_eq_true hb)
 | false=>rw [hb] at h;cases h

theorem region_m (hT:TOK P T) {F:Fence} (hF:FW F) (hcx:cx.Ok) (hy:YieldOK P cx) (hdst:∀ o∈ops.toList,∀ t,o.dst=some t→t<N) (hs:FS cx σ N a w) {n:Nat} {K:St→Prop} {Q:Exit→Act→World→Prop} {fb:Eff→Bool} (hfb:∀ b y nb,fb (.gave b y nb)=true)
    (hQ:∀ σ' a' w',K σ'→FS cx σ' N a' w'→Q .normal a' w') (m:Nat) (_hm:m≤(ops.toList.takeWhile mild).length) (hd:DrawOK ops m)
    (hk:∃ σs:Nat→St,σs 0=σ∧(∀ (j:Nat) (o:Oper),(ops.toList.take m)[j]?=some o→Stp T (CD P sh) ops.toList o (σs j) (σs (j+1)))∧runOps T (CD P sh) fb ops.toList (ops.toList.drop m) m (σs m) K):wpAnyIn F n P .any ops Q ops.size (Array.replicate ops.size false) a { w with drawn:=w.drawn+1 }:=by
  have hsplit:ops.toList=ops.toList.take m++ops.toList.drop m:=(List.take_append_drop m _).symm
  have hml:(ops.toList.take m).length=m:=by rw [List.length_take];have:=hd.le;simp;omega
  obtain ⟨σs,h0,hst,hrest⟩:=hk
  have hr:Run T (CD P sh) ops m σs:=⟨fun i o hi ho=>hst i o (by
   have h1:(ops.toList.take m++ops.toList.drop m)[i]?=some o:=by rw [← hsplit];simpa using ho
   rwa [List.getElem?_append_left (by rw [hml];exact hi)] at h1)⟩
  obtain ⟨β,I,S,hsim,htot⟩:=hs
  have hsim':=hsim.keep hcx (Keep.drew _ w)
  have hbg:Bg σ.boxes (σs m).boxes:=by
   have:=hr.bg hd.le m 0 (by omega)
   rwa [h0,Nat.zero_add] at this
  have hun:∀ j,j<ops.size→(Array.replicate ops.size false).getD j true=false:=fun j hj=>by simp [hj]
  have hmove:Sim cx (Vl ops m (Array.replicate ops.size false)) (σs m) β I S N a { w with drawn:=w.drawn+1 }:=by
   refine hsim'.move (fun t ht=>⟨trivial,?_⟩) hbg ?_
   ·have:=hr.look hd.le (t:=t) m 0 (by omega) (fun j o _ h2 ho=>ht j o (by omega) ho (hun j (Array.getElem?_eq_some_iff.1 ho).1))
    rwa [h0,Nat.zero_add] at this
   ·have:=hr.y hd.le m 0 (by omega)
    rwa [h0,Nat.zero_add] at this
  refine draw_any hT hF hcx hy hd hdst hfb hQ hr hrest ops.size _ a _ β I S (by simp) (by simp) (fun i _ h2=>hun i h2) (fun i o e ho hi=>by rw [hun i (Array.getElem?_eq_some_iff.1 ho).1] at hi;cases hi) hmove ?_
  intro b
  rw [h0]
  constructor
  ·intro h
   exact .inl (hsim.last b h)
  ·rintro (h | ⟨i,h1,h2,_⟩)
   ·exact htot b h
   ·have:=hd.le
    rw [hun i (by omega)] at h2;cases h2

theorem region_sound {lo:Nat} (hlo:cx.lo≤lo) (hT:TOK P T) (hmix:P.follows .mixedOrders=true) {F:Fence} (hF:FW F) (hcx:cx.Ok) (hy:YieldOK P cx) (hdst:∀ o∈ops.toList,∀ t,o.dst=some t→t<N) (hs:FS cx σ N a w) {n id:Nat} {dr:Bool} {K:St→Prop} {Q:Exit→Act→World→Prop}
    (hQ:∀ σ' a' w',K σ'→FS cx σ' N a' w'→Q .normal a' w')
    (hk:match dr with
     | false=>runOps T (CD P sh) (noFb lo) ops.toList ops.toList 0 σ K
     | true=>okDraw ops.toList=true∧runOps T (CD P sh) drFb ops.toList ops.toList 0 σ K):(Code.region id ops dr).wpIn F n P Q a w:=by
  cases dr with
  | false =>
   refine wpIn_region ?_
   have:=runOps_sound hT hF hcx hy hdst (noFb_lo hlo) hQ ops.toList 0 σ a w rfl hs hk (n:=n)
   rw [List.range_eq_range']
   simpa using this
  | true =>
   obtain ⟨hok,hk⟩:=hk
   refine wpIn_region_any hmix ?_
   obtain ⟨m,hm,hd⟩:=okDraw_spec hok
   refine region_m (sh:=sh) (fb:=drFb) hT hF hcx hy hdst hs (fun _ _ _=>rfl) hQ m hm hd ?_
   have hmild:∀ o∈ops.toList.take m,mild o=true:=fun o ho=>by
    obtain ⟨i,hi⟩:=List.mem_iff_getElem?.1 ho
    rw [List.getElem?_take] at hi
    split at hi
    ·rename_i him;exact takeWhile_get (Nat.lt_of_lt_of_le him hm) hi
    ·cases hi
   have hsplit:ops.toList=ops.toList.take m++ops.toList.drop m:=(List.take_append_drop m _).symm
   have hml:(ops.toList.take m).length=m:=by rw [List.length_take];have:=hd.le;simp;omega
   rw [show runOps T (CD P sh) drFb ops.toList ops.toList 0 σ K=runOps T (CD P sh) drFb ops.toList (ops.toList.take m++ops.toList.drop m) 0 σ K by rw [← hsplit]] at hk
   obtain ⟨σs,h0,hst,hrest⟩:=runOps_steps (fb:=drFb) ⟨⟨fun _ _=>rfl,fun _ _ _=>rfl⟩,fun _ _ _=>rfl,fun _ _ _=>rfl⟩ _ _ 0 σ (fun o ho=>.inl (hmild o ho)) hk
   rw [Nat.zero_add,hml] at hrest
   exact ⟨σs,h0,hst,hrest⟩

theorem region_sound3 (hT:TOK P T) (hmix:P.follows .mixedOrders=true) {F:Fence} (hF:FW F) (hcx:cx.Ok) (hy:YieldOK P cx) (hdst:∀ o∈ops.toList,∀ t,o.dst=some t→t<N) (hs:FS cx σ N a w) {n id:Nat} {K:St→Prop} {Q:Exit→Act→World→Prop}
    (hQ:∀ σ' a' w',K σ'→FS cx σ' N a' w'→Q .normal a' w') {m:Nat} (hok:okDrawM ops.toList m=true)
    (hk:runOps T (CD P sh) drFb ops.toList (ops.toList.take m) 0 σ fun τ=>runOps T (CD P sh) tlFb ops.toList (ops.toList.drop m) m τ K):(Code.region id ops true).wpIn F n P Q a w:=by
  refine wpIn_region_any hmix ?_
  unfold okDrawM at hok
  split at hok
  ·rename_i hb
   have hm:=Nat.le_of_ble_eq_true hb
   refine region_m (sh:=sh) (fb:=tlFb) hT hF hcx hy hdst hs (fun _ _ _=>rfl) hQ m hm (okDrawAt_spec hm hok) ?_
   have hmild:∀ o∈ops.toList.take m,mild o=true:=fun o ho=>by
    obtain ⟨i,hi⟩:=List.mem_iff_getElem?.1 ho
    rw [List.getElem?_take] at hi
    split at hi
    ·rename_i him;exact takeWhile_get (Nat.lt_of_lt_of_le him hm) hi
    ·cases hi
   have hml:(ops.toList.take m).length=m:=by
    rw [List.length_take]
    have h1:=List.takeWhile_prefix (p:=mild) (l:=ops.toList) |>.length_le
    omega
   have hk':runOps T (CD P sh) drFb ops.toList (ops.toList.take m++[]) 0 σ fun τ=>runOps T (CD P sh) tlFb ops.toList (ops.toList.drop m) m τ K:=by rw [List.append_nil];exact hk
   obtain ⟨σs,h0,hst,hrest⟩:=runOps_steps (fb:=drFb) ⟨⟨fun _ _=>rfl,fun _ _ _=>rfl⟩,fun _ _ _=>rfl,fun _ _ _=>rfl⟩ _ _ 0 σ (fun o ho=>.inl (hmild o ho)) hk'
   rw [hml] at hrest
   exact ⟨σs,h0,hst,hrest⟩
  ·cases hok

end
end Go.V
