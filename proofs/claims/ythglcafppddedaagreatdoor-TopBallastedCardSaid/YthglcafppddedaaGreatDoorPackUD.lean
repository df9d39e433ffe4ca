/- What ballasted_holds leans on, part UD. No condition. -/
import Derived.Laws.Strings3
import Derived.Test.YthglcafppddedaaGreatDoorPackUC

set_option linter.all false
namespace Go.V
open Go.RowKit
section
variable{P:Program}[aM]{sh:er}{ish:Nat->Bool}{T:Nat->Option TI}{cx:Cx}{V:Nat->Prop}{U:St}{β:BE}{I:aW}{S:Nat->Prop}{N:Nat}{a:Act}{w:World}
omit [aM]in
theorem xo{t:TypeId}{ti:TI}(h:aj P t ti){n:Nat}{e:TypeId}(hd:ti.desc=.array n e)(ty:TypeId)(v:Value):(Builtin.len_ #[t] ty #[v]).run P w=.ok (.int .i64 n) w:=by
 simp[Builtin.len_,run_underlying h.desc,hd,goInt]
omit [aM]in
theorem run_len_string{t:TypeId}{ti:TI}(h:aj P t ti)(hd:ti.desc=.string)(ty:TypeId)(s:ByteArray):(Builtin.len_ #[t] ty #[.string s]).run P w=.ok (.int .i64 s.size) w:=by
 simp[Builtin.len_,run_underlying h.desc,hd,goInt]
omit [aM]in
theorem bn.k7{vs:List Value}{d:D}(h:bn I β vs [d]):∃v,vs=[v]/\Rel I β v d:=by
 obtain⟨v,oz,rfl,hv,h'⟩:=h.cons_inv;rw[h'.cR];exact⟨v,rfl,hv⟩
omit [aM]in
theorem y9{cs:List D}{off n:Nat}{d:D}(h:cQ cs off n=some d):d=.agg ((cs.drop off).take n)/\off+n<=cs.length:=by
 unfold cQ at h;split at h
 .rename_i hf
  cases h;exact⟨rfl,Nat.le_of_ble_eq_true hf⟩
 cases h
omit [aM]in
theorem vg{size n:Nat}{cs:Array Value}{e:TypeId}{rows:List (List D)}(hr:eE I size cs.toList rows)(hn:rows.length=n):
    bA I β (w.alloc (.cells cs e)) ⟨some w.heap.size,false,0,size,n,n,0⟩ (.rows false 0 size rows)/\
    ∀(β':BE)(i:Nat),β' i=some ⟨some w.heap.size,false,0,size,n,n,0⟩->Rel I β' (.slice (some ⟨w.heap.size,0,none⟩) n n) (.sl i 0 0 n):=by
  refine⟨⟨rfl,rfl,rfl,hn.symm,hr.row,by simp[hn],cs,e,World.alloc_heap_new w _,?_,?_⟩,λβ' i hi=>?_⟩
  .have:=hr.len;simp at this;rw[this,hn];simp
  .intro r row j d h1 h2
   obtain⟨v,h3,h4,h5⟩:=hr.cell r row j d h1 h2;exact⟨v,by simpa using h3,h4,h5⟩
  exact .sl _ _ i 0 0 n _ hi rfl rfl (by simp) (Nat.le_refl _) (by simp) (λ_=>⟨w.heap.size,rfl,by simp⟩)
omit [aM]in
theorem Rel.QA{v:Value}{g off:Nat}(h:Rel I β v (.gp g off)):v=.pointer (some ⟨g,off,none⟩):=by cases h;rfl
omit [aM]in
theorem Rel.JF{v:Value}{sz:Nat}{rows:List (List D)}(h:Rel I β v (.list sz rows)):∃A m cp,v=.slice A m cp/\(A.isNone=true->rows=[]):=by
 cases h with
 |dj A cp=>exact⟨A,0,cp,rfl,λ_=>rfl⟩
 |list=>exact⟨_,_,_,rfl,λh=>by cases h⟩
omit [aM]in
theorem tZ(n:Nat){t e:TypeId}(h:P.underlying t=some (.slice e))(A:Option Addr)(m cp:Nat):(Op.equalIn (n+1) t (.slice A m cp) (.slice none 0 0)).run P w=.ok A.isNone w:=by
 cases A<;>simp[Op.equalIn,run_underlying h]
omit [aM]in
theorem rX(n:Nat){t:TypeId}{ms}(h:P.underlying t=some (.interface ms)):(Op.equalIn (n+1) t .nilIface .nilIface).run P w=.ok true w:=by
 simp[Op.equalIn,run_underlying h]
omit [aM]in
theorem s4{t:TypeId}{ms}(h:P.underlying t=some (.interface ms)):(Op.equal t .nilIface .nilIface).run P w=.ok true w:=by
 simp[Op.equal,Op.maxDepth,rX 9999 h]
omit [aM]in
theorem vi{t e:TypeId}(h:P.underlying t=some (.slice e))(A:Option Addr)(m cp:Nat):(binOp .eql t (.slice A m cp) (.slice none 0 0)).run P w=.ok (.bool A.isNone) w:=by
 simp only[binOp];simp[Op.equal,Op.maxDepth,tZ 9999 h]
omit [aM]in
theorem qA{bs:List af}(lB:bc I w)(fp:∀i b,β i=some b->∃box,bs[i]?=some box/\bA I β w b box)(Ny:∀i b,β i=some b->∀R,b.R=some R->¬Mem I R){L:List Nat}:∀{ps:List (Nat×Operand)}{l l':List (Nat×D)},l.length=ps.length->
    (∀(i:Nat)(x:Nat×Operand)(y:Nat×D),ps[i]?=some x->l[i]?=some y->x.1=y.1/\Rel I β (a.eval x.2) y.2)->nq bs l=some l'->(∀i,i∈rK bs l->i∈L)->
    l'.length=ps.length/\∀(i:Nat)(x:Nat×Operand)(y:Nat×D),ps[i]?=some x->l'[i]?=some y->x.1=y.1/\Rel (bQ L β w I) dM (a.eval x.2) y.2
  |[],[],l',_,_,h,_=>by cases h;exact⟨rfl,λi x y hx=>by simp at hx⟩
  |[],_::_,_,hl,_,_,_=>by simp at hl
  |_::_,[],_,hl,_,_,_=>by simp at hl
  |p::ps,(j,d)::l,l',hl,hr,h,hL=>by
   simp only[nq]at h;cases hd:reify bs fuel d with
   |none=>rw[hd]at h;cases h
   |some e=>
    rw[hd]at h;cases e8:nq bs l with
    |none=>rw[e8]at h;cases h
    |some l1=>
     rw[e8]at h;cases h;obtain⟨h1,h2⟩:=qA lB fp Ny (L:=L) (ps:=ps) (l:=l) (l':=l1) (by simpa using hl) (λi x y hx hy=>hr (i+1) x y (by simpa using hx) (by simpa using hy)) e8 (λi hi=>hL i (by simp only[rK,List.flatMap_cons,List.mem_append];exact .inr hi));refine⟨by simp[h1],λi x y hx hy=>?_⟩;cases i with
     |zero=>
      simp at hx hy;subst hx hy;obtain⟨h3,h4⟩:=hr 0 p (j,d) rfl rfl;exact⟨h3,jk lB fp Ny L fuel h4 hd λk hk=>hL k (by simp only[rK,List.flatMap_cons,List.mem_append];exact .inl hk)⟩
     |succ i=>exact h2 i x y (by simpa using hx) (by simpa using hy)
omit [aM]in
theorem DW{z:Value}{t:TypeId}{ti:TI}(hz:cT I β z.cells.toList ti.zero)(hc:∀(j:Nat)(v:Value)(d:D),z.cells.toList[j]?=some v->ti.zero[j]?=some d->ofConst v=some d):
    bA I β (w.alloc (.cells z.cells t)) ⟨some w.heap.size,true,0,0,0,0,0⟩ (l5 t ti):=by
  unfold l5;cases hb:Jk ti with
  |false=>exact⟨rfl,w.heap.size,z.cells,t,rfl,World.alloc_heap_new w _,hz.full⟩
  |true=>
   have hzero:ti.zero=[.cO,.ao]:=by
    unfold Jk at hb;split at hb
    .assumption
    cases hb
   rw[hzero]at hz hc;have hl:=hz.1.1;have lC:z.cells=#[.pointer none,.slice none 0 0]:=by
    apply Array.toList_inj.1;obtain⟨x,y,Pj⟩:∃x y,z.cells.toList=[x,y]:=by
     cases h:z.cells.toList with
     |nil=>rw[h]at hl;cases hl
     |cons x r=>cases r with
      |nil=>rw[h]at hl;cases hl
      |cons y r=>cases r with
       |nil=>exact⟨x,y,rfl⟩
       |cons=>rw[h]at hl;simp at hl
    rw[Pj]at hc⊢;have h1:=hc 0 x .cO rfl rfl;have h2:=hc 1 y .ao rfl rfl;have e1:x=.pointer none:=by unfold ofConst at h1;split at h1<;>first|rfl|cases h1
    have e2:y=.slice none 0 0:=by unfold ofConst at h2;split at h2<;>first|rfl|cases h2
    rw[e1,e2]
   refine .inl ⟨rfl,rfl,w.heap.size,rfl,?_⟩;have e:pV ⟨#[]⟩ (5+t)=.cells #[.pointer none,.slice none 0 0] t (0,0):=by
    unfold pV;rw[if_neg (show¬(5+t:Nat)<(⟨#[]⟩:ByteArray).size+5 from Nat.not_lt.2 (Nat.le_add_right 5 t)),show(5+t:Nat)-((⟨#[]⟩:ByteArray).size+5)=t from Nat.add_sub_cancel_left 5 t]
   rw[e,<-lC];exact World.alloc_heap_new w _
theorem oJ(hT:br P T){F:Fence}(hF:FW F)(ak:cx.Ok)(hs:bf cx V U β I S N a w){n:Nat}{o:Oper}(hV:∀t,Operand.tmp t∈o.op.operands.toList->V t)(hm:dS o=true\/(∃x,o.op=.assign x)\/∃op t x y ls,o.op=.binOp op t x y ls){k:bE->Prop}
    (hk:dC T (CD P sh) U o k){next:Act->World->Prop}{Q:Exit->Act->World->Prop}
    (QB:((∀b y,¬k (.yielded b y))/\∀b y nb,¬k (.fO b y nb))\/∀c f l,o.op=.call c->c.callee=.value f->U.ev f≠some (.j8 l))
    (ZM:(∀d bs y,¬k (.dJ d bs y))\/∀c f fk fs cs,o.op=.call c->c.callee=.value f->U.ev f=some (.bR (.func fk) fs cs)->sh.sh fk=false\/sh.nw fk=true)(vj:∀d v,k (.val d)->Rel I β v d->next (a.put o.dst v) w)
    (iS:∀b mk v w' bi,k (.new b mk)->(∀R,bi.R=some R->w.heap.size<=R)->dG I w w'->bc I w'->bA I β w' bi b->b.fz=false->(∀(β':BE)(i:Nat),β' i=some bi->Rel I β' v (mk i))->next (a.put o.dst v) w')
    (Pk:∀b mk L v w' bi I',k (.eo b mk L)->(∀R,bi.R=some R->w.heap.size<=R/\∀off,I' R off=none)->dG I w w'->Grow w.heap.size (bQ L β w I) I'->bc I' w'->bA I' β w' bi b->b.fz=false->(∀(β':BE)(i:Nat),β' i=some bi->Rel I' β' v (mk i))->next (a.put o.dst v) w')
    (dZ:∀d as v w' I',k (.res d as)->dG I w w'->Grow w.heap.size (bQ (as.flatMap (aF U.boxes fuel)) β w I) I'->bc I' w'->Rel I' dM v d->next (a.put o.dst v) w'):
    o.wpIn F n P a w next Q:=by
  have value:∀{v d},(∀c,o.op≠.defer c)->(execOp a.eval o).run P w=.ok (.value v) w->k (.val d)->Rel I β v d->o.wpIn F n P a w next Q:=
   λhd hr hk aq=>cz hF hd hr (vj _ _ hk aq)
  have iu:∀{x d},x∈o.op.operands.toList->U.ev x=some d->Rel I β (a.eval x) d:=λ{x d} hx hd=>hs.ev (λt e=>hV t (e▸hx)) hd;unfold dC at hk;cases ho:o.op with
  |move x|assign x=>
   simp only[ho]at hk;cases hx:U.ev x with
   |none=>rw[hx]at hk;exact hk.elim
   |some d=>
    rw[hx]at hk;exact value (by rw[ho];simp) (by simp[execOp,ho]) hk (iu (by simp[ho,Op.operands]) hx)
  |pick c x y=>
   simp only[ho]at hk;have dv:c∈o.op.operands.toList/\x∈o.op.operands.toList/\y∈o.op.operands.toList:=by simp[ho,Op.operands]
   have Pm:U.ev c=some .tt\/(∃b,U.ev c=some (.bool b)/\b=true)->(match U.ev x with|some d=>k (.val d)|none=>False)->o.wpIn F n P a w next Q:=by
    intro hc hk;have JB:a.eval c=.bool true:=by
     rcases hc with hc|⟨b,hc,rfl⟩
     .exact(iu dv.1 hc).y4
     exact(iu dv.1 hc).nB
    cases hx:U.ev x with
    |none=>rw[hx]at hk;exact hk.elim
    |some d=>
     rw[hx]at hk;exact value (by rw[ho];simp) (by simp[execOp,ho,JB,asBool]) hk (iu dv.2.1 hx)
   have Pn:U.ev c=some .ff\/(∃b,U.ev c=some (.bool b)/\b=false)->(match U.ev y with|some d=>k (.val d)|none=>False)->o.wpIn F n P a w next Q:=by
    intro hc hk;have JB:a.eval c=.bool false:=by
     rcases hc with hc|⟨b,hc,rfl⟩
     .exact(iu dv.1 hc).y5
     exact(iu dv.1 hc).nB
    cases hx:U.ev y with
    |none=>rw[hx]at hk;exact hk.elim
    |some d=>
     rw[hx]at hk;exact value (by rw[ho];simp) (by simp[execOp,ho,JB,asBool]) hk (iu dv.2.2 hx)
   cases hc:U.ev c with
   |none=>rw[hc]at hk;exact hk.elim
   |some d=>
    rw[hc]at hk;cases d with
    |tt=>exact Pm (.inl hc) hk
    |ff=>exact Pn (.inl hc) hk
    |bool b=>
     cases b with
     |true=>exact Pm (.inr ⟨true,hc,rfl⟩) (hk.1 rfl)
     |false=>exact Pn (.inr ⟨false,hc,rfl⟩) (hk.2 rfl)
    |_=>exact hk.elim
  |alloc t=>
   simp only[ho]at hk;cases ht:T t with
   |none=>rw[ht]at hk;exact hk.elim
   |some ti=>
    rw[ht]at hk;have h:=hT t ti ht;obtain⟨z,hz,Hl,hzc⟩:=h.Hc (P:=P) w I β;refine cz hF (by rw[ho];simp) (v:=.pointer (some ⟨w.heap.size,0,none⟩)) (w':=w.alloc (.cells z.cells t)) ?_
     (iS _ _ _ _ ⟨some w.heap.size,true,0,0,0,0,0⟩ hk (λR h=>by cases h;exact Nat.le_refl _) (aB.alloc w _).toM (hs.agree.aE (aB.alloc w _)) (DW Hl hzc) (by unfold l5;split<;>rfl) (λβ' i hi=>.loc i 0 _ _ hi rfl rfl))
    simp[execOp,ho,Instr.alloc,hz,newVar,newRow]
  |box t x=>
   simp only[ho]at hk;cases hx:U.ev x with
   |none=>rw[hx]at hk;exact hk.elim
   |some d=>
    rw[hx]at hk;simp only at hk;cases hc:cellsOf d with
    |none=>rw[hc]at hk;exact hk.elim
    |some cs=>
     rw[hc]at hk;have hr:=(iu (by simp[ho,Op.operands]) hx).cells hc;refine cz hF (by rw[ho];simp) (v:=.pointer (some ⟨w.heap.size,0,none⟩)) (w':=w.alloc (.cells (a.eval x).cells t)) ?_
      (iS _ _ _ _ ⟨some w.heap.size,true,0,0,0,0,0⟩ hk (λR h=>by cases h;exact Nat.le_refl _) (aB.alloc w _).toM (hs.agree.aE (aB.alloc w _)) ⟨rfl,w.heap.size,_,t,rfl,World.alloc_heap_new w _,hr.full⟩ rfl (λβ' i hi=>.loc i 0 _ _ hi rfl rfl))
     simp[execOp,ho,Instr.box,newVar,newRow]
  |build t ps=>
   simp only[ho]at hk;cases ht:T t with
   |none=>rw[ht]at hk;exact hk.elim
   |some ti=>
    rw[ht]at hk;cases hl:U.AK ps.toList with
    |none=>rw[hl]at hk;exact hk.elim
    |some l=>
     rw[hl]at hk;simp only at hk;cases hb:buildable T ti.desc with
     |false=>rw[hb]at hk;exact hk.elim
     |true=>
      rw[hb]at hk;cases hf:gm (l6 T ti.desc) ti.zero l with
      |none=>rw[hf]at hk;exact hk.elim
      |some cs=>
       rw[hf]at hk;simp only[cg]at hk;obtain⟨v,hv,xb⟩:=Bi hT hs ht (ps:=ps) (λx t hx e=>hV t (by
        simp only[ho,Op.operands,List.mem_map];exact⟨x,hx,e⟩)) hl hb hf
       exact value (by rw[ho];simp) (by simp[execOp,ho,hv]) hk xb
  |buildSlice t len ps=>
   simp only[ho]at hk;cases ht:T t with
   |none=>rw[ht]at hk;exact hk.elim
   |some ti=>
    rw[ht]at hk;cases hl:U.AK ps.toList with
    |none=>rw[hl]at hk;exact hk.elim
    |some l=>
     rw[hl]at hk;simp only at hk;cases eU:eN T ti.desc with
     |none=>rw[eU]at hk;exact hk.elim
     |some te=>
      rw[eU]at hk;simp only at hk;cases hf:fw te.size (List.replicate len te.zero) l with
      |none=>
       rw[hf]at hk;obtain⟨l',JG,rows,hf,hk⟩:=hk;obtain⟨hb,hk⟩:=ae hk;split at hb
       .rename_i h1 h2
        have dw:0<te.size:=by simpa[Nat.blt_eq]using h1
        have Hm:len*te.size<=16777216:=Nat.le_of_ble_eq_true h2;cases hd:ti.desc with
        |slice e=>
         have TX:aj P e te:=by rw[hd]at eU;exact hT e te eU
         have iu:=oH hs (λx t hx e=>hV t (by
          simp only[ho,Op.operands,List.mem_map];exact⟨x,hx,e⟩)) hl
         have hrp:=qA (L:=rK U.boxes l) hs.agree hs.bx hs.Jc iu.1 iu.2 JG (λi hi=>hi);obtain⟨cs,aP,cb,gi⟩:=pb (a:=a) (w:=w) (β:=dM) hT ht hd TX (ps:=ps) hrp dw Hm hb hf;obtain⟨cV,aq⟩:=vg (β:=β) (w:=w) (e:=e) cb gi;refine cz hF (by rw[ho];simp) (v:=.slice (some ⟨w.heap.size,0,none⟩) len len) (w':=w.alloc (.cells cs e)) (by simp[execOp,ho,aP])
          (Pk _ _ _ _ _ _ _ hk (λR h=>by cases h;exact⟨Nat.le_refl _,λoff=>bc.out (db hs.agree _ β) (Nat.le_refl _) off⟩) (aB.alloc w _).toM (Grow.refl _ _) ((db hs.agree _ β).aE (aB.alloc w _)) cV rfl λβ' i hi=>by
           have hr:=aq β' i hi;cases hz:Nat.beq len 0 with
           |true=>obtain rfl:=Nat.eq_of_beq_eq_true hz;exact .ao _
           |false=>exact hr)
        |_=>rw[hd]at eU;cases eU
       cases hb
      |some rows=>
       rw[hf]at hk;obtain⟨hb,hk⟩:=ae hk;split at hb
       .rename_i h1 h2
        have dw:0<te.size:=by simpa[Nat.blt_eq]using h1
        have Hm:len*te.size<=16777216:=Nat.le_of_ble_eq_true h2;cases hd:ti.desc with
        |slice e=>
         have TX:aj P e te:=by rw[hd]at eU;exact hT e te eU
         obtain⟨cs,aP,cb,gi⟩:=rW hT hs ht hd TX (ps:=ps) (λx t hx e=>hV t (by
          simp only[ho,Op.operands,List.mem_map];exact⟨x,hx,e⟩)) hl dw Hm hb hf
         obtain⟨cV,aq⟩:=vg (β:=β) (w:=w) (e:=e) cb gi;refine cz hF (by rw[ho];simp) (v:=.slice (some ⟨w.heap.size,0,none⟩) len len) (w':=w.alloc (.cells cs e)) (by simp[execOp,ho,aP])
          (iS _ _ _ _ _ hk (λR h=>by cases h;exact Nat.le_refl _) (aB.alloc w _).toM (hs.agree.aE (aB.alloc w _)) cV rfl λβ' i hi=>by
           have hr:=aq β' i hi;cases hz:Nat.beq len 0 with
           |true=>obtain rfl:=Nat.eq_of_beq_eq_true hz;exact .ao _
           |false=>exact hr)
        |_=>rw[hd]at eU;cases eU
       cases hb
  |load t x=>
   simp only[ho]at hk;cases ht:T t with
   |none=>rw[ht]at hk;exact hk.elim
   |some ti=>
    rw[ht]at hk;cases hx:U.ev x with
    |none=>rw[hx]at hk;exact hk.elim
    |some p=>
     rw[hx]at hk;have rH:=iu (by simp[ho,Op.operands]) hx;by_cases JH:∃g off,p=.gp g off
     .obtain⟨g,off,rfl⟩:=JH
      simp only at hk;cases ha:ti.agg with
      |true=>rw[ha]at hk;exact hk.elim
      |false=>
       rw[ha]at hk;obtain⟨kd,m,hg,hk⟩:=hk;have hv:a.eval x=.pointer (some ⟨g,off,none⟩):=rH.QA;have hg:aM.Jw g off=some (kd,m):=hg;have hG:pU g off=some (.int kd m):=by unfold pU;rw[hg]
       have ca:=jX (hs.agree g off _ (hs.I0 g off _ (ak.gl g off _ hG))) rfl;refine value (by rw[ho];simp) (v:=.int kd m) ?_ hk (.int _ _);have:=mH (P:=P) (hT t ti ht) ha ca;simp[execOp,ho,hv,Instr.loadAt,Instr.sureAddr,this]
     have hk:fy ti U.boxes p k:=by
       cases p<;>first|exact hk|exact absurd ⟨_,_,rfl⟩ JH
     obtain⟨v,d,hr,bF,aq⟩:=sW (hT t ti ht) hs rH hk;exact value (by rw[ho];simp) (by simp[execOp,ho,hr]) bF aq
  |nilCheck x=>
   simp only[ho]at hk;cases hx:U.ev x with
   |none=>rw[hx]at hk;exact hk.elim
   |some p=>
    rw[hx]at hk;have hr:=iu (by simp[ho,Op.operands]) hx;cases p with
    |loc i off=>
     obtain⟨R,o',hR⟩:=hr.y6;exact value (by rw[ho];simp) (by simp only[execOp,ho,hR];rfl) hk (hR▸hr)
    |ro cs=>
     obtain⟨A,hA⟩:=hr.Js;exact value (by rw[ho];simp) (by simp only[execOp,ho,hA];rfl) hk (hA▸hr)
    |bM i g r off=>
     obtain⟨A,hA⟩:=hr.Jt;exact value (by rw[ho];simp) (by simp only[execOp,ho,hA];rfl) hk (hA▸hr)
    |bH i off=>
     obtain⟨A,hA⟩:=hr.Ju;exact value (by rw[ho];simp) (by simp only[execOp,ho,hA];rfl) hk (hA▸hr)
    |_=>exact hk.elim
  |binOp op t x y u=>
   simp only[ho]at hk;cases ht:T t with
   |none=>rw[ht]at hk;exact hk.elim
   |some ti=>
    rw[ht]at hk;cases hx:U.ev x with
    |none=>rw[hx]at hk;exact hk.elim
    |some d=>
     rw[hx]at hk;cases hy:U.ev y with
     |none=>rw[hy]at hk;revert hk;cases d<;>exactλhk=>hk.elim
     |some e=>
      rw[hy]at hk;have QC:∀{p:Prop},fU y=true->e=.ao->(y=.const (.slice none 0 0)->p)->p:=λhc he f=>f (by
       revert hc hy;unfold fU;split
       .intro _ _;rfl
       .intro hy;cases hy;cases he
       intro _ h;cases h)
      have JI:∀{e0:TypeId}{A:Option Addr}{m cp:Nat},ti.desc=.slice e0->op=.eql->y=.const (.slice none 0 0)->a.eval x=.slice A m cp->k (.val (.bool A.isNone))->Oper.wpIn F n P o a w next Q:=λ{e0 A m cp} pc TY QD hv qn=>by
       clear hk;subst TY QD;have aP:=vi (P:=P) (w:=w) (pc▸(hT t ti ht).desc) A m cp;refine value (by rw[ho];simp) (v:=.bool A.isNone) ?_ qn (.bool _);have e2:a.eval (.const (.slice none 0 0))=.slice none 0 0:=rfl;simp only[execOp,ho,hv,e2];simp[eqGuard,aP]
      by_cases Po:(∃i g off len,d=.sl i g off len)/\e=.ao
      .obtain⟨⟨i,g,off,len,rfl⟩,rfl⟩:=Po
       simp only at hk;split at hk
       .rename_i e0 pc ua
        split at hk
        .rename_i fz g' sz rs fp
         obtain⟨hg,hk⟩:=ae hk;have rH:=iu (by simp[ho,Op.operands]) hx;refine QC ua rfl λQD=>?_;cases hv:a.eval x<;>rw[hv]at rH<;>first|(cases rH;done)|skip
         rename_i A m cp;refine JI pc rfl QD hv (hk _ λhA=>?_);cases rH with
         |sl _ _ _ _ _ _ b hb hf hgb hc hl hn ha=>
          rcases Nat.eq_zero_or_pos cp with h0|h0
          .omega
          obtain⟨R,_,e1⟩:=ha h0;subst e1;cases hA
         |cJ _ _ _ _ _ _ b hb hf hgb=>
          obtain⟨box,h1,h2⟩:=hs.bx i b hb;rw[fp]at h1;cases h1;obtain⟨_,h3,_⟩:=h2;have:=Nat.eq_of_beq_eq_true hg;omega
        exact hk.elim
       exact hk.elim
      by_cases FQ:d=.ao/\e=.ao
      .obtain⟨rfl,rfl⟩:=FQ
       simp only at hk;split at hk
       .rename_i e0 pc ua
        have rH:=iu (by simp[ho,Op.operands]) hx;refine QC ua rfl λQD=>?_;cases hv:a.eval x<;>rw[hv]at rH<;>first|(cases rH;done)|skip
        rename_i A m cp;exact JI pc rfl QD hv (hk _)
       exact hk.elim
      by_cases tY:(∃sz rows,d=.list sz rows)/\e=.ao
      .obtain⟨⟨sz,rows,rfl⟩,rfl⟩:=tY
       simp only at hk;split at hk
       .rename_i e0 pc ua
        refine QC ua rfl λQD=>?_;subst QD;have rH:=iu (by simp[ho,Op.operands]) hx;obtain⟨A,m,cp,hv,hA⟩:=rH.JF;have aP:=vi (P:=P) (w:=w) (pc▸(hT t ti ht).desc) A m cp;refine value (by rw[ho];simp) (v:=.bool A.isNone) ?_ (hk A.isNone hA) (.bool _);have e2:a.eval (.const (.slice none 0 0))=.slice none 0 0:=rfl;simp only[execOp,ho,hv,e2];simp[eqGuard,aP]
       exact hk.elim
      by_cases TZ:d=.dI/\e=.dI
      .obtain⟨rfl,rfl⟩:=TZ
       have rH:=iu (by simp[ho,Op.operands]) hx;have hv:a.eval x=.nilIface:=by generalize a.eval x=v at rH;cases rH;rfl
       have UL:fU y=true->y=.const .nilIface:=λhc=>by
        revert hc hy;unfold fU;split
        .intro hy;cases hy
        .intro _ _;rfl
        intro _ h;cases h
       simp only at hk;split at hk
       .rename_i ms pc ua
        obtain rfl:=UL ua;have he:=s4 (P:=P) (w:=w) (pc▸(hT t ti ht).desc);refine value (by rw[ho];simp) (v:=.bool true) ?_ hk (.bool _);have e2:a.eval (.const .nilIface)=.nilIface:=rfl;simp only[execOp,ho,hv,e2];simp[eqGuard,binOp,he]
       .rename_i ms pc ua
        obtain rfl:=UL ua;have he:=s4 (P:=P) (w:=w) (pc▸(hT t ti ht).desc);refine value (by rw[ho];simp) (v:=.bool false) ?_ hk (.bool _);have e2:a.eval (.const .nilIface)=.nilIface:=rfl;simp only[execOp,ho,hv,e2];simp[eqGuard,binOp,he]
       exact hk.elim
      have hk:jN ti op d e λd=>k (.val d):=by
       revert hk;split
       .rename_i h1 h2 h3
        cases h2;cases h3;exact absurd ⟨⟨_,_,rfl⟩,rfl⟩ tY
       .rename_i h1 h2 h3
        cases h2;cases h3;exact absurd ⟨⟨_,_,_,_,rfl⟩,rfl⟩ Po
       .rename_i h1 h2 h3
        cases h2;cases h3;exact absurd ⟨rfl,rfl⟩ FQ
       .rename_i h1 h2 h3
        cases h2;cases h3;exact absurd ⟨rfl,rfl⟩ TZ
       .rename_i h1 h2 h3
        cases h1;cases h2;cases h3;exact id
       rename_i h;exact absurd rfl (h _ _ _ rfl rfl)
      obtain⟨z,f,hr,bF,aq⟩:=Hg (P:=P) (w:=w) hT ht (x:=x) (y:=y) (iu (by simp[ho,Op.operands]) hx) (iu (by simp[ho,Op.operands]) hy) hk;refine value (by rw[ho];simp) ?_ bF aq;simp only[execOp,ho];simp only[eD]at hr;rw[Sem.run_bind,hr];rfl
  |unOp op t x=>
   simp only[ho]at hk;cases hx:U.ev x with
   |none=>rw[hx]at hk;cases op<;>exact hk.elim
   |some d=>
    rw[hx]at hk;have hr:=iu (by simp[ho,Op.operands]) hx;cases op with
    |not=>
     cases d with
     |tt=>exact value (by rw[ho];simp) (by simp[execOp,ho,hr.y4,Op.unary]) hk .ff
     |ff=>exact value (by rw[ho];simp) (by simp[execOp,ho,hr.y5,Op.unary]) hk .tt
     |bool b=>exact value (by rw[ho];simp) (by simp[execOp,ho,hr.nB,Op.unary]) hk (.bool _)
     |_=>exact hk.elim
    |neg=>
     cases d with
     |int kx m=>
      obtain⟨r,rfl,hk⟩:=hk;exact value (by rw[ho];simp) (by simp[execOp,ho,hr.aT,Op.unary,Op.intArith]) hk (.int _ _)
     |_=>exact hk.elim
    |_=>cases d<;>exact hk.elim
  |convert s d x=>
   simp only[ho]at hk;cases ZN:T s with
   |none=>rw[ZN]at hk;exact hk.elim
   |some ts=>
    rw[ZN]at hk;cases T0:T d with
    |none=>rw[T0]at hk;exact hk.elim
    |some td=>
     rw[T0]at hk;cases hx:U.ev x with
     |none=>rw[hx]at hk;exact hk.elim
     |some e=>
      rw[hx]at hk;have hr:=iu (by simp[ho,Op.operands]) hx;have h1:=hT s ts ZN;have h2:=hT d td T0;simp only at hk;split at hk
      .rename_i k1 k2 k3 m e1 e2
       obtain⟨r,rfl,hk⟩:=hk;refine value (by rw[ho];simp) ?_ hk (.int _ _);simp[execOp,ho,hr.aT,convert,run_underlying (e1▸h1.desc),run_underlying (e2▸h2.desc),Conv.intToInt]
      exact hk.elim
  |makeFunc fn fs cs=>
   simp only[ho]at hk;cases h1:U.jv fs.toList with
   |none=>rw[h1]at hk;exact hk.elim
   |some l=>
    rw[h1]at hk;cases h2:U.jv cs.toList with
    |none=>rw[h2]at hk;exact hk.elim
    |some m=>
     rw[h2]at hk;have e1:=hs.jv (λx t hx e=>hV t (by simp only[ho,Op.operands,Array.toList_append,List.mem_append];exact .inl (e▸hx))) h1;have e2:=hs.jv (λx t hx e=>hV t (by simp only[ho,Op.operands,Array.toList_append,List.mem_append];exact .inr (e▸hx))) h2;refine value (by rw[ho];simp) (v:=.func fn (fs.map a.eval) (cs.map a.eval)) (by simp[execOp,ho,Instr.makeFunc]) hk ?_;exact .bR _ _ _ _ _ (by simpa using e1.1) (by simpa using e2.1) (by simpa using e1.2) (by simpa using e2.2)
  |makeSlice t l c=>
   simp only[ho]at hk;cases ht:T t with
   |none=>rw[ht]at hk;exact hk.elim
   |some ti=>
    rw[ht]at hk;cases hl:U.ev l with
    |none=>rw[hl]at hk;exact hk.elim
    |some dl=>
     rw[hl]at hk;cases hc:U.ev c with
     |none=>rw[hc]at hk;cases dl<;>first|exact hk.elim|(rename_i kk _;cases kk<;>exact hk.elim)
     |some dc=>
      rw[hc]at hk;have gi:=iu (by simp[ho,Op.operands]) hl;have vc:=iu (by simp[ho,Op.operands]) hc;split at hk
      .rename_i ti' n m e0 e1 e2
       cases e0;cases e1;cases e2;cases eU:eN T ti.desc with
       |none=>rw[eU]at hk;exact hk.elim
       |some te=>
        rw[eU]at hk;obtain⟨hb,h0,rfl,JJ,j,rfl,hk⟩:=ae hk;split at hb
        .rename_i h1 h2
         have dw:0<te.size:=by simpa[Nat.blt_eq]using h1
         have pg:0<te.bytes:=by simpa[Nat.blt_eq]using h2
         cases hd:ti.desc with
         |slice e=>
          have TX:aj P e te:=by rw[hd]at eU;exact hT e te eU
          have hbp:n<=9223372036854775807:=by
           have h3:1*n<=(te.bytes:Int)*n:=Int.mul_le_mul_of_nonneg_right (by omega) h0;unfold ay at JJ;omega
          obtain⟨cs,aP,cb⟩:=tX (P:=P) (I:=I) (w:=w) hT ht hd TX h0 JJ hbp hb;rcases(xK hk).1 with⟨z,hz,hk⟩|hk
          .have dQ:te.size=1:=by rw[<-TX.u7,hz];rfl
           have Jz:cT I β cs.toList (List.replicate n.toNat z):=by
            have hl:=cb.len;rw[dQ,List.length_replicate,Nat.mul_one]at hl;have ca:∀r,r<n.toNat->∃v,cs.toList[r]?=some v/\Rel I dM v z/\v.oneCell'=true:=λr hr=>by
             have:=cb.cell r [z] 0 z (by rw[hz,List.getElem?_replicate,if_pos hr]) rfl
             rwa[dQ,Nat.mul_one,Nat.add_zero]at this
            refine⟨⟨by rw[hl,List.length_replicate],λi v d hv hd=>?_⟩,λv hv=>?_⟩
            .rw[List.getElem?_replicate]at hd
             split at hd
             .rename_i hi
              cases hd;obtain⟨u,hu,hr,_⟩:=ca i hi;rw[hv]at hu;cases hu;exact hr.mono I.le_refl (nA β)
             cases hd
            obtain⟨i,hi,rfl⟩:=List.getElem_of_mem hv;obtain⟨u,hu,_,h1⟩:=ca i (by omega);rw[List.getElem?_eq_getElem hi]at hu;cases hu;exact h1
           exact cz hF (by rw[ho];simp) (v:=.slice (some ⟨w.heap.size,0,none⟩) n.toNat n.toNat) (w':=w.alloc (.cells cs e)) (by simp[execOp,ho,gi.aT,vc.aT,aP])
            (iS _ _ _ _ ⟨some w.heap.size,true,0,0,0,0,0⟩ hk (λR h=>by cases h;exact Nat.le_refl _) (aB.alloc w _).toM (hs.agree.aE (aB.alloc w _)) ⟨rfl,w.heap.size,cs,e,rfl,World.alloc_heap_new w _,Jz.full⟩ rfl λβ' i hi=>.gj _ _ _ _ _ _ _ _ hi rfl rfl (Nat.le_refl _) λ_=>rfl)
          obtain⟨cV,aq⟩:=vg (β:=β) (w:=w) (e:=e) (n:=n.toNat) cb (by simp);exact cz hF (by rw[ho];simp) (v:=.slice (some ⟨w.heap.size,0,none⟩) n.toNat n.toNat) (w':=w.alloc (.cells cs e)) (by simp[execOp,ho,gi.aT,vc.aT,aP])
           (iS _ _ _ _ _ hk (λR h=>by cases h;exact Nat.le_refl _) (aB.alloc w _).toM (hs.agree.aE (aB.alloc w _)) cV rfl aq)
         |_=>rw[hd]at eU;cases eU
        cases hb
      exact hk.elim
  |slice t x lo hi mx=>
   simp only[ho]at hk;cases mx with
   |some m=>
    cases ht:T t with
    |none=>rw[ht]at hk;exact hk.elim
    |some ti=>
     rw[ht]at hk;cases hx:U.ev x with
     |none=>rw[hx]at hk;exact hk.elim
     |some p=>
      rw[hx]at hk;cases hl:eV U lo with
      |none=>rw[hl]at hk;exact hk.elim
      |some l=>
       rw[hl]at hk;cases hh:eV U hi with
       |none=>rw[hh]at hk;exact hk.elim
       |some h=>
        rw[hh]at hk;obtain⟨km,kh,te,e,hm,eU,hd,rfl,rfl,hp,hk⟩:=kV (show jO (U.ev m) (ee T ti.desc) ti.desc p l h k from hk);have cY:lo=none:=by
         cases lo with
         |none=>rfl
         |some u=>simp only[eV]at hl;cases hu:U.ev u<;>rw[hu]at hl<;>cases hl
        subst cY;cases hi with
        |none=>cases hh
        |some u=>
         simp only[eV]at hh;cases hu:U.ev u with
         |none=>rw[hu]at hh;cases hh
         |some d=>
          rw[hu]at hh;cases hh;have Yy:=(iu (by simp[ho,Op.operands]) hm).aT;have JK:=(iu (by simp[ho,Op.operands]) hu).aT;have rH:=iu (by simp[ho,Op.operands]) hx;have qo:∃A len cp,a.eval x=.slice A len cp:=by
           rcases hp with⟨_,_,rfl⟩|⟨_,_,_,_,rfl⟩|rfl<;>(cases hv:a.eval x<;>rw[hv]at rH<;>first|(cases rH;done)|exact⟨_,_,_,rfl⟩)
          obtain⟨A,len,cp,hv⟩:=qo;have nf:=(hT t ti ht).desc;rw[hd]at eU;have he:=mb hT hd (by rw[hd];exact eU);have aP:(Instr.sliceAt t (.slice A len cp) none (some (.int kh 0)) (some (.int km 0))).run P w=.ok (.slice A 0 0) w:=by
           unfold Instr.sliceAt;simp only[Sem.run_bind,run_underlying nf,hd,Result.andThen_ok];unfold Instr.slice;simp only[Sem.run_bind,run_underlying nf,hd,Result.andThen_ok];simp[Instr.sliceBounds,Instr.sliceBound,asIntOf,he.run_sizeOf]
          exact value (by rw[ho];simp) (v:=.slice A 0 0) (by simp[execOp,ho,hv,Yy,JK,aP]) hk (.ao A)
   |none=>
    cases ht:T t with
    |none=>rw[ht]at hk;exact hk.elim
    |some ti=>
     rw[ht]at hk;cases hx:U.ev x with
     |none=>rw[hx]at hk;exact hk.elim
     |some p=>
      rw[hx]at hk;cases hl:eV U lo with
      |none=>rw[hl]at hk;exact hk.elim
      |some l=>
       rw[hl]at hk;cases hh:eV U hi with
       |none=>rw[hh]at hk;exact hk.elim
       |some h=>
        rw[hh]at hk;simp only at hk;cases eU:ee T ti.desc with
        |none=>
         rw[eU]at hk;simp only at hk;unfold kU at hk;split at hk
         .rename_i s kk b hd
          have hu:P.underlying t=some .string:=hd▸(hT t ti ht).desc;have ub:=(iu (by simp[ho,Op.operands]) hx).ir;cases lo with
          |some u=>simp only[eV]at hl;cases DX:U.ev u<;>rw[DX]at hl<;>cases hl
          |none=>
           cases hi with
           |none=>cases hh
           |some u=>
            simp only[eV]at hh;cases DX:U.ev u with
            |none=>rw[DX]at hh;cases hh
            |some d=>
             rw[DX]at hh;cases hh;have JK:=(iu (by simp[ho,Op.operands]) DX).aT;have hr:(Instr.slice t (.string s) none (some (.int kk b)) none).run P w=.ok (.string (s.extract 0 b.toNat)) w:=by
              rw[run_slice_string_to_if w t s kk b hu,if_pos hk.1]
             have hr:(Instr.sliceAt t (.string s) none (some (.int kk b)) none).run P w=.ok (.string (s.extract 0 b.toNat)) w:=by
              unfold Instr.sliceAt;rw[Sem.run_bind,run_underlying hu];exact hr
             exact value (by rw[ho];simp) (by simp[execOp,ho,ub,JK,hr]) hk.2 (.str _)
         .rename_i s kk b hd
          have hu:P.underlying t=some .string:=hd▸(hT t ti ht).desc;have ub:=(iu (by simp[ho,Op.operands]) hx).ir;cases hi with
          |some u=>simp only[eV]at hh;cases DX:U.ev u<;>rw[DX]at hh<;>cases hh
          |none=>
           cases lo with
           |none=>cases hl
           |some u=>
            simp only[eV]at hl;cases DX:U.ev u with
            |none=>rw[DX]at hl;cases hl
            |some d=>
             rw[DX]at hl;cases hl;have JK:=(iu (by simp[ho,Op.operands]) DX).aT;have hr:(Instr.slice t (.string s) (some (.int kk b)) none none).run P w=.ok (.string (s.extract b.toNat s.size)) w:=by
              simp[Instr.slice,Instr.sliceBounds,Instr.sliceBound,asIntOf,run_underlying hu,hk.1]
             have hr:(Instr.sliceAt t (.string s) (some (.int kk b)) none none).run P w=.ok (.string (s.extract b.toNat s.size)) w:=by
              unfold Instr.sliceAt;rw[Sem.run_bind,run_underlying hu];exact hr
             exact value (by rw[ho];simp) (by simp[execOp,ho,ub,JK,hr]) hk.2 (.str _)
         .rename_i s kk b kk' b' hd
          have hu:P.underlying t=some .string:=hd▸(hT t ti ht).desc;have ub:=(iu (by simp[ho,Op.operands]) hx).ir;cases hi with
          |none=>cases hh
          |some u'=>
           cases lo with
           |none=>cases hl
           |some u=>
            simp only[eV]at hl hh;cases DX:U.ev u with
            |none=>rw[DX]at hl;cases hl
            |some d=>
             rw[DX]at hl;cases hl;cases UM:U.ev u' with
             |none=>rw[UM]at hh;cases hh
             |some d2=>
             rw[UM]at hh;cases hh;have JK:=(iu (by simp[ho,Op.operands]) DX).aT;have ZO:=(iu (by simp[ho,Op.operands]) UM).aT;have Qx:((b'.toNat:Nat):Int)=b':=by omega
             have hr:(Instr.slice t (.string s) (some (.int kk b)) (some (.int kk' b')) none).run P w=.ok (.string (s.extract b.toNat b'.toNat)) w:=by
              simp[Instr.slice,Instr.sliceBounds,Instr.sliceBound,asIntOf,run_underlying hu,hk.1,Qx]
             have hr:(Instr.sliceAt t (.string s) (some (.int kk b)) (some (.int kk' b')) none).run P w=.ok (.string (s.extract b.toNat b'.toNat)) w:=by
              unfold Instr.sliceAt;rw[Sem.run_bind,run_underlying hu];exact hr
             exact value (by rw[ho];simp) (by simp[execOp,ho,ub,JK,ZO,hr]) hk.2 (.str _)
         exact hk.elim
        |some te=>
         rw[eU]at hk;have opt:∀(y:Option Operand)(z:Option D),(∀u,y=some u->u∈o.op.operands.toList)->eV U y=some z->(∀d,z=some d->∃v,y.map a.eval=some v/\Rel I β v d)/\(z=none->y.map a.eval=none):=by
          intro y z dv hz;cases y with
          |none=>simp only[eV,Option.some.injEq]at hz;subst hz;exact⟨(λd h=>nomatch h),λ_=>rfl⟩
          |some u=>
           simp only[eV]at hz;cases hu:U.ev u with
           |none=>rw[hu]at hz;cases hz
           |some d=>
            rw[hu]at hz;cases hz;refine⟨λd' h=>?_,(λh=>nomatch h)⟩;cases h;exact⟨_,rfl,iu (dv u rfl) hu⟩
         have ol:=opt lo l (λu hu=>by subst hu;simp[ho,Op.operands]) hl;have oh:=opt hi h (λu hu=>by subst hu;simp[ho,Op.operands]) hh;obtain⟨v,d,hr,bF,aq⟩:=Bc hT hs ht eU (iu (by simp[ho,Op.operands]) hx) ol.1 ol.2 oh.1 oh.2 hk;exact value (by rw[ho];simp) (by simp[execOp,ho,hr]) bF aq
  |fieldAddr t x f=>
   simp only[ho]at hk;cases ht:T t with
   |none=>rw[ht]at hk;exact hk.elim
   |some ti=>
    rw[ht]at hk;cases hx:U.ev x with
    |none=>rw[hx]at hk;exact hk.elim
    |some p=>
     rw[hx]at hk;simp only at hk;cases hf:fK T ti.desc f with
     |none=>rw[hf]at hk;exact hk.elim
     |some q=>
      obtain⟨off,tf⟩:=q;rw[hf]at hk;obtain⟨dw,hk⟩:=ae hk;obtain⟨v,d,hr,bF,aq⟩:=tT (P:=P) (w:=w) hT ht (iu (by simp[ho,Op.operands]) hx) hf (by simpa[Nat.blt_eq]using dw) hk;exact value (by rw[ho];simp) (by simp[execOp,ho,hr]) bF aq
  |field t x f=>
   simp only[ho]at hk;cases ht:T t with
   |none=>rw[ht]at hk;exact hk.elim
   |some ti=>
    rw[ht]at hk;cases hx:U.ev x with
    |none=>rw[hx]at hk;exact hk.elim
    |some p=>
     rw[hx]at hk;cases p with
     |agg cs=>
      simp only at hk;cases hf:fK T ti.desc f with
      |none=>rw[hf]at hk;exact hk.elim
      |some q=>
       obtain⟨off,tf⟩:=q;rw[hf]at hk;simp only at hk;obtain⟨s1,s2⟩:=Be (P:=P) (w:=w) hT ht (iu (by simp[ho,Op.operands]) hx) hf;cases ha:tf.agg with
       |true=>
        rw[ha]at hk;cases hg:cQ cs off tf.size with
        |none=>rw[hg]at hk;exact hk.elim
        |some d=>
         rw[hg]at hk;simp only[ax]at hk;obtain⟨rfl,hle⟩:=y9 hg;obtain⟨z,hr,aq⟩:=s1 ha hle;exact value (by rw[ho];simp) (by simp[execOp,ho,hr]) hk aq
       |false=>
        rw[ha]at hk;cases hg:cs[off]? with
        |none=>rw[hg]at hk;exact hk.elim
        |some d=>
         rw[hg]at hk;obtain⟨z,hr,aq⟩:=s2 ha d hg;exact value (by rw[ho];simp) (by simp[execOp,ho,hr]) hk aq
     |_=>exact hk.elim
  |indexAddr t x i=>
   simp only[ho]at hk;cases ht:T t with
   |none=>rw[ht]at hk;exact hk.elim
   |some ti=>
    rw[ht]at hk;cases hx:U.ev x with
    |none=>rw[hx]at hk;exact hk.elim
    |some p=>
     rw[hx]at hk;cases hi:U.ev i with
     |none=>rw[hi]at hk;exact hk.elim
     |some q=>
      rw[hi]at hk;simp only at hk;cases eU:ee T ti.desc with
      |none=>rw[eU]at hk;exact hk.elim
      |some te=>
       rw[eU]at hk;obtain⟨v,d,hr,bF,aq⟩:=tV hT hs ht eU (iu (by simp[ho,Op.operands]) hx) (iu (by simp[ho,Op.operands]) hi) hk;exact value (by rw[ho];simp) (by simp[execOp,ho,hr]) bF aq
  |index t x i=>
   simp only[ho]at hk;cases ht:T t with
   |none=>rw[ht]at hk;exact hk.elim
   |some ti=>
    rw[ht]at hk;cases hx:U.ev x with
    |none=>rw[hx]at hk;exact hk.elim
    |some p=>
     rw[hx]at hk;cases hi:U.ev i with
     |none=>rw[hi]at hk;cases p<;>exact hk.elim
     |some q=>
      rw[hi]at hk;cases p with
      |str st=>
       cases q with
       |int kk n=>
        simp only at hk;cases hd:ti.desc with
        |string=>
         rw[hd]at hk;obtain⟨h0,b,hb,hk⟩:=hk;have Yz:=(iu (by simp[ho,Op.operands]) hi).aT;have ub:=(iu (by simp[ho,Op.operands]) hx).ir;have hu:P.underlying t=some .string:=hd▸(hT t ti ht).desc;have hr:(Instr.index t (.string st) (.int kk n)).run P w=.ok (.int .u8 b.toNat) w:=by
          unfold Instr.index;simp[run_underlying hu,asIntOf,h0,hb]
         exact value (by rw[ho];simp) (by simp[execOp,ho,Yz,ub,hr]) hk (.int _ _)
        |_=>rw[hd]at hk;exact hk.elim
       |_=>exact hk.elim
      |agg cs=>
       cases q with
       |int kk n=>
        simp only at hk;cases hd:ti.desc with
        |array len e=>
         rw[hd]at hk;simp only[ee]at hk;cases eU:T e with
         |none=>rw[eU]at hk;exact hk.elim
         |some te=>
          rw[eU]at hk;obtain⟨⟨h0,h1⟩,hk⟩:=hk;obtain⟨s1,s2⟩:=Bf (P:=P) (w:=w) (kk:=kk) hT ht hd (hT e te eU) (iu (by simp[ho,Op.operands]) hx) h0 h1;have Yz:=(iu (by simp[ho,Op.operands]) hi).aT;cases ha:te.agg with
          |true=>
           rw[ha]at hk;obtain⟨ds,rfl,hl,hk⟩:=hk;obtain⟨z,hr,aq⟩:=s1 ha (by
            rcases Nat.eq_zero_or_pos te.size with h|h
            .simp[h]
            simp at hl;omega)
           exact value (by rw[ho];simp) (by simp[execOp,ho,Yz,hr]) hk aq
          |false=>
           rw[ha]at hk;obtain⟨d,gq,hk⟩:=hk;obtain⟨z,hr,aq⟩:=s2 ha d gq;exact value (by rw[ho];simp) (by simp[execOp,ho,Yz,hr]) hk aq
        |_=>rw[hd]at hk;exact hk.elim
       |_=>exact hk.elim
      |_=>exact hk.elim
  |extract x i=>
   simp only[ho]at hk;cases hx:U.ev x with
   |none=>rw[hx]at hk;exact hk.elim
   |some p=>
    rw[hx]at hk;cases p with
    |b9 ds=>
     simp only at hk;cases hd:ds[i]? with
     |none=>rw[hd]at hk;exact hk.elim
     |some d=>
      rw[hd]at hk;obtain⟨cs,fS,gi⟩:=(iu (by simp[ho,Op.operands]) hx).qv;have hi:i<cs.toList.length:=by rw[gi.1];exact(List.getElem?_eq_some_iff.1 hd).1
      have hv:cs.toList[i]?=some cs.toList[i]:=List.getElem?_eq_getElem hi;have Pq:cs[i]?=some cs.toList[i]:=by simp
      exact value (by rw[ho];simp) (by simp[execOp,ho,Instr.extract,fS,Pq]) hk (gi.2 i _ d hv hd)
    |_=>exact hk.elim
  |call c=>
   simp only[ho]at hk;cases hc:c.callee with
   |value f=>
    rw[hc]at hk;simp only at hk;have dv:∀x,x∈c.args.toList->x∈o.op.operands.toList:=λx hx=>by
     simp only[ho,Op.operands,Call.operands,hc,Array.toList_append,List.mem_append];exact .inr hx
    have Nx:f∈o.op.operands.toList:=by simp[ho,Op.operands,Call.operands,hc]
    cases hf:U.ev f with
    |none=>rw[hf]at hk;exact hk.elim
    |some df=>
     rw[hf]at hk;cases ha:U.jv c.args.toList with
     |none=>
      rw[ha]at hk;exfalso;revert hk;split<;>simp_all
     |some as=>
      rw[ha]at hk;cases df with
      |bR fn fs cs=>
       cases fn with
       |func fk=>
        simp only at hk;obtain⟨vs,us,hv,h1,h2⟩:=(iu Nx hf).oD;have h3:=hs.jv (λx t hx e=>hV t (e▸dv x hx)) ha;have cW:=h1.append (h3.append h2);have fp:∀i b,β i=some b->∃box,U.boxes[i]?=some box/\bA I β w b box:=hs.bx;have rY:(vs++c.args.map a.eval)++us=(vs.toList++(c.args.toList.map a.eval++us.toList)).toArray:=by
         apply Array.toList_inj.1;simp
        have QE:pU.le I:=aW.le_trans ak.gl hs.I0;cases MX:sh.nw fk with
        |true=>
         rw[MX]at hk;obtain⟨rs,qB,b,⟨vk,qC⟩,hk⟩:=hk;have aq:=ft hs.agree fp hs.Jc cW qB;have gJ:=qC w _ _ (db hs.agree _ β) (aW.le_trans QE (dU hs.agree _ _)) aq;have aP:=gI (P:=P) (w:=w) ho hc hv vk;rw[rY]at aP;refine qz hF (by rw[ho];simp) aP (R:=λv w'=>∃bi I',dG I w w'/\Grow w.heap.size (bQ ((fs++(as++cs)).flatMap (aF U.boxes fuel)) β w I) I'/\bc I' w'/\(∀R,bi.R=some R->w.heap.size<=R/\∀off,I' R off=none)/\(∀(I2:aW)(β:BE),(jg b=true\/I'.le I2)->bA I2 β w' bi b)/\(∀(I2:aW)(β:BE)(i:Nat),β i=some bi->Rel I2 β v (xf b i)))
          (gJ.mono λe w'⟨v,bi,I',he,qn,eH⟩=>⟨v,he,bi,I',qn.plus,eH⟩) ?_
         rintro v w'⟨bi,I',h4,h8,h9,h5,h6,h7⟩;cases nG:jg b with
         |true=>
          rw[nG]at hk;exact iS _ _ _ _ bi hk (λR hR=>(h5 R hR).1) h4 (h9.of_le (aW.le_trans (dU hs.agree _ _) h8.1)) (h6 I β (.inl nG)) (by unfold jg at nG;split at nG<;>first|rfl|cases nG) (λβ' i hi=>h7 I β' i hi)
         |false=>
          rw[nG]at hk;obtain⟨nG,hk⟩:=ae hk;exact Pk _ _ _ _ _ bi I' hk h5 h4 h8 h9 (h6 I' β (.inr (aW.le_refl _))) (by unfold uQ at nG;split at nG<;>first|rfl|cases nG) (λβ' i hi=>h7 I' β' i hi)
        |false=>
        rw[MX]at hk;cases uc:sh.sh fk with
        |true=>
         rw[uc]at hk;rcases hk with⟨rs,qB,d,⟨vk,qC⟩,hk⟩|⟨sel,jG,uU,Q,_,_,_,_,_,⟨d,bu,y',hq⟩,hk⟩
         .have aq:=ft hs.agree fp hs.Jc cW qB
          have gJ:=qC w _ _ (db hs.agree _ β) (aW.le_trans QE (dU hs.agree _ _)) aq;have aP:=gI (P:=P) (w:=w) ho hc hv vk;rw[rY]at aP;refine qz hF (by rw[ho];simp) aP (R:=λv w'=>∃I',dG I w w'/\Grow w.heap.size (bQ ((fs++(as++cs)).flatMap (aF U.boxes fuel)) β w I) I'/\bc I' w'/\Rel I' dM v d)
           (gJ.mono λe w'⟨v,I',he,qn,eH⟩=>⟨v,he,I',qn.plus,eH⟩) ?_
          rintro v w'⟨I',h4,h5,h6,h7⟩;exact dZ _ _ _ _ I' hk h4 h5 h6 h7
         rcases ZM with h|h
         .obtain⟨X,_,rI⟩:=hk d bu y' hq
          exact(h _ _ _ rI).elim
         rcases h c f fk fs cs ho hc hf with h|h
         .rw[h]at uc;cases uc
         rw[h]at MX;cases MX
        |false=>
        rw[uc]at hk;obtain⟨rs,qB,d,⟨vk,qC⟩,hk⟩:=hk;have aq:=ft hs.agree fp hs.Jc cW qB;have gJ:=qC w _ _ (db hs.agree _ β) (aW.le_trans QE (dU hs.agree _ _)) aq;have aP:=gI (P:=P) (w:=w) ho hc hv vk;rw[rY]at aP;refine qz hF (by rw[ho];simp) aP (R:=λv w'=>∃I',dG I w w'/\Grow w.heap.size (bQ ((fs++(as++cs)).flatMap (aF U.boxes fuel)) β w I) I'/\bc I' w'/\Rel I' dM v d)
         (gJ.mono λe w'⟨v,I',he,qn,eH⟩=>⟨v,he,I',qn.plus,eH⟩) ?_
        rintro v w'⟨I',h4,h5,h6,h7⟩;exact dZ _ _ _ _ I' hk h4 h5 h6 h7
       |_=>exact hk.elim
      |j8 l=>
       simp only at hk;cases hy:U.y with
       |rem l' xs=>
        rw[hy]at hk;cases xs with
        |nil=>exact hk.elim
        |cons x r=>
         refine(QB.elim (λhh=>?_) λh=>h c f l ho hc hf).elim;simp only at hk;split at hk
         .split at hk
          .obtain⟨_,_,hk⟩:=hk
           obtain⟨_,hk⟩:=ae hk;exact hh.2 _ _ _ hk.1
          exact hk.elim
         exact hh.1 _ _ hk.2.2.1
       |_=>rw[hy]at hk;exact hk.elim
      |_=>exact hk.elim
   |builtin b=>
    rw[hc]at hk;simp only at hk;cases ha:U.jv c.args.toList with
    |none=>rw[ha]at hk;exact hk.elim
    |some as=>
     rw[ha]at hk;have gi:=hs.jv (λx t hx e=>hV t (by
      simp only[ho,Op.operands,Call.operands,hc,Array.toList_append,List.mem_append];exact .inr (e▸hx))) ha
     have jl:(c.args.map a.eval)=(c.args.toList.map a.eval).toArray:=by apply Array.toList_inj.1;simp
     have run:∀(s:Sem Value) v,(∀cs,builtin b c.argTypes o.type cs (c.args.map a.eval)=(do pure (.value (<-s)):Sem Next))->s.run P w=.ok v w->(execOp a.eval o).run P w=.ok (.value v) w:=by
      intro s v hb hr;simp only[execOp,ho,resolve,hc,Sem.run_bind,Sem.run_pure,Result.andThen_ok,invoke,hb];simp[hr]
     cases b with
     |len=>
      simp only at hk;cases as with
      |nil=>exact hk.elim
      |cons x as=>
       cases as with
       |cons y as=>exact hk.elim
       |nil=>
        simp only at hk;obtain⟨v,hv,xb⟩:=gi.k7;rw[hv]at jl;unfold typeAt at hk;cases vm:c.argTypes[0]? with
        |none=>rw[vm]at hk;exact hk.elim
        |some t0=>
         rw[vm]at hk;simp only at hk;cases ht:T t0 with
         |none=>rw[ht]at hk;exact hk.elim
         |some ti=>
          rw[ht]at hk;simp only at hk;have h:=hT _ _ ht;have QF:∀(s:Value),s=v->Builtin.len_ c.argTypes o.type (c.args.map a.eval)=Builtin.len_ #[t0] o.type #[s]:=by
           intro s fu;subst fu;rw[jl];simp[Builtin.len_,vm]
          cases hd:ti.desc with
          |array m e=>
           rw[hd]at hk;exact value (by rw[ho];simp) (run _ _ (λcs=>rfl) (by rw[QF v rfl];exact xo h hd _ _)) hk (.int _ _)
          |slice e=>
           rw[hd]at hk;obtain⟨z,e',hr,bF,aq⟩:=Hk (P:=P) (w:=w) h xb hd hk o.type;exact value (by rw[ho];simp) (run _ _ (λcs=>rfl) (by rw[QF v rfl];exact hr)) bF aq
          |string=>
           rw[hd]at hk;cases x with
           |str s=>
            exact value (by rw[ho];simp) (run _ _ (λcs=>rfl) (by rw[QF _ xb.ir.symm];exact run_len_string h hd _ _)) hk (.int _ _)
           |_=>exact hk.elim
          |_=>rw[hd]at hk;exact hk.elim
     |min=>
      obtain⟨v,d,hr,bF,aq⟩:=Hh (P:=P) (w:=w) gi hk c.argTypes o.type;exact value (by rw[ho];simp) (run _ v (λcs=>rfl) (by rw[jl];exact hr)) bF aq
     |max=>
      obtain⟨v,d,hr,bF,aq⟩:=Hj (P:=P) (w:=w) gi hk c.argTypes o.type;exact value (by rw[ho];simp) (run _ v (λcs=>rfl) (by rw[jl];exact hr)) bF aq
     |_=>(simp[dS,ho,hc]at hm)
   |invoke r m=>rw[hc]at hk;exact hk.elim
  |makeMap t r=>
   simp only[ho]at hk;cases ht:T t with
   |none=>rw[ht]at hk;exact hk.elim
   |some ti=>
    rw[ht]at hk;cases r with
    |some x=>exact hk.elim
    |none=>
     simp only at hk;cases hd:ti.desc with
     |map kt et=>
      rw[hd]at hk;simp only at hk;refine cz hF (by rw[ho];simp) (v:=.map (some w.heap.size)) (w':=w.alloc (.map #[] 0)) (by unfold execOp;simp only[ho,Option.map_none,Sem.run_bind];rfl) ?_;cases QG:sh.mp with
      |none=>
       rw[QG]at hk;exact iS _ _ _ _ ⟨some w.heap.size,true,0,0,0,0,0⟩ hk (λR h=>by cases h;exact Nat.le_refl _) (aB.alloc w _).toM (hs.agree.aE (aB.alloc w _))
        ⟨rfl,_,#[],0,rfl,World.alloc_heap_new w _,λe he=>by simp at he,.nil,rfl,rfl,λi e d he=>by simp at he,λi e d he=>by simp at he⟩ rfl (λβ' i hi=>.cn i _ _ hi rfl rfl)
      |some c=>
       rw[QG]at hk;obtain⟨I',h1,h2,h3⟩:=JE hs.agree c;exact dZ _ _ _ _ I' hk (aB.alloc w _).toM (by rw[List.flatMap_nil,Ho];exact h1) h2 h3
     |_=>rw[hd]at hk;exact hk.elim
  |_=>(simp[dS,ho]at hm)
end
end Go.V
