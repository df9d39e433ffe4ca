/- One operation that writes nothing that was there: what it comes to. No condition. -/
import Derived.Laws.Strings3
import Derived.Test.YtfdflbdnjimfaaaPackUC

namespace Go.V
open Go.RowKit

section
variable {P:Program} [Glb] {sh:Kinds} {ish:Nat→Bool} {T:Nat→Option TI} {cx:Cx} {V:Nat→Prop} {σ:St} {β:BE} {I:Imm} {S:Nat→Prop} {N:Nat} {a:Act} {w:World}

omit [Glb] in
theorem run_len_array {t:TypeId} {ti:TI} (h:TIok P t ti) {n:Nat} {e:TypeId} (hd:ti.desc=.array n e) (ty:TypeId) (v:Value):(Builtin.len_ #[t] ty #[v]).run P w=.ok (.int .i64 n) w:=by
 simp [Builtin.len_,run_underlying h.desc,hd,goInt]
omit [Glb] in
theorem run_len_string {t:TypeId} {ti:TI} (h:TIok P t ti) (hd:ti.desc=.string) (ty:TypeId) (s:ByteArray):(Builtin.len_ #[t] ty #[.string s]).run P w=.ok (.int .i64 s.size) w:=by
 simp [Builtin.len_,run_underlying h.desc,hd,goInt]

omit [Glb] in
theorem RelL.one_inv {vs:List Value} {d:D} (h:RelL I β vs [d]):∃ v,vs=[v]∧Rel I β v d:=by
 obtain ⟨v,vs',rfl,hv,h'⟩:=h.cons_inv
 rw [h'.nil_inv]
 exact ⟨v,rfl,hv⟩

omit [Glb] in
theorem readAgg_some {cs:List D} {off n:Nat} {d:D} (h:readAgg cs off n=some d):d=.agg ((cs.drop off).take n)∧off+n≤cs.length:=by
 unfold readAgg at h
 split at h
 ·rename_i hf
  cases h
  exact ⟨rfl,Nat.le_of_ble_eq_true hf⟩
 ·cases h

omit [Glb] in
theorem new_rows {size n:Nat} {cs:Array Value} {e:TypeId} {rows:List (List D)} (hr:RowsAt I size cs.toList rows) (hn:rows.length=n) :
    BoxRel I β (w.alloc (.cells cs e)) ⟨some w.heap.size,false,0,size,n,n⟩ (.rows false 0 size rows) ∧
    ∀ (β':BE) (i:Nat),β' i=some ⟨some w.heap.size,false,0,size,n,n⟩→Rel I β' (.slice (some ⟨w.heap.size,0,none⟩) n n) (.sl i 0 0 n):=by
  refine ⟨⟨rfl,rfl,rfl,hn.symm,hr.row,by simp [hn],cs,e,World.alloc_heap_new w _,?_,?_⟩,fun β' i hi=>?_⟩
  ·have:=hr.len;simp at this;rw [this,hn]
  ·intro r row j d h1 h2
   obtain ⟨v,h3,h4,h5⟩:=hr.cell r row j d h1 h2
   exact ⟨v,by simpa using h3,h4,h5⟩
  ·exact .sl _ _ i 0 0 n _ hi rfl rfl (by simp) (Nat.le_refl _) (by simp) (fun _=>⟨w.heap.size,rfl,by simp⟩)

omit [Glb] in
theorem Rel.gp_inv {v:Value} {g off:Nat} (h:Rel I β v (.gp g off)):v=.pointer (some ⟨g,off,none⟩):=by cases h;rfl
omit [Glb] in
theorem Rel.list_nil {v:Value} {sz:Nat} {rows:List (List D)} (h:Rel I β v (.list sz rows)):∃ A m cp,v=.slice A m cp∧(A.isNone=true→rows=[]):=by
 cases h with
 | list0 A cp=>exact ⟨A,0,cp,rfl,fun _=>rfl⟩
 | list=>exact ⟨_,_,_,rfl,fun h=>by cases h⟩
omit [Glb] in
theorem run_equalIn_nil (n:Nat) {t e:TypeId} (h:P.underlying t=some (.slice e)) (A:Option Addr) (m cp:Nat):(Op.equalIn (n+1) t (.slice A m cp) (.slice none 0 0)).run P w=.ok A.isNone w:=by
 cases A <;> simp [Op.equalIn,run_underlying h]
omit [Glb] in
theorem run_eq_nil {t e:TypeId} (h:P.underlying t=some (.slice e)) (A:Option Addr) (m cp:Nat):(binOp .eql t (.slice A m cp) (.slice none 0 0)).run P w=.ok (.bool A.isNone) w:=by
 simp only [binOp]
 simp [Op.equal,Op.maxDepth,run_equalIn_nil 9999 h]

omit [Glb] in
theorem reifyP_sound {bs:List Box} (hagree:Agree I w) (hbx:∀ i b,β i=some b→∃ box,bs[i]?=some box∧BoxRel I β w b box) {L:List Nat}:∀ {ps:List (Nat × Operand)} {l l':List (Nat × D)},l.length=ps.length →
    (∀ (i:Nat) (x:Nat × Operand) (y:Nat × D),ps[i]?=some x→l[i]?=some y→x.1=y.1∧Rel I β (a.eval x.2) y.2)→reifyP bs l=some l'→(∀ i,i∈touchP bs l→i∈L) →
    l'.length=ps.length∧∀ (i:Nat) (x:Nat × Operand) (y:Nat × D),ps[i]?=some x→l'[i]?=some y→x.1=y.1∧Rel (plusB L β w I) nob (a.eval x.2) y.2
  | [],[],l',_,_,h,_=>by cases h;exact ⟨rfl,fun i x y hx=>by simp at hx⟩
  | [],_::_,_,hl,_,_,_=>by simp at hl
  | _::_,[],_,hl,_,_,_=>by simp at hl
  | p::ps,(j,d)::l,l',hl,hr,h,hL=>by
   simp only [reifyP] at h
   cases hd:reify bs fuel d with
   | none=>rw [hd] at h;cases h
   | some e =>
    rw [hd] at h
    cases hr':reifyP bs l with
    | none=>rw [hr'] at h;cases h
    | some l1 =>
     rw [hr'] at h
     cases h
     obtain ⟨h1,h2⟩:=reifyP_sound hagree hbx (L:=L) (ps:=ps) (l:=l) (l':=l1) (by simpa using hl) (fun i x y hx hy=>hr (i+1) x y (by simpa using hx) (by simpa using hy)) hr' (fun i hi=>hL i (by simp only [touchP,List.flatMap_cons,List.mem_append];exact .inr hi))
     refine ⟨by simp [h1],fun i x y hx hy=>?_⟩
     cases i with
     | zero =>
      simp at hx hy
      subst hx hy
      obtain ⟨h3,h4⟩:=hr 0 p (j,d) rfl rfl
      exact ⟨h3,reify_sound hagree hbx L fuel h4 hd fun k hk=>hL k (by simp only [touchP,List.flatMap_cons,List.mem_append];exact .inl hk)⟩
     | succ i=>exact h2 i x y (by simpa using hx) (by simpa using hy)

theorem mild_wp (hT:TOK P T) {F:Fence} (hF:FW F) (hcx:cx.Ok) (hs:Sim cx V σ β I S N a w) {n:Nat} {o:Oper} (hV:∀ t,Operand.tmp t∈o.op.operands.toList→V t) (hm:mild o=true∨(∃ x,o.op=.assign x)∨∃ op t x y ls,o.op=.binOp op t x y ls) {k:Eff→Prop}
    (hk:opE T (CD P sh) σ o k) {next:Act→World→Prop} {Q:Exit→Act→World→Prop}
    (hyl:((∀ b y,¬ k (.yielded b y))∧∀ b y nb,¬ k (.gave b y nb))∨∀ c f l,o.op=.call c→c.callee=.value f→σ.ev f≠some (.yld l))
    (hshr:(∀ d bs y,¬ k (.resS d bs y))∨∀ c f fk fs cs,o.op=.call c→c.callee=.value f→σ.ev f=some (.clo (.func fk) fs cs)→sh.sh fk=false∨sh.nw fk=true) (hval:∀ d v,k (.val d)→Rel I β v d→next (a.put o.dst v) w)
    (hnew:∀ b mk v w' bi,k (.new b mk)→(∀ R,bi.R=some R→w.heap.size≤R)→Keep (·<w.heap.size) w w'→BoxRel I β w' bi b→b.fz=false→(∀ (β':BE) (i:Nat),β' i=some bi→Rel I β' v (mk i))→next (a.put o.dst v) w')
    (hnewF:∀ b mk L v w' bi,k (.newF b mk L)→(∀ R,bi.R=some R→w.heap.size≤R)→Keep (·<w.heap.size) w w'→BoxRel (plusB L β w I) β w' bi b→b.fz=false→(∀ (β':BE) (i:Nat),β' i=some bi→Rel (plusB L β w I) β' v (mk i))→next (a.put o.dst v) w')
    (hres:∀ d as v w' I',k (.res d as)→Keep (·<w.heap.size) w w'→Grow w.heap.size (plusB (as.flatMap (touch σ.boxes fuel)) β w I) I'→Agree I' w'→Rel I' nob v d→next (a.put o.dst v) w') :
    o.wpIn F n P a w next Q:=by
  -- a value
  have value:∀ {v d},(∀ c,o.op≠.defer c)→(execOp a.eval o).run P w=.ok (.value v) w→k (.val d)→Rel I β v d→o.wpIn F n P a w next Q :=
   fun hd hr hk hrel=>wp_value hF hd hr (hval _ _ hk hrel)
  have hev:∀ {x d},x∈o.op.operands.toList→σ.ev x=some d→Rel I β (a.eval x) d:=fun {x d} hx hd=>hs.ev (fun t e=>hV t (e ▸ hx)) hd
  unfold opE at hk
  cases ho:o.op with
  | move x | assign x =>
   simp only [ho] at hk
   cases hx:σ.ev x with
   | none=>rw [hx] at hk;exact hk.elim
   | some d =>
    rw [hx] at hk
    exact value (by rw [ho];simp) (by simp [execOp,ho]) hk (hev (by simp [ho,Op.operands]) hx)
  | pick c x y =>
   simp only [ho] at hk
   have hin:c∈o.op.operands.toList∧x∈o.op.operands.toList∧y∈o.op.operands.toList:=by simp [ho,Op.operands]
   have tcase:σ.ev c=some .tt∨(∃ b,σ.ev c=some (.bool b)∧b=true)→(match σ.ev x with | some d=>k (.val d) | none=>False)→o.wpIn F n P a w next Q:=by
    intro hc hk
    have hcv:a.eval c=.bool true:=by
     rcases hc with hc | ⟨b,hc,rfl⟩
     ·exact (hev hin.1 hc).tt_inv
     ·exact (hev hin.1 hc).bool_inv
    cases hx:σ.ev x with
    | none=>rw [hx] at hk;exact hk.elim
    | some d =>
     rw [hx] at hk
     exact value (by rw [ho];simp) (by simp [execOp,ho,hcv,asBool]) hk (hev hin.2.1 hx)
   have fcase:σ.ev c=some .ff∨(∃ b,σ.ev c=some (.bool b)∧b=false)→(match σ.ev y with | some d=>k (.val d) | none=>False)→o.wpIn F n P a w next Q:=by
    intro hc hk
    have hcv:a.eval c=.bool false:=by
     rcases hc with hc | ⟨b,hc,rfl⟩
     ·exact (hev hin.1 hc).ff_inv
     ·exact (hev hin.1 hc).bool_inv
    cases hx:σ.ev y with
    | none=>rw [hx] at hk;exact hk.elim
    | some d =>
     rw [hx] at hk
     exact value (by rw [ho];simp) (by simp [execOp,ho,hcv,asBool]) hk (hev hin.2.2 hx)
   cases hc:σ.ev c with
   | none=>rw [hc] at hk;exact hk.elim
   | some d =>
    rw [hc] at hk
    cases d with
    | tt=>exact tcase (.inl hc) hk
    | ff=>exact fcase (.inl hc) hk
    | bool b =>
     cases b with
     | true=>exact tcase (.inr ⟨true,hc,rfl⟩) (hk.1 rfl)
     | false=>exact fcase (.inr ⟨false,hc,rfl⟩) (hk.2 rfl)
    | _=>exact hk.elim
  | alloc t =>
   simp only [ho] at hk
   cases ht:T t with
   | none=>rw [ht] at hk;exact hk.elim
   | some ti =>
    rw [ht] at hk
    have h:=hT t ti ht
    obtain ⟨z,hz,hzr⟩:=h.run_zero (P:=P) w I β
    refine wp_value hF (by rw [ho];simp) (v:=.pointer (some ⟨w.heap.size,0,none⟩)) (w':=w.alloc (.cells z.cells t)) ?_
     (hnew _ _ _ _ ⟨some w.heap.size,true,0,0,0,0⟩ hk (fun R h=>by cases h;exact Nat.le_refl _) (Keep.alloc w _) ⟨rfl,w.heap.size,z.cells,t,rfl,World.alloc_heap_new w _,hzr⟩ rfl (fun β' i hi=>.loc i 0 _ _ hi rfl rfl))
    simp [execOp,ho,Instr.alloc,hz,newVar,newRow]
  | box t x =>
   simp only [ho] at hk
   cases hx:σ.ev x with
   | none=>rw [hx] at hk;exact hk.elim
   | some d =>
    rw [hx] at hk
    simp only at hk
    cases hc:cellsOf d with
    | none=>rw [hc] at hk;exact hk.elim
    | some cs =>
     rw [hc] at hk
     have hr:=(hev (by simp [ho,Op.operands]) hx).cells hc
     refine wp_value hF (by rw [ho];simp) (v:=.pointer (some ⟨w.heap.size,0,none⟩)) (w':=w.alloc (.cells (a.eval x).cells t)) ?_
      (hnew _ _ _ _ ⟨some w.heap.size,true,0,0,0,0⟩ hk (fun R h=>by cases h;exact Nat.le_refl _) (Keep.alloc w _) ⟨rfl,w.heap.size,_,t,rfl,World.alloc_heap_new w _,hr⟩ rfl (fun β' i hi=>.loc i 0 _ _ hi rfl rfl))
     simp [execOp,ho,Instr.box,newVar,newRow]
  | build t ps =>
   simp only [ho] at hk
   cases ht:T t with
   | none=>rw [ht] at hk;exact hk.elim
   | some ti =>
    rw [ht] at hk
    cases hl:σ.evP ps.toList with
    | none=>rw [hl] at hk;exact hk.elim
    | some l =>
     rw [hl] at hk
     simp only at hk
     cases hb:buildable T ti.desc with
     | false=>rw [hb] at hk;exact hk.elim
     | true =>
      rw [hb] at hk
      cases hf:fillCells (placeE T ti.desc) ti.zero l with
      | none=>rw [hf] at hk;exact hk.elim
      | some cs =>
       rw [hf] at hk
       simp only [forceL_eq] at hk
       obtain ⟨v,hv,hvr⟩:=build_sound hT hs ht (ps:=ps) (fun x t hx e=>hV t (by
        simp only [ho,Op.operands,List.mem_map]
        exact ⟨x,hx,e⟩)) hl hb hf
       exact value (by rw [ho];simp) (by simp [execOp,ho,hv]) hk hvr
  | buildSlice t len ps =>
   simp only [ho] at hk
   cases ht:T t with
   | none=>rw [ht] at hk;exact hk.elim
   | some ti =>
    rw [ht] at hk
    cases hl:σ.evP ps.toList with
    | none=>rw [hl] at hk;exact hk.elim
    | some l =>
     rw [hl] at hk
     simp only at hk
     cases hte:sliceTI T ti.desc with
     | none=>rw [hte] at hk;exact hk.elim
     | some te =>
      rw [hte] at hk
      simp only at hk
      cases hf:fillRows te.size (List.replicate len te.zero) l with
      | none =>
       rw [hf] at hk
       obtain ⟨l',hl',rows,hf,hk⟩:=hk
       obtain ⟨hb,hk⟩:=iff'_true hk
       split at hb
       ·rename_i h1 h2
        have hpos:0<te.size:=by simpa [Nat.blt_eq] using h1
        have hmax:len*te.size≤16777216:=Nat.le_of_ble_eq_true h2
        cases hd:ti.desc with
        | slice e =>
         have hee:TIok P e te:=by rw [hd] at hte;exact hT e te hte
         have hev:=evP_sound hs (fun x t hx e=>hV t (by
          simp only [ho,Op.operands,List.mem_map]
          exact ⟨x,hx,e⟩)) hl
         have hrp:=reifyP_sound (L:=touchP σ.boxes l) hs.agree hs.bx hev.1 hev.2 hl' (fun i hi=>hi)
         obtain ⟨cs,hrun,hrows,hrl⟩:=buildSlice_at (a:=a) (w:=w) (β:=nob) hT ht hd hee (ps:=ps) hrp hpos hmax hb hf
         obtain ⟨hbr,hrel⟩:=new_rows (β:=β) (w:=w) (e:=e) hrows hrl
         refine wp_value hF (by rw [ho];simp) (v:=.slice (some ⟨w.heap.size,0,none⟩) len len) (w':=w.alloc (.cells cs e)) (by simp [execOp,ho,hrun])
          (hnewF _ _ _ _ _ _ hk (fun R h=>by cases h;exact Nat.le_refl _) (Keep.alloc w _) hbr rfl fun β' i hi=>by
           have hr:=hrel β' i hi
           cases hz:Nat.beq len 0 with
           | true=>obtain rfl:=Nat.eq_of_beq_eq_true hz;exact .nils _
           | false=>exact hr)
        | _=>rw [hd] at hte;cases hte
       ·cases hb
      | some rows =>
       rw [hf] at hk
       obtain ⟨hb,hk⟩:=iff'_true hk
       split at hb
       ·rename_i h1 h2
        have hpos:0<te.size:=by simpa [Nat.blt_eq] using h1
        have hmax:len*te.size≤16777216:=Nat.le_of_ble_eq_true h2
        cases hd:ti.desc with
        | slice e =>
         have hee:TIok P e te:=by rw [hd] at hte;exact hT e te hte
         obtain ⟨cs,hrun,hrows,hrl⟩:=buildSlice_sound hT hs ht hd hee (ps:=ps) (fun x t hx e=>hV t (by
          simp only [ho,Op.operands,List.mem_map]
          exact ⟨x,hx,e⟩)) hl hpos hmax hb hf
         obtain ⟨hbr,hrel⟩:=new_rows (β:=β) (w:=w) (e:=e) hrows hrl
         refine wp_value hF (by rw [ho];simp) (v:=.slice (some ⟨w.heap.size,0,none⟩) len len) (w':=w.alloc (.cells cs e)) (by simp [execOp,ho,hrun])
          (hnew _ _ _ _ _ hk (fun R h=>by cases h;exact Nat.le_refl _) (Keep.alloc w _) hbr rfl fun β' i hi=>by
           have hr:=hrel β' i hi
           cases hz:Nat.beq len 0 with
           | true=>obtain rfl:=Nat.eq_of_beq_eq_true hz;exact .nils _
           | false=>exact hr)
        | _=>rw [hd] at hte;cases hte
       ·cases hb
  | load t x =>
   simp only [ho] at hk
   cases ht:T t with
   | none=>rw [ht] at hk;exact hk.elim
   | some ti =>
    rw [ht] at hk
    cases hx:σ.ev x with
    | none=>rw [hx] at hk;exact hk.elim
    | some p =>
     rw [hx] at hk
     have hxr:=hev (by simp [ho,Op.operands]) hx
     by_cases hgp:∃ g off,p=.gp g off
     ·obtain ⟨g,off,rfl⟩:=hgp
      simp only at hk
      cases ha:ti.agg with
      | true=>rw [ha] at hk;exact hk.elim
      | false =>
       rw [ha] at hk
       obtain ⟨kd,m,hg,hk⟩:=hk
       have hv:a.eval x=.pointer (some ⟨g,off,none⟩):=hxr.gp_inv
       have hg:Glb.tab g off=some (kd,m):=hg
       have hG:glbI g off=some (.int kd m):=by unfold glbI;rw [hg]
       have hcell:=cellM_one (hs.agree g off _ (hs.I0 g off _ (hcx.gl g off _ hG))) rfl
       refine value (by rw [ho];simp) (v:=.int kd m) ?_ hk (.int _ _)
       have:=run_loadVar_one (P:=P) (hT t ti ht) ha hcell
       simp [execOp,ho,hv,Instr.loadAt,Instr.sureAddr,this]
     · have hk:loadE ti σ.boxes p k:=by
         cases p <;> first | exact hk | exact absurd ⟨_,_,rfl⟩ hgp
       obtain ⟨v,d,hr,hk',hrel⟩:=loadE_sound (hT t ti ht) hs hxr hk
       exact value (by rw [ho];simp) (by simp [execOp,ho,hr]) hk' hrel
  | nilCheck x =>
   simp only [ho] at hk
   cases hx:σ.ev x with
   | none=>rw [hx] at hk;exact hk.elim
   | some p =>
    rw [hx] at hk
    have hr:=hev (by simp [ho,Op.operands]) hx
    cases p with
    | loc i off =>
     obtain ⟨R,hR⟩:=hr.loc_inv
     exact value (by rw [ho];simp) (by simp only [execOp,ho,hR];rfl) hk (hR ▸ hr)
    | ro cs =>
     obtain ⟨A,hA⟩:=hr.ro_inv
     exact value (by rw [ho];simp) (by simp only [execOp,ho,hA];rfl) hk (hA ▸ hr)
    | _=>exact hk.elim
  | binOp op t x y u =>
   simp only [ho] at hk
   cases ht:T t with
   | none=>rw [ht] at hk;exact hk.elim
   | some ti =>
    rw [ht] at hk
    cases hx:σ.ev x with
    | none=>rw [hx] at hk;exact hk.elim
    | some d =>
     rw [hx] at hk
     cases hy:σ.ev y with
     | none=>rw [hy] at hk;revert hk;cases d <;> exact fun hk=>hk.elim
     | some e =>
      rw [hy] at hk
      by_cases hnl:(∃ sz rows,d=.list sz rows)∧e=.nils
      ·obtain ⟨⟨sz,rows,rfl⟩,rfl⟩:=hnl
       simp only at hk
       split at hk
       ·rename_i e0 hd0 hc0
        have hy0:y=.const (.slice none 0 0):=by
         revert hc0
         unfold isNilC
         split
         ·intro _;rfl
         ·intro h;cases h
        subst hy0
        have hxr:=hev (by simp [ho,Op.operands]) hx
        obtain ⟨A,m,cp,hv,hA⟩:=hxr.list_nil
        have hrun:=run_eq_nil (P:=P) (w:=w) (hd0 ▸ (hT t ti ht).desc) A m cp
        refine value (by rw [ho];simp) (v:=.bool A.isNone) ?_ (hk A.isNone hA) (.bool _)
        have e2:a.eval (.const (.slice none 0 0))=.slice none 0 0:=rfl
        simp only [execOp,ho,hv,e2]
        simp [eqGuard,hrun]
       ·exact hk.elim
      have hk:binE ti op d e fun d=>k (.val d):=by
       revert hk
       split
       ·rename_i h1 h2 h3
        cases h2;cases h3
        exact absurd ⟨⟨_,_,rfl⟩,rfl⟩ hnl
       ·rename_i h1 h2 h3
        cases h1;cases h2;cases h3
        exact id
       ·rename_i h
        exact absurd rfl (h _ _ _ rfl rfl)
      obtain ⟨z,f,hr,hk',hrel⟩:=bin_sound (P:=P) (w:=w) hT ht (x:=x) (y:=y) (hev (by simp [ho,Op.operands]) hx) (hev (by simp [ho,Op.operands]) hy) hk
      refine value (by rw [ho];simp) ?_ hk' hrel
      simp only [execOp,ho]
      simp only [binRun] at hr
      rw [Sem.run_bind,hr]
      rfl
  | unOp op t x =>
   simp only [ho] at hk
   cases hx:σ.ev x with
   | none=>rw [hx] at hk;cases op <;> exact hk.elim
   | some d =>
    rw [hx] at hk
    have hr:=hev (by simp [ho,Op.operands]) hx
    cases op with
    | not =>
     cases d with
     | tt=>exact value (by rw [ho];simp) (by simp [execOp,ho,hr.tt_inv,Op.unary]) hk .ff
     | ff=>exact value (by rw [ho];simp) (by simp [execOp,ho,hr.ff_inv,Op.unary]) hk .tt
     | bool b=>exact value (by rw [ho];simp) (by simp [execOp,ho,hr.bool_inv,Op.unary]) hk (.bool _)
     | _=>exact hk.elim
    | neg =>
     cases d with
     | int kx m =>
      obtain ⟨r,rfl,hk⟩:=hk
      exact value (by rw [ho];simp) (by simp [execOp,ho,hr.int_inv,Op.unary,Op.intArith]) hk (.int _ _)
     | _=>exact hk.elim
    | _=>cases d <;> exact hk.elim
  | convert s d x =>
   simp only [ho] at hk
   cases hts:T s with
   | none=>rw [hts] at hk;exact hk.elim
   | some ts =>
    rw [hts] at hk
    cases htd:T d with
    | none=>rw [htd] at hk;exact hk.elim
    | some td =>
     rw [htd] at hk
     cases hx:σ.ev x with
     | none=>rw [hx] at hk;exact hk.elim
     | some e =>
      rw [hx] at hk
      have hr:=hev (by simp [ho,Op.operands]) hx
      have h1:=hT s ts hts
      have h2:=hT d td htd
      simp only at hk
      split at hk
      ·rename_i k1 k2 k3 m e1 e2
       obtain ⟨r,rfl,hk⟩:=hk
       refine value (by rw [ho];simp) ?_ hk (.int _ _)
       simp [execOp,ho,hr.int_inv,convert,run_underlying (e1 ▸ h1.desc),run_underlying (e2 ▸ h2.desc),Conv.intToInt]
      ·exact hk.elim
  | makeFunc fn fs cs =>
   simp only [ho] at hk
   cases h1:σ.evL fs.toList with
   | none=>rw [h1] at hk;exact hk.elim
   | some l =>
    rw [h1] at hk
    cases h2:σ.evL cs.toList with
    | none=>rw [h2] at hk;exact hk.elim
    | some m =>
     rw [h2] at hk
     have e1:=hs.evL (fun x t hx e=>hV t (by simp only [ho,Op.operands,Array.toList_append,List.mem_append];exact .inl (e ▸ hx))) h1
     have e2:=hs.evL (fun x t hx e=>hV t (by simp only [ho,Op.operands,Array.toList_append,List.mem_append];exact .inr (e ▸ hx))) h2
     refine value (by rw [ho];simp) (v:=.func fn (fs.map a.eval) (cs.map a.eval)) (by simp [execOp,ho,Instr.makeFunc]) hk ?_
     exact .clo _ _ _ _ _ (by simpa using e1.1) (by simpa using e2.1) (by simpa using e1.2) (by simpa using e2.2)
  | makeSlice t l c =>
   simp only [ho] at hk
   cases ht:T t with
   | none=>rw [ht] at hk;exact hk.elim
   | some ti =>
    rw [ht] at hk
    cases hl:σ.ev l with
    | none=>rw [hl] at hk;exact hk.elim
    | some dl =>
     rw [hl] at hk
     cases hc:σ.ev c with
     | none=>rw [hc] at hk;cases dl <;> first | exact hk.elim | (rename_i kk _;cases kk <;> exact hk.elim)
     | some dc =>
      rw [hc] at hk
      have hrl:=hev (by simp [ho,Op.operands]) hl
      have hrc:=hev (by simp [ho,Op.operands]) hc
      split at hk
      ·rename_i ti' n m e0 e1 e2
       cases e0;cases e1;cases e2
       cases hte:sliceTI T ti.desc with
       | none=>rw [hte] at hk;exact hk.elim
       | some te =>
        rw [hte] at hk
        obtain ⟨hb,h0,rfl,hbytes,j,rfl,hk⟩:=iff'_true hk
        split at hb
        ·rename_i h1 h2
         have hpos:0<te.size:=by simpa [Nat.blt_eq] using h1
         have hbpos:0<te.bytes:=by simpa [Nat.blt_eq] using h2
         cases hd:ti.desc with
         | slice e =>
          have hee:TIok P e te:=by rw [hd] at hte;exact hT e te hte
          have hbp:n≤9223372036854775807:=by
           have h3:1*n≤(te.bytes:Int)*n:=Int.mul_le_mul_of_nonneg_right (by omega) h0
           unfold mostBytes at hbytes
           omega
          obtain ⟨cs,hrun,hrows⟩:=makeSlice_sound (P:=P) (I:=I) (w:=w) hT ht hd hee h0 hbytes hbp hb
          rcases (makeE_inv hk).1 with ⟨z,hz,hk⟩ | hk
          ·have hsz:te.size=1:=by rw [← hee.zlen,hz];rfl
           have hrc':RelC I β cs.toList (List.replicate n.toNat z):=by
            have hl:=hrows.len
            rw [hsz,List.length_replicate,Nat.mul_one] at hl
            have hcell:∀ r,r<n.toNat→∃ v,cs.toList[r]?=some v∧Rel I nob v z∧v.oneCell'=true:=fun r hr=>by
             have:=hrows.cell r [z] 0 z (by rw [hz,List.getElem?_replicate,if_pos hr]) rfl
             rwa [hsz,Nat.mul_one,Nat.add_zero] at this
            refine ⟨⟨by rw [hl,List.length_replicate],fun i v d hv hd=>?_⟩,fun v hv=>?_⟩
            ·rw [List.getElem?_replicate] at hd
             split at hd
             ·rename_i hi
              cases hd
              obtain ⟨u,hu,hr,_⟩:=hcell i hi
              rw [hv] at hu;cases hu
              exact hr.mono I.le_refl (nob_le β)
             ·cases hd
            ·obtain ⟨i,hi,rfl⟩:=List.getElem_of_mem hv
             obtain ⟨u,hu,_,h1⟩:=hcell i (by omega)
             rw [List.getElem?_eq_getElem hi] at hu
             cases hu
             exact h1
           exact wp_value hF (by rw [ho];simp) (v:=.slice (some ⟨w.heap.size,0,none⟩) n.toNat n.toNat) (w':=w.alloc (.cells cs e)) (by simp [execOp,ho,hrl.int_inv,hrc.int_inv,hrun])
            (hnew _ _ _ _ ⟨some w.heap.size,true,0,0,0,0⟩ hk (fun R h=>by cases h;exact Nat.le_refl _) (Keep.alloc w _) ⟨rfl,w.heap.size,cs,e,rfl,World.alloc_heap_new w _,hrc'⟩ rfl fun β' i hi=>.asl _ _ _ _ _ hi rfl rfl)
          ·obtain ⟨hbr,hrel⟩:=new_rows (β:=β) (w:=w) (e:=e) (n:=n.toNat) hrows (by simp)
           exact wp_value hF (by rw [ho];simp) (v:=.slice (some ⟨w.heap.size,0,none⟩) n.toNat n.toNat) (w':=w.alloc (.cells cs e)) (by simp [execOp,ho,hrl.int_inv,hrc.int_inv,hrun])
            (hnew _ _ _ _ _ hk (fun R h=>by cases h;exact Nat.le_refl _) (Keep.alloc w _) hbr rfl hrel)
         | _=>rw [hd] at hte;cases hte
        ·cases hb
      ·exact hk.elim
  | slice t x lo hi mx =>
   simp only [ho] at hk
   cases mx with
   | some m=>exact hk.elim
   | none =>
    cases ht:T t with
    | none=>rw [ht] at hk;exact hk.elim
    | some ti =>
     rw [ht] at hk
     cases hx:σ.ev x with
     | none=>rw [hx] at hk;exact hk.elim
     | some p =>
      rw [hx] at hk
      cases hl:optE σ lo with
      | none=>rw [hl] at hk;exact hk.elim
      | some l =>
       rw [hl] at hk
       cases hh:optE σ hi with
       | none=>rw [hh] at hk;exact hk.elim
       | some h =>
        rw [hh] at hk
        simp only at hk
        cases hte:elemTI T ti.desc with
        | none =>
         rw [hte] at hk
         simp only at hk
         unfold sliceSE at hk
         split at hk
         ·rename_i s kk b hd
          have hu:P.underlying t=some .string:=hd ▸ (hT t ti ht).desc
          have hxv:=(hev (by simp [ho,Op.operands]) hx).str_inv
          cases lo with
          | some u=>simp only [optE] at hl;cases hu':σ.ev u <;> rw [hu'] at hl <;> cases hl
          | none =>
           cases hi with
           | none=>cases hh
           | some u =>
            simp only [optE] at hh
            cases hu':σ.ev u with
            | none=>rw [hu'] at hh;cases hh
            | some d =>
             rw [hu'] at hh
             cases hh
             have huv:=(hev (by simp [ho,Op.operands]) hu').int_inv
             have hr:(Instr.slice t (.string s) none (some (.int kk b)) none).run P w=.ok (.string (s.extract 0 b.toNat)) w:=by
              rw [run_slice_string_to_if w t s kk b hu,if_pos hk.1]
             have hr:(Instr.sliceAt t (.string s) none (some (.int kk b)) none).run P w=.ok (.string (s.extract 0 b.toNat)) w:=by
              unfold Instr.sliceAt
              rw [Sem.run_bind,run_underlying hu]
              exact hr
             exact value (by rw [ho];simp) (by simp [execOp,ho,hxv,huv,hr]) hk.2 (.str _)
         ·exact hk.elim
        | some te =>
         rw [hte] at hk
         have opt:∀ (y:Option Operand) (z:Option D),(∀ u,y=some u→u∈o.op.operands.toList)→optE σ y=some z→(∀ d,z=some d→∃ v,y.map a.eval=some v∧Rel I β v d)∧(z=none→y.map a.eval=none):=by
          intro y z hin hz
          cases y with
          | none=>simp only [optE,Option.some.injEq] at hz;subst hz;exact ⟨(fun d h=>nomatch h),fun _=>rfl⟩
          | some u =>
           simp only [optE] at hz
           cases hu:σ.ev u with
           | none=>rw [hu] at hz;cases hz
           | some d =>
            rw [hu] at hz
            cases hz
            refine ⟨fun d' h=>?_,(fun h=>nomatch h)⟩
            cases h
            exact ⟨_,rfl,hev (hin u rfl) hu⟩
         have ol:=opt lo l (fun u hu=>by subst hu;simp [ho,Op.operands]) hl
         have oh:=opt hi h (fun u hu=>by subst hu;simp [ho,Op.operands]) hh
         obtain ⟨v,d,hr,hk',hrel⟩:=slice_sound hT hs ht hte (hev (by simp [ho,Op.operands]) hx) ol.1 ol.2 oh.1 oh.2 hk
         exact value (by rw [ho];simp) (by simp [execOp,ho,hr]) hk' hrel
  | fieldAddr t x f =>
   simp only [ho] at hk
   cases ht:T t with
   | none=>rw [ht] at hk;exact hk.elim
   | some ti =>
    rw [ht] at hk
    cases hx:σ.ev x with
    | none=>rw [hx] at hk;exact hk.elim
    | some p =>
     rw [hx] at hk
     simp only at hk
     cases hf:fieldTI T ti.desc f with
     | none=>rw [hf] at hk;exact hk.elim
     | some q =>
      obtain ⟨off,tf⟩:=q
      rw [hf] at hk
      obtain ⟨hpos,hk⟩:=iff'_true hk
      obtain ⟨v,d,hr,hk',hrel⟩:=fieldAddr_sound (P:=P) (w:=w) hT ht (hev (by simp [ho,Op.operands]) hx) hf (by simpa [Nat.blt_eq] using hpos) hk
      exact value (by rw [ho];simp) (by simp [execOp,ho,hr]) hk' hrel
  | field t x f =>
   simp only [ho] at hk
   cases ht:T t with
   | none=>rw [ht] at hk;exact hk.elim
   | some ti =>
    rw [ht] at hk
    cases hx:σ.ev x with
    | none=>rw [hx] at hk;exact hk.elim
    | some p =>
     rw [hx] at hk
     cases p with
     | agg cs =>
      simp only at hk
      cases hf:fieldTI T ti.desc f with
      | none=>rw [hf] at hk;exact hk.elim
      | some q =>
       obtain ⟨off,tf⟩:=q
       rw [hf] at hk
       simp only at hk
       obtain ⟨s1,s2⟩:=field_sound (P:=P) (w:=w) hT ht (hev (by simp [ho,Op.operands]) hx) hf
       cases ha:tf.agg with
       | true =>
        rw [ha] at hk
        cases hg:readAgg cs off tf.size with
        | none=>rw [hg] at hk;exact hk.elim
        | some d =>
         rw [hg] at hk
         simp only [forceA_eq] at hk
         obtain ⟨rfl,hle⟩:=readAgg_some hg
         obtain ⟨z,hr,hrel⟩:=s1 ha hle
         exact value (by rw [ho];simp) (by simp [execOp,ho,hr]) hk hrel
       | false =>
        rw [ha] at hk
        cases hg:cs[off]? with
        | none=>rw [hg] at hk;exact hk.elim
        | some d =>
         rw [hg] at hk
         obtain ⟨z,hr,hrel⟩:=s2 ha d hg
         exact value (by rw [ho];simp) (by simp [execOp,ho,hr]) hk hrel
     | _=>exact hk.elim
  | indexAddr t x i =>
   simp only [ho] at hk
   cases ht:T t with
   | none=>rw [ht] at hk;exact hk.elim
   | some ti =>
    rw [ht] at hk
    cases hx:σ.ev x with
    | none=>rw [hx] at hk;exact hk.elim
    | some p =>
     rw [hx] at hk
     cases hi:σ.ev i with
     | none=>rw [hi] at hk;exact hk.elim
     | some q =>
      rw [hi] at hk
      simp only at hk
      cases hte:elemTI T ti.desc with
      | none=>rw [hte] at hk;exact hk.elim
      | some te =>
       rw [hte] at hk
       obtain ⟨v,d,hr,hk',hrel⟩:=indexAddr_sound hT hs ht hte (hev (by simp [ho,Op.operands]) hx) (hev (by simp [ho,Op.operands]) hi) hk
       exact value (by rw [ho];simp) (by simp [execOp,ho,hr]) hk' hrel
  | index t x i =>
   simp only [ho] at hk
   cases ht:T t with
   | none=>rw [ht] at hk;exact hk.elim
   | some ti =>
    rw [ht] at hk
    cases hx:σ.ev x with
    | none=>rw [hx] at hk;exact hk.elim
    | some p =>
     rw [hx] at hk
     cases hi:σ.ev i with
     | none=>rw [hi] at hk;cases p <;> exact hk.elim
     | some q =>
      rw [hi] at hk
      cases p with
      | str st =>
       cases q with
       | int kk n =>
        simp only at hk
        cases hd:ti.desc with
        | string =>
         rw [hd] at hk
         obtain ⟨h0,b,hb,hk⟩:=hk
         have hiv:=(hev (by simp [ho,Op.operands]) hi).int_inv
         have hxv:=(hev (by simp [ho,Op.operands]) hx).str_inv
         have hu:P.underlying t=some .string:=hd ▸ (hT t ti ht).desc
         have hr:(Instr.index t (.string st) (.int kk n)).run P w=.ok (.int .u8 b.toNat) w:=by
          unfold Instr.index
          simp [run_underlying hu,asIntOf,h0,hb]
         exact value (by rw [ho];simp) (by simp [execOp,ho,hiv,hxv,hr]) hk (.int _ _)
        | _=>rw [hd] at hk;exact hk.elim
       | _=>exact hk.elim
      | agg cs =>
       cases q with
       | int kk n =>
        simp only at hk
        cases hd:ti.desc with
        | array len e =>
         rw [hd] at hk
         simp only [elemTI] at hk
         cases hte:T e with
         | none=>rw [hte] at hk;exact hk.elim
         | some te =>
          rw [hte] at hk
          obtain ⟨⟨h0,h1⟩,hk⟩:=hk
          obtain ⟨s1,s2⟩:=index_sound (P:=P) (w:=w) (kk:=kk) hT ht hd (hT e te hte) (hev (by simp [ho,Op.operands]) hx) h0 h1
          have hiv:=(hev (by simp [ho,Op.operands]) hi).int_inv
          cases ha:te.agg with
          | true =>
           rw [ha] at hk
           obtain ⟨ds,rfl,hl,hk⟩:=hk
           obtain ⟨z,hr,hrel⟩:=s1 ha (by
            rcases Nat.eq_zero_or_pos te.size with h | h
            ·simp [h]
            ·simp at hl;omega)
           exact value (by rw [ho];simp) (by simp [execOp,ho,hiv,hr]) hk hrel
          | false =>
           rw [ha] at hk
           obtain ⟨d,hd',hk⟩:=hk
           obtain ⟨z,hr,hrel⟩:=s2 ha d hd'
           exact value (by rw [ho];simp) (by simp [execOp,ho,hiv,hr]) hk hrel
        | _=>rw [hd] at hk;exact hk.elim
       | _=>exact hk.elim
      | _=>exact hk.elim
  | extract x i =>
   simp only [ho] at hk
   cases hx:σ.ev x with
   | none=>rw [hx] at hk;exact hk.elim
   | some p =>
    rw [hx] at hk
    cases p with
    | tup ds =>
     simp only at hk
     cases hd:ds[i]? with
     | none=>rw [hd] at hk;exact hk.elim
     | some d =>
      rw [hd] at hk
      obtain ⟨cs,hcs,hrl⟩:=(hev (by simp [ho,Op.operands]) hx).tup_inv
      have hi:i<cs.toList.length:=by rw [hrl.1];exact (List.getElem?_eq_some_iff.1 hd).1
      have hv:cs.toList[i]?=some cs.toList[i]:=List.getElem?_eq_getElem hi
      have hv':cs[i]?=some cs.toList[i]:=by simp
      exact value (by rw [ho];simp) (by simp [execOp,ho,Instr.extract,hcs,hv']) hk (hrl.2 i _ d hv hd)
    | _=>exact hk.elim
  | call c =>
   simp only [ho] at hk
   cases hc:c.callee with
   | value f =>
    rw [hc] at hk
    simp only at hk
    have hin:∀ x,x∈c.args.toList→x∈o.op.operands.toList:=fun x hx=>by
     simp only [ho,Op.operands,Call.operands,hc,Array.toList_append,List.mem_append];exact .inr hx
    have hfi:f∈o.op.operands.toList:=by simp [ho,Op.operands,Call.operands,hc]
    cases hf:σ.ev f with
    | none=>rw [hf] at hk;exact hk.elim
    | some df =>
     rw [hf] at hk
     cases ha:σ.evL c.args.toList with
     | none =>
      rw [ha] at hk
      exfalso
      revert hk
      split <;> simp_all
     | some as =>
      rw [ha] at hk
      cases df with
      | clo fn fs cs =>
       cases fn with
       | func fk =>
        simp only at hk
        obtain ⟨vs,us,hv,h1,h2⟩:=(hev hfi hf).clo_inv
        have h3:=hs.evL (fun x t hx e=>hV t (e ▸ hin x hx)) ha
        have hall:=h1.append (h3.append h2)
        have hbx:∀ i b,β i=some b→∃ box,σ.boxes[i]?=some box∧BoxRel I β w b box:=hs.bx
        have earr:(vs++c.args.map a.eval)++us=(vs.toList++(c.args.toList.map a.eval++us.toList)).toArray:=by
         apply Array.toList_inj.1;simp
        have hglI:glbI.le I:=Imm.le_trans hcx.gl hs.I0
        cases hnw:sh.nw fk with
        | true =>
         rw [hnw] at hk
         obtain ⟨rs,hrs,b,⟨hent,hden⟩,hk⟩:=hk
         obtain ⟨hnok,hk⟩:=iff'_true hk
         have hrel:=reifyL_sound hs.agree hbx hall hrs
         have hcall:=hden w _ _ (plusB_agree hs.agree _ β) (Imm.le_trans hglI (plusB_le hs.agree _ _)) hrel
         have hrun:=run_callValue (P:=P) (w:=w) ho hc hv hent
         rw [earr] at hrun
         refine wp_enter hF (by rw [ho];simp) hrun (R:=fun v w'=>∃ bi,Keep (·<w.heap.size) w w'∧(∀ R,bi.R=some R→w.heap.size≤R)∧(∀ I' β,BoxRel I' β w' bi b)∧(∀ (I':Imm) (β:BE) (i:Nat),β i=some bi→Rel I' β v (mkOf b i)))
          (hcall.mono fun e w' ⟨v,bi,he,hrest⟩=>⟨v,he,bi,hrest⟩) ?_
         rintro v w' ⟨bi,h4,h5,h6,h7⟩
         exact hnew _ _ _ _ bi hk h5 h4 (h6 I β) (by unfold newOK at hnok;split at hnok <;> first | rfl | cases hnok) (fun β' i hi=>h7 I β' i hi)
        | false =>
        rw [hnw] at hk
        cases hshk:sh.sh fk with
        | true =>
         rw [hshk] at hk
         rcases hk with ⟨rs,hrs,d,⟨hent,hden⟩,hk⟩ | ⟨sel,args',bs0,Q,_,_,_,_,_,⟨d,bs',y',hq⟩,hk⟩
         ·have hrel:=reifyL_sound hs.agree hbx hall hrs
          have hcall:=hden w _ _ (plusB_agree hs.agree _ β) (Imm.le_trans hglI (plusB_le hs.agree _ _)) hrel
          have hrun:=run_callValue (P:=P) (w:=w) ho hc hv hent
          rw [earr] at hrun
          refine wp_enter hF (by rw [ho];simp) hrun (R:=fun v w'=>∃ I',Keep (·<w.heap.size) w w'∧Grow w.heap.size (plusB ((fs++(as++cs)).flatMap (touch σ.boxes fuel)) β w I) I'∧Agree I' w'∧Rel I' nob v d)
           (hcall.mono fun e w' ⟨v,I',he,hrest⟩=>⟨v,he,I',hrest⟩) ?_
          rintro v w' ⟨I',h4,h5,h6,h7⟩
          exact hres _ _ _ _ I' hk h4 h5 h6 h7
         rcases hshr with h | h
         ·obtain ⟨X,_,hkk⟩:=hk d bs' y' hq
          exact (h _ _ _ hkk).elim
         ·rcases h c f fk fs cs ho hc hf with h | h
          ·rw [h] at hshk;cases hshk
          ·rw [h] at hnw;cases hnw
        | false =>
        rw [hshk] at hk
        obtain ⟨rs,hrs,d,⟨hent,hden⟩,hk⟩:=hk
        have hrel:=reifyL_sound hs.agree hbx hall hrs
        have hcall:=hden w _ _ (plusB_agree hs.agree _ β) (Imm.le_trans hglI (plusB_le hs.agree _ _)) hrel
        have hrun:=run_callValue (P:=P) (w:=w) ho hc hv hent
        rw [earr] at hrun
        refine wp_enter hF (by rw [ho];simp) hrun (R:=fun v w'=>∃ I',Keep (·<w.heap.size) w w'∧Grow w.heap.size (plusB ((fs++(as++cs)).flatMap (touch σ.boxes fuel)) β w I) I'∧Agree I' w'∧Rel I' nob v d)
         (hcall.mono fun e w' ⟨v,I',he,hrest⟩=>⟨v,he,I',hrest⟩) ?_
        rintro v w' ⟨I',h4,h5,h6,h7⟩
        exact hres _ _ _ _ I' hk h4 h5 h6 h7
       | _=>exact hk.elim
      | yld l =>
       simp only at hk
       cases hy:σ.y with
       | rem l' xs =>
        rw [hy] at hk
        cases xs with
        | nil=>exact hk.elim
        | cons x r =>
         refine (hyl.elim (fun hh=>?_) fun h=>h c f l ho hc hf).elim
         simp only at hk
         split at hk
         ·split at hk
          ·obtain ⟨_,_,hk⟩:=hk
           obtain ⟨_,hk⟩:=iff'_true hk
           exact hh.2 _ _ _ hk.1
          ·exact hk.elim
         ·exact hh.1 _ _ hk.2.2.1
       | _=>rw [hy] at hk;exact hk.elim
      | _=>exact hk.elim
   | builtin b =>
    rw [hc] at hk
    simp only at hk
    cases ha:σ.evL c.args.toList with
    | none=>rw [ha] at hk;exact hk.elim
    | some as =>
     rw [ha] at hk
     have hrl:=hs.evL (fun x t hx e=>hV t (by
      simp only [ho,Op.operands,Call.operands,hc,Array.toList_append,List.mem_append]
      exact .inr (e ▸ hx))) ha
     have hargs:(c.args.map a.eval)=(c.args.toList.map a.eval).toArray:=by apply Array.toList_inj.1;simp
     have run:∀ (s:Sem Value) v,(∀ cs,builtin b c.argTypes o.type cs (c.args.map a.eval)=(do pure (.value (← s)):Sem Next))→s.run P w=.ok v w→(execOp a.eval o).run P w=.ok (.value v) w:=by
      intro s v hb hr
      simp only [execOp,ho,resolve,hc,Sem.run_bind,Sem.run_pure,Result.andThen_ok,invoke,hb]
      simp [hr]
     cases b with
     | len =>
      simp only at hk
      cases as with
      | nil=>exact hk.elim
      | cons x as =>
       cases as with
       | cons y as=>exact hk.elim
       | nil =>
        simp only at hk
        obtain ⟨v,hv,hvr⟩:=hrl.one_inv
        rw [hv] at hargs
        unfold typeAt at hk
        cases ht0:c.argTypes[0]? with
        | none=>rw [ht0] at hk;exact hk.elim
        | some t0 =>
         rw [ht0] at hk
         simp only at hk
         cases ht:T t0 with
         | none=>rw [ht] at hk;exact hk.elim
         | some ti =>
          rw [ht] at hk
          simp only at hk
          have h:=hT _ _ ht
          have elen:∀ (s:Value),s=v→Builtin.len_ c.argTypes o.type (c.args.map a.eval)=Builtin.len_ #[t0] o.type #[s]:=by
           intro s hs'
           subst hs'
           rw [hargs]
           simp [Builtin.len_,ht0]
          cases hd:ti.desc with
          | array m e =>
           rw [hd] at hk
           exact value (by rw [ho];simp) (run _ _ (fun cs=>rfl) (by rw [elen v rfl];exact run_len_array h hd _ _)) hk (.int _ _)
          | slice e =>
           rw [hd] at hk
           obtain ⟨z,e',hr,hk',hrel⟩:=len_sound (P:=P) (w:=w) h hvr hd hk o.type
           exact value (by rw [ho];simp) (run _ _ (fun cs=>rfl) (by rw [elen v rfl];exact hr)) hk' hrel
          | string =>
           rw [hd] at hk
           cases x with
           | str s =>
            exact value (by rw [ho];simp) (run _ _ (fun cs=>rfl) (by rw [elen _ hvr.str_inv.symm];exact run_len_string h hd _ _)) hk (.int _ _)
           | _=>exact hk.elim
          | _=>rw [hd] at hk;exact hk.elim
     | min =>
      obtain ⟨v,d,hr,hk',hrel⟩:=min_sound (P:=P) (w:=w) hrl hk c.argTypes o.type
      exact value (by rw [ho];simp) (run _ v (fun cs=>rfl) (by rw [hargs];exact hr)) hk' hrel
     | max =>
      obtain ⟨v,d,hr,hk',hrel⟩:=max_sound (P:=P) (w:=w) hrl hk c.argTypes o.type
      exact value (by rw [ho];simp) (run _ v (fun cs=>rfl) (by rw [hargs];exact hr)) hk' hrel
     | _=>(simp [mild,ho,hc] at hm)
   | invoke r m=>rw [hc] at hk;exact hk.elim
  | _=>(simp [mild,ho] at hm)

end
end Go.V
