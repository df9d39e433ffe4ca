/- A law's statement where what it reads is of little bulk, from its contract on abstract values. No condition. -/
import Derived.JoinedCond
import Derived.Test.YtfdflbdnjimfaaaPackUL

namespace Go.V
open Go.RowKit Go.ChangeShapes

def cellsA:D→List D
 | .agg cs=>cs
 | d=>[d]
def RowsN (N:Nat) (es:List D):Prop:=∀ (j:Nat) (e:D),es[j]?=some e→∀ (sz:Nat) (rows:List (List D)),.list sz rows∈cellsA e→rows.length≤N

section
variable {H:Type} {enc:TypeId × Value→H} {P:Program} {w w':World} {spare:Nat→Bool}

theorem rel_slice_len {I:Imm} {β:BE} {a:Option Addr} {n c sz:Nat} {rows:List (List D)} (h:Rel I β (.slice a n c) (.list sz rows)):n=rows.length:=by
 cases h with
 | list0=>rfl
 | list=>rfl

theorem rows_le {Bk:DataW H→Nat} (hB1:∀ es sp,es.length≤Bk (.slice es sp)) (hB2:∀ (l:List (DataW H)) d,d∈l→Bk d≤Bk (.agg l)) :
    ∀ (n fuel:Nat) (t:TypeId) (cs:List Value) (x:DataW H × List MemPlace),sup P n t=true→DataW.trod enc P w 0 spare true fuel t cs=some x →
     ∀ v∈cs,∀ (I:Imm) (β:BE) (sz:Nat) (rows:List (List D)),Rel I β v (.list sz rows)→rows.length≤Bk x.1:=by
  intro n
  induction n with
  | zero=>intro fuel t cs x hs;cases hs
  | succ n ih =>
   intro fuel t cs x hs h v hv I β sz rows hr
   unfold sup at hs
   cases hu:P.underlying t with
   | none=>rw [hu] at hs;cases hs
   | some d =>
    rw [hu] at hs
    cases d with
    | bool =>
     obtain ⟨b,rfl,_⟩:=DataW.trod_bool hu h
     rw [List.mem_singleton.1 hv] at hr;cases hr
    | int k =>
     obtain ⟨m,rfl,_,hw⟩:=DataW.trod_int hu h
     rw [List.mem_singleton.1 hv] at hr;cases hr
    | string =>
     obtain ⟨s,rfl,_,hl⟩:=DataW.trod_string hu h
     rw [List.mem_singleton.1 hv] at hr;cases hr
    | slice e =>
     rcases Deep.open_slice hu h with ⟨rfl,_⟩ | ⟨a,len,cap,m,f,dd,pl,rfl,_,hlc,hcm,hm,hx,hel⟩
     ·rw [List.mem_singleton.1 hv] at hr
      have:=rel_slice_len hr
      omega
     ·rw [List.mem_singleton.1 hv] at hr
      have h1:=rel_slice_len hr
      rw [hx]
      have:=hB1 ((List.range len).map dd) ((List.range (m - len)).map fun j=>dd (len+j))
      simp only [List.length_map,List.length_range] at this
      simp only
      omega
    | struct fs =>
     simp only at hs
     cases htl:tilesB P 0 fs.toList (P.cellsOf t) with
     | false=>rw [htl] at hs;cases hs
     | true =>
      rw [htl] at hs
      simp only [List.all_eq_true] at hs
      obtain ⟨xs,m,_,hxe,hlen,hxl,hf⟩:=DataW.trod_struct hu h
      have tle:∀ (l:List Field) (o tot:Nat),tilesB P o l tot=true→o≤tot:=by
       intro l
       induction l with
       | nil=>intro o tot h;exact Nat.le_of_eq (Nat.eq_of_beq_eq_true h)
       | cons g s ihs =>
        intro o tot h
        unfold tilesB at h
        split at h
        ·have:=ihs _ _ h;omega
        ·cases h
      have main:∀ (l:List Field) (off:Nat),tilesB P off l cs.length=true→v∈cs.drop off→∃ f∈l,v∈(cs.drop f.offset).take (P.cellsOf f.type):=by
       intro l
       induction l with
       | nil =>
        intro off ht hm
        have:off=cs.length:=Nat.eq_of_beq_eq_true ht
        rw [this,List.drop_length] at hm
        cases hm
       | cons f r ihl =>
        intro off ht hm
        unfold tilesB at ht
        cases hb:Nat.beq f.offset off with
        | false=>rw [hb] at ht;cases ht
        | true =>
         rw [hb] at ht
         have hoff:=Nat.eq_of_beq_eq_true hb
         have hcut:cs.drop off=(cs.drop off).take (P.cellsOf f.type)++cs.drop (off+P.cellsOf f.type):=by
          rw [← List.drop_drop,List.take_append_drop]
         rw [hcut] at hm
         rcases List.mem_append.1 hm with hm | hm
         ·exact ⟨f,by simp,by rw [hoff];exact hm⟩
         ·obtain ⟨g,hg,hg2⟩:=ihl _ ht hm
          exact ⟨g,by simp [hg],hg2⟩
      obtain ⟨f,hfm,hvf⟩:=main fs.toList 0 (by rw [hlen];exact htl) (by simpa using hv)
      obtain ⟨i,hi⟩:=List.mem_iff_getElem?.1 hfm
      have hi':fs[i]?=some f:=by simpa using hi
      have hil:i<fs.size:=(Array.getElem?_eq_some_iff.1 hi').1
      have hy:=hf i f hi'
      rw [List.getElem?_eq_getElem (by omega)] at hy
      have h1:=ih _ _ _ _ (hs f hfm) hy v hvf I β sz rows hr
      rw [hxe]
      exact Nat.le_trans h1 (hB2 _ _ (List.mem_map.2 ⟨_,List.getElem_mem _,rfl⟩))
    | array k e =>
     simp only at hs
     cases hb:Nat.beq (k*P.cellsOf e) (P.cellsOf t) with
     | false=>rw [hb] at hs;cases hs
     | true =>
      rw [hb] at hs
      have hkt:=Nat.eq_of_beq_eq_true hb
      obtain ⟨xs,m,_,hxe,hlen,hxl,hf⟩:=DataW.trod_array hu h
      have main:∀ (j i:Nat),i+j=k→v∈cs.drop (i*P.cellsOf e)→∃ q,q<k∧v∈(cs.drop (q*P.cellsOf e)).take (P.cellsOf e):=by
       intro j
       induction j with
       | zero =>
        intro i hi hm
        rw [show i=k by omega,hkt,← hlen,List.drop_length] at hm
        cases hm
       | succ j ihj =>
        intro i hi hm
        have hcut:cs.drop (i*P.cellsOf e)=(cs.drop (i*P.cellsOf e)).take (P.cellsOf e)++cs.drop ((i+1)*P.cellsOf e):=by
         rw [Nat.add_mul,Nat.one_mul,← List.drop_drop,List.take_append_drop]
        rw [hcut] at hm
        rcases List.mem_append.1 hm with hm | hm
        ·exact ⟨i,by omega,hm⟩
        ·exact ihj (i+1) (by omega) hm
      obtain ⟨q,hq,hvq⟩:=main k 0 (by omega) (by simpa using hv)
      have hy:=hf q hq
      rw [List.getElem?_eq_getElem (by omega)] at hy
      have h1:=ih _ _ _ _ hs hy v hvq I β sz rows hr
      rw [hxe]
      exact Nat.le_trans h1 (hB2 _ _ (List.mem_map.2 ⟨_,List.getElem_mem _,rfl⟩))
    | _=>cases hs

theorem rowsN_all {n N:Nat} {Bk:DataW H→Nat} (hB1:∀ es sp,es.length≤Bk (.slice es sp)) (hB2:∀ (l:List (DataW H)) d,d∈l→Bk d≤Bk (.agg l)) {I:Imm} {β:BE}:∀ (ts:List TypeId) (vs:List Value) (ds:List (DataW H)) (ps:List MemPlace) (es:List D),(∀ t∈ts,sup P n t=true) →
    DataW.TrodAll enc P w 0 spare true ts vs ds ps→RelL I β vs es→(∀ d∈ds,Bk d≤N)→RowsN N es
  | [],vs,ds,ps,es,_,h,hr,_=>by
   obtain ⟨rfl,rfl,rfl⟩:=trodAll_nil h
   have:es=[]:=List.eq_nil_of_length_eq_zero (by have:=hr.1;simpa using this.symm)
   subst this
   intro j e he
   simp at he
  | t::ts,vs,ds,ps,es,hs,h,hr,hb=>by
   obtain ⟨v,vs',d,ds',p,q,rfl,rfl,rfl,⟨fuel,h1⟩,h2⟩:=trodAll_cons h
   cases es with
   | nil=>have:=hr.1;simp at this
   | cons e0 es =>
    have hr0:Rel I β v e0:=hr.2 0 v e0 rfl rfl
    have hr':RelL I β vs' es:=⟨by simpa using hr.1,fun i x y hx hy=>hr.2 (i+1) x y (by simpa using hx) (by simpa using hy)⟩
    intro j e he sz rows hm
    cases j with
    | zero =>
     simp at he
     subst he
     have hd:=hb d (by simp)
     refine Nat.le_trans ?_ hd
     have key:∃ u∈v.cells.toList,Rel I β u (.list sz rows):=by
      cases e0 with
      | agg cs =>
       obtain ⟨us,rfl,hrc⟩:=hr0.agg_inv
       obtain ⟨i,hi⟩:=List.mem_iff_getElem?.1 hm
       obtain ⟨u,hu,hur,_⟩:=hrc.get hi
       exact ⟨u,by simpa [Value.cells] using List.mem_of_getElem? hu,hur⟩
      | list sz' rows' =>
       have hm:D.list sz rows=D.list sz' rows':=List.mem_singleton.1 hm
       rw [hm]
       have h1:=hr0.one rfl
       exact ⟨v,by rw [one_cells h1];simp,hr0⟩
      | _=>exact absurd (List.mem_singleton.1 hm) (by simp)
     obtain ⟨u,hu1,hu2⟩:=key
     exact rows_le hB1 hB2 n fuel t _ _ (hs t (by simp)) h1 u hu1 I β sz rows hu2
    | succ j=>exact rowsN_all hB1 hB2 ts vs' ds' q es (fun u hu=>hs u (by simp [hu])) h2 hr' (fun x hx=>hb x (by simp [hx])) j e (by simpa using he) sz rows hm

theorem law_returns_upto [Glb] (hgl:∀ W:World,glbI.le (allOf W)) {C:Checked} {os:Os} {f:FuncId} {fn:Func} {s:OpenSpec} {k:(H:Type)→List (DataW H)→Bool} (hk:s.cond=some k) {F:Stop.Interp} (n N:Nat) (hs:s.vars=[]) (hspec:∀ ds:List (DataW H),ds.length=fn.params.toList.length→s.fn F H (ds++[])={ results:=[.lit (.bool true)],args:=ds })
    {Bk:DataW H→Nat} (hB1:∀ es sp,es.length≤Bk (.slice es sp)) (hB2:∀ (l:List (DataW H)) d,d∈l→Bk d≤Bk (.agg l)) (hkN:∀ ds:List (DataW H),k H (ds++[])=true→∀ d∈ds,Bk d≤N)
    (own:ownKnob C.prog.godebug=none) (started:os.Started) (noInit:C.prog.inits.idxOf? f=none) (hfn:C.prog.funcs[f]?=some fn)
    (witness:∃ (w:World) (tape:Tape) (i:Input),w.os=os∧(w.forCall tape i).Shaped C.prog∧i.vars=[]∧Input.okWide C.prog (w.forCall tape i) .any w.heap.size f i ∧
     s.pre6 enc C.prog fn [] false (w.forCall tape i).memory i.args∧({}:Assume).holds C.prog (lone (Frame.enter C.prog f i.args .normal) [] (w.forCall tape i)))
    {tb:TypeId} (hres:fn.resultTypes=#[tb]) (hbool:C.prog.underlying tb=some .bool) (hl:laidOutB C.prog=true)
    (hall:(fn.params.toList.all fun t=>C.prog.readableRec t && Nat.blt t C.prog.types.size && sup C.prog n t)=true) (hden:∀ es,WAL C.prog n fn.params.toList es→RowsN N es→Den C.prog f es (.bool true)) :
    ReturnsInHanded {} C os f .any (s.pre6 enc C.prog fn [] false) ((s.at F).post enc C.prog fn false true false false):=by
  have h:∀ t∈fn.params.toList,(C.prog.readableRec t=true∧t<C.prog.types.size)∧sup C.prog n t=true:=fun t ht=>by
   have:=List.all_eq_true.1 hall t ht
   simp only [Bool.and_eq_true] at this
   exact ⟨⟨this.1.1,blt_lt this.1.2⟩,this.2⟩
  refine returnsInHanded_of_cond hk own started noInit hfn witness ?_
  intro W base args ds gs before hval hW _ hkk _
  have hW':=hW
  obtain ⟨p,q,hA,hV,rfl,hfz,hnd⟩:=hW
  rw [hs] at hV
  obtain ⟨hlen,es,hes1,hes2⟩:=open_all fn.params.toList args.toList ds p (fun t ht=>(h t ht).2) (fun j t v hj hv=>hval j t v (by simpa using hj) (by simpa using hv)) hA
  obtain ⟨rfl,rfl⟩:=trodVars_none hV
  have hsl:=rowsN_all hB1 hB2 fn.params.toList args.toList ds p es (fun t ht=>(h t ht).2) hA hes1 (hkN ds hkk)
  have hcall:=(hden es hes2 hsl).2 W (allOf W) args.toList (fun B off v h=>h) (hgl W) hes1
  rw [show args.toList.toArray=args from rfl] at hcall
  refine hcall.mono ?_
  rintro e W' ⟨v,I',rfl,hk,_,_,hrel⟩
  have hv:=hrel.bool_inv
  subst hv
  have hspec':(s.at F).fn H (ds++[])={ results:=[.lit (.bool true)],args:=ds }:=hspec ds hlen
  refine ⟨_,rfl,ds,[],p++[],[],p,[],hW',?_,?_,?_,?_,fun h=>by cases h⟩
  ·rw [hspec',hres]
   exact trodAll_mk1 (shut_bool hbool true)
  ·rw [hspec']
   exact shut_all hl hk _ _ _ _ (fun t ht=>(h t ht).1) hA
  ·rw [hspec',show (s.at F).vars=[] from hs]
   exact rfl
  ·refine ⟨hk.os,hk.output,fun i hi=>?_⟩
   rw [hk.block i hi]
   cases hO:W.heap[i]? with
   | none=>rfl
   | some o =>
    cases o with
    | cells c t fr=>exact ⟨rfl,rfl,rfl,fun _ _=>rfl⟩
    | map es clock=>exact .inr ⟨rfl,rfl⟩
    | _=>rfl

end
end Go.V
