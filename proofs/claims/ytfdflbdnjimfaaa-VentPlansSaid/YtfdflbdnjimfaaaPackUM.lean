/- A law's statement from its contract on abstract values, the form's reach known. No condition. -/
import Derived.SizedLaws
import Derived.Test.YtfdflbdnjimfaaaPackUL

namespace Go.V
open Go.RowKit Go.ChangeShapes

def SlW (P:Program) (ts:List TypeId) (es:List D):Prop :=
 ∀ (j:Nat) (t e:TypeId) (sz:Nat) (rows:List (List D)),ts[j]?=some t→P.underlying t=some (.slice e)→es[j]?=some (.list sz rows)→rows.length*P.bytesOf e≤reachBytes

section
variable {H:Type} {enc:TypeId × Value→H} {P:Program} {w w':World}

theorem slw_one {I:Imm} {β:BE} {t e:TypeId} {v:Value} {d:DataW H} {p:List MemPlace} {spare:Nat→Bool} (hu:P.underlying t=some (.slice e)) (h:DataW.Trod enc P w 0 spare true t v d p) {sz:Nat} {rows:List (List D)} (hr:Rel I β v (.list sz rows))
    (hw:∀ x∈d.weights P t,x≤reachBytes):rows.length*P.bytesOf e≤reachBytes:=by
  obtain ⟨fuel,h⟩:=h
  have hn:∃ a c,v=.slice a rows.length c:=by
   cases hr with
   | list0 a c=>exact ⟨a,c,rfl⟩
   | list B off cap=>exact ⟨_,cap,rfl⟩
  obtain ⟨a,c,rfl⟩:=hn
  have hc:(Value.slice a rows.length c).cells.toList=[.slice a rows.length c]:=rfl
  rw [hc] at h
  rcases Deep.open_slice hu h with ⟨h0,_⟩ | ⟨a',len,cap,m,f,dd,pl,h0,_,hlc,hcm,hm,hx,_⟩
  ·have h0:=(List.cons.inj h0).1
   injection h0 with _ h2 _
   rw [h2,Nat.zero_mul]
   exact Nat.zero_le _
  ·have h0:=(List.cons.inj h0).1
   injection h0 with _ h2 _
   have hx:=congrArg Prod.fst hx
   simp only at hx
   subst hx
   have:=hw ((((List.range len).map dd).length+((List.range (m - len)).map fun j=>dd (len+j)).length)*P.bytesOf e) (by unfold DataW.weights;rw [hu];simp)
   refine Nat.le_trans (Nat.mul_le_mul_right _ ?_) this
   rw [h2,List.length_map,List.length_range]
   exact Nat.le_add_right _ _

theorem slw_all {I:Imm} {β:BE} {us:List TypeId} {spare:Nat→Bool}:∀ (ts:List TypeId) (vs:List Value) (ds gs:List (DataW H)) (ps:List MemPlace) (es:List D),DataW.TrodAll enc P w 0 spare true ts vs ds ps→RelL I β vs es →
    (∀ x∈DataW.weightsEach P (ts++us) (ds++gs),x≤reachBytes)→SlW P ts es
  | [],_,_,_,_,_,_,_,_=>fun j t e sz rows h=>by simp at h
  | t::ts,vs,ds,gs,ps,es,h,hr,hw=>by
   obtain ⟨v,vs',d,ds',p,q,rfl,rfl,rfl,h1,h2⟩:=trodAll_cons h
   cases es with
   | nil=>have:=hr.1;simp at this
   | cons e0 es =>
    have hr0:Rel I β v e0:=hr.2 0 v e0 rfl rfl
    have hr':RelL I β vs' es:=⟨by simpa using hr.1,fun i x y hx hy=>hr.2 (i+1) x y (by simpa using hx) (by simpa using hy)⟩
    have hw0:∀ x,x∈d.weights P t∨x∈DataW.weightsEach P (ts++us) (ds'++gs)→x≤reachBytes:=fun x hx=>hw x (by simp only [List.cons_append,DataW.weightsEach,List.mem_append];exact hx)
    intro j t' e sz rows ht hu he
    cases j with
    | zero =>
     simp at ht he
     subst ht he
     exact slw_one hu h1 hr0 fun x hx=>hw0 x (.inl hx)
    | succ j=>exact slw_all ts vs' ds' gs q es h2 hr' (fun x hx=>hw0 x (.inr hx)) j t' e sz rows (by simpa using ht) hu (by simpa using he)

theorem law_returns_sized [Glb] (hgl:∀ W:World,glbI.le (allOf W)) {C:Checked} {os:Os} {f:FuncId} {fn:Func} {s:ChangeSpec} (n:Nat) (hs:s.vars=[]) (hspec:∀ ds:List (DataW H),ds.length=fn.params.toList.length→s.fn H (ds++[])={ results:=[.lit (.bool true)],args:=ds })
    (own:ownKnob C.prog.godebug=none) (started:os.Started) (noInit:C.prog.inits.idxOf? f=none) (hfn:C.prog.funcs[f]?=some fn)
    (witness:∃ (w:World) (tape:Tape) (i:Input),w.os=os∧(w.forCall tape i).Shaped C.prog∧i.vars=[]∧Input.okWide C.prog (w.forCall tape i) .any w.heap.size f i ∧
     s.pre6 enc C.prog fn [] false (w.forCall tape i).memory i.args∧({}:Assume).holds C.prog (lone (Frame.enter C.prog f i.args .normal) [] (w.forCall tape i)))
    {tb:TypeId} (hres:fn.resultTypes=#[tb]) (hbool:C.prog.underlying tb=some .bool) (hl:laidOutB C.prog=true)
    (hall:(fn.params.toList.all fun t=>C.prog.readableRec t && Nat.blt t C.prog.types.size && sup C.prog n t)=true) (hden:∀ es,WAL C.prog n fn.params.toList es→SlW C.prog fn.params.toList es→Den C.prog f es (.bool true)) :
    ReturnsInHanded {} C os f .any (s.pre6 enc C.prog fn [] false) (s.post enc C.prog fn false true false false):=by
  have h:∀ t∈fn.params.toList,(C.prog.readableRec t=true∧t<C.prog.types.size)∧sup C.prog n t=true:=fun t ht=>by
   have:=List.all_eq_true.1 hall t ht
   simp only [Bool.and_eq_true] at this
   exact ⟨⟨this.1.1,blt_lt this.1.2⟩,this.2⟩
  refine returnsInHanded_of_change_sized own started noInit hfn witness ?_
  intro W base args ds gs before hval hW _ hwt _
  have hW':=hW
  obtain ⟨p,q,hA,hV,rfl,hfz,hnd⟩:=hW
  rw [hs] at hV
  obtain ⟨hlen,es,hes1,hes2⟩:=open_all fn.params.toList args.toList ds p (fun t ht=>(h t ht).2) (fun j t v hj hv=>hval j t v (by simpa using hj) (by simpa using hv)) hA
  obtain ⟨rfl,rfl⟩:=trodVars_none hV
  have hsl:=slw_all fn.params.toList args.toList ds [] p es hA hes1 (fun x hx=>of_decide_eq_true (List.all_eq_true.1 hwt x hx))
  have hcall:=(hden es hes2 hsl).2 W (allOf W) args.toList (fun B off v h=>h) (hgl W) hes1
  rw [show args.toList.toArray=args from rfl] at hcall
  refine hcall.mono ?_
  rintro e W' ⟨v,I',rfl,hk,_,_,hrel⟩
  have hv:=hrel.bool_inv
  subst hv
  refine ⟨_,rfl,ds,[],p++[],[],p,[],hW',?_,?_,?_,?_,fun h=>by cases h⟩
  ·rw [hspec ds hlen,hres]
   exact trodAll_mk1 (shut_bool hbool true)
  ·rw [hspec ds hlen]
   exact shut_all hl hk _ _ _ _ (fun t ht=>(h t ht).1) hA
  ·rw [hspec ds hlen,hs]
   exact rfl
  ·refine ⟨hk.os,hk.output,fun i hi=>?_⟩
   rw [hk.block i hi]
   cases hO:W.heap[i]? with
   | none=>rfl
   | some o =>
    cases o with
    | cells c t fr=>exact ⟨rfl,rfl,rfl,fun _ _=>rfl⟩
    | map es clock=>exact .inr ⟨rfl,rfl⟩
    | _=>rfl

end
end Go.V
