/- A law's statement from its contract on abstract values. No condition. -/
import Derived.Carry
import Derived.Test.YtfdflbdnjimfaaaPackUK

namespace Go.V
open Go.RowKit Go.ChangeShapes

section
variable {H:Type} {enc:TypeId × Value→H} {P:Program} {w w':World}

theorem open_all {n:Nat} {r:Reach} {base:Nat}:∀ (ts:List TypeId) (vs:List Value) (ds:List (DataW H)) (ps:List MemPlace),(∀ t∈ts,sup P n t=true) →
    (∀ (j:Nat) (t:TypeId) (v:Value),ts[j]?=some t→vs[j]?=some v→Value.okWide P w r base t v)→DataW.TrodAll enc P w 0 (fun _=>true) true ts vs ds ps →
    ds.length=ts.length∧∃ es,RelL (allOf w) nob vs es∧WAL P n ts es
  | [],vs,ds,ps,_,_,h=>by
   obtain ⟨rfl,rfl,rfl⟩:=trodAll_nil h
   exact ⟨rfl,[],.nil,rfl⟩
  | t::ts,vs,ds,ps,hs,hok,h=>by
   obtain ⟨v,vs',d,ds',p,q,rfl,rfl,rfl,h1,h2⟩:=trodAll_cons h
   obtain ⟨e,he1,he2⟩:=open_arg (hs t (by simp)) (hok 0 t v rfl rfl) h1
   obtain ⟨hl,es,hes1,hes2⟩:=open_all ts vs' ds' q (fun u hu=>hs u (by simp [hu])) (fun j u x hj hx=>hok (j+1) u x (by simpa using hj) (by simpa using hx)) h2
   exact ⟨by simp [hl],e::es,RelL.cons he1 hes1,e,es,rfl,he2,hes2⟩

theorem shut_all (hl:laidOutB P=true) (k:Keep (·<w.heap.size) w w'):∀ (ts:List TypeId) (vs:List Value) (ds:List (DataW H)) (ps:List MemPlace),(∀ t∈ts,P.readableRec t=true∧t<P.types.size) →
    DataW.TrodAll enc P w 0 (fun _=>true) true ts vs ds ps→DataW.TrodAll enc P w' 0 (fun b=>decide (b<w.heap.size)) true ts vs ds ps
  | [],vs,ds,ps,_,h=>by
   obtain ⟨rfl,rfl,rfl⟩:=trodAll_nil h
   exact rfl
  | t::ts,vs,ds,ps,hr,h=>by
   have hlt:=DataW.TrodAll.lt h
   obtain ⟨v,vs',d,ds',p,q,rfl,rfl,rfl,h1,h2⟩:=trodAll_cons h
   exact ⟨p,q,Below.trod hl (hr t (by simp)).1 (hr t (by simp)).2 h1 ⟨k.os,k.tape,k.output,k.size,k.block⟩ (fun x hx=>hlt x (by simp [hx])),shut_all hl k ts vs' ds' q (fun u hu=>hr u (by simp [hu])) h2,rfl⟩

theorem law_returns [Glb] (hgl:∀ W:World,glbI.le (allOf W)) {C:Checked} {os:Os} {f:FuncId} {fn:Func} {s:ChangeSpec} (n:Nat) (hs:s.vars=[]) (hspec:∀ ds:List (DataW H),ds.length=fn.params.toList.length→s.fn H (ds++[])={ results:=[.lit (.bool true)],args:=ds })
    (own:ownKnob C.prog.godebug=none) (started:os.Started) (noInit:C.prog.inits.idxOf? f=none) (hfn:C.prog.funcs[f]?=some fn)
    (witness:∃ (w:World) (tape:Tape) (i:Input),w.os=os∧(w.forCall tape i).Shaped C.prog∧i.vars=[]∧Input.okWide C.prog (w.forCall tape i) .any w.heap.size f i ∧
     s.pre6 enc C.prog fn [] false (w.forCall tape i).memory i.args∧({}:Assume).holds C.prog (lone (Frame.enter C.prog f i.args .normal) [] (w.forCall tape i)))
    {tb:TypeId} (hres:fn.resultTypes=#[tb]) (hbool:C.prog.underlying tb=some .bool) (hl:laidOutB C.prog=true) (hr:∀ t∈fn.params.toList,C.prog.readableRec t=true∧t<C.prog.types.size)
    (hsup:∀ t∈fn.params.toList,sup C.prog n t=true) (hden:∀ es,WAL C.prog n fn.params.toList es→Den C.prog f es (.bool true)) :
    ReturnsInHanded {} C os f .any (s.pre6 enc C.prog fn [] false) (s.post enc C.prog fn false true false false):=by
  refine returnsInHanded_of_change own started noInit hfn witness ?_
  intro W base args ds gs before hval hW _ _
  have hW':=hW
  obtain ⟨p,q,hA,hV,rfl,hfz,hnd⟩:=hW
  rw [hs] at hV
  obtain ⟨hlen,es,hes1,hes2⟩:=open_all fn.params.toList args.toList ds p hsup (fun j t v hj hv=>hval j t v (by simpa using hj) (by simpa using hv)) hA
  obtain ⟨rfl,rfl⟩:=trodVars_none hV
  have hcall:=(hden es hes2).2 W (allOf W) args.toList (fun B off v h=>h) (hgl W) hes1
  rw [show args.toList.toArray=args from rfl] at hcall
  refine hcall.mono ?_
  rintro e W' ⟨v,I',rfl,hk,_,_,hrel⟩
  have hv:=hrel.bool_inv
  subst hv
  refine ⟨_,rfl,ds,[],p++[],[],p,[],hW',?_,?_,?_,?_,fun h=>by cases h⟩
  ·rw [hspec ds hlen,hres]
   exact trodAll_mk1 (shut_bool hbool true)
  ·rw [hspec ds hlen]
   exact shut_all hl hk _ _ _ _ hr hA
  ·rw [hspec ds hlen,hs]
   exact rfl
  ·refine ⟨hk.os,hk.output,fun i hi=>?_⟩
   rw [hk.block i hi]
   cases hO:W.heap[i]? with
   | none=>rfl
   | some o =>
    cases o with
    | cells c t fr=>exact ⟨rfl,rfl,rfl,fun _ _=>rfl⟩
    | map es clock=>exact .inr ⟨rfl,rfl⟩
    | _=>rfl

theorem law_returns' [Glb] (hgl:∀ W:World,glbI.le (allOf W)) {C:Checked} {os:Os} {f:FuncId} {fn:Func} {s:ChangeSpec} (n:Nat) (hs:s.vars=[]) (hspec:∀ ds:List (DataW H),ds.length=fn.params.toList.length→s.fn H (ds++[])={ results:=[.lit (.bool true)],args:=ds })
    (own:ownKnob C.prog.godebug=none) (started:os.Started) (noInit:C.prog.inits.idxOf? f=none) (hfn:C.prog.funcs[f]?=some fn)
    (witness:∃ (w:World) (tape:Tape) (i:Input),w.os=os∧(w.forCall tape i).Shaped C.prog∧i.vars=[]∧Input.okWide C.prog (w.forCall tape i) .any w.heap.size f i ∧
     s.pre6 enc C.prog fn [] false (w.forCall tape i).memory i.args∧({}:Assume).holds C.prog (lone (Frame.enter C.prog f i.args .normal) [] (w.forCall tape i)))
    {tb:TypeId} (hres:fn.resultTypes=#[tb]) (hbool:C.prog.underlying tb=some .bool) (hl:laidOutB C.prog=true)
    (hall:(fn.params.toList.all fun t=>C.prog.readableRec t && Nat.blt t C.prog.types.size && sup C.prog n t)=true) (hden:∀ es,WAL C.prog n fn.params.toList es→Den C.prog f es (.bool true)) :
    ReturnsInHanded {} C os f .any (s.pre6 enc C.prog fn [] false) (s.post enc C.prog fn false true false false):=by
  have h:∀ t∈fn.params.toList,(C.prog.readableRec t=true∧t<C.prog.types.size)∧sup C.prog n t=true:=fun t ht=>by
   have:=List.all_eq_true.1 hall t ht
   simp only [Bool.and_eq_true] at this
   exact ⟨⟨this.1.1,blt_lt this.1.2⟩,this.2⟩
  exact law_returns hgl n hs hspec own started noInit hfn witness hres hbool hl (fun t ht=>(h t ht).1) (fun t ht=>(h t ht).2) hden

theorem wt_int {P:Program} {n:Nat} {t:TypeId} {k:IntKind} {ds:List D} (hu:P.underlying t=some (.int k)) (h:WT P (n+1) t ds):∃ m,ds=[.int k m]∧(Lit.int k m).wf=true:=by
 unfold WT at h;rw [hu] at h;exact h
theorem wt_bool {P:Program} {n:Nat} {t:TypeId} {ds:List D} (hu:P.underlying t=some .bool) (h:WT P (n+1) t ds):∃ b,ds=[.bool b]:=by
 unfold WT at h;rw [hu] at h;exact h
theorem wt_string {P:Program} {n:Nat} {t:TypeId} {ds:List D} (hu:P.underlying t=some .string) (h:WT P (n+1) t ds):∃ s:ByteArray,ds=[.str s]∧s.size≤maxLen:=by
 unfold WT at h;rw [hu] at h;exact h
theorem wt_slice {P:Program} {n:Nat} {t e:TypeId} {ds:List D} (hu:P.underlying t=some (.slice e)) (h:WT P (n+1) t ds):∃ rows,ds=[.list (P.cellsOf e) rows]∧rows.length≤maxLen∧∀ row∈rows,row.length=P.cellsOf e∧WT P n e row:=by
 unfold WT at h;rw [hu] at h;exact h
theorem wt_struct {P:Program} {n:Nat} {t:TypeId} {fs:Array Field} {ds:List D} (hu:P.underlying t=some (.struct fs)) (h:WT P (n+1) t ds):WTF P (WT P n) fs.toList ds:=by
 unfold WT at h;rw [hu] at h;exact h
theorem wa_struct {P:Program} {n:Nat} {t:TypeId} {fs:Array Field} {d:D} (hu:P.underlying t=some (.struct fs)) (h:WA P n t d):∃ ds,d=.agg ds∧WT P n t ds:=by
 unfold WA at h;rw [hu] at h;exact h
theorem wa_slice {P:Program} {n:Nat} {t e:TypeId} {d:D} (hu:P.underlying t=some (.slice e)) (h:WA P (n+1) t d):∃ rows,d=.list (P.cellsOf e) rows∧rows.length≤maxLen∧∀ row∈rows,row.length=P.cellsOf e∧WT P n e row:=by
 unfold WA at h;rw [hu] at h
 obtain ⟨m,e,hm⟩:=wt_slice hu h
 cases e
 exact ⟨m,rfl,hm⟩
theorem rows_map {α:Type} {enc:α→List D} {p:α→Prop}:∀ {rows:List (List D)},(∀ row∈rows,∃ a,row=enc a∧p a)→∃ l:List α,rows=l.map enc∧∀ a∈l,p a
 | [],_=>⟨[],rfl,by simp⟩
 | r::rs,h=>by
  obtain ⟨a,ha,hp⟩:=h r (by simp)
  obtain ⟨l,hl,hq⟩:=rows_map (rows:=rs) fun row hr=>h row (by simp [hr])
  refine ⟨a::l,by rw [ha,hl];rfl,fun x hx=>?_⟩
  rcases List.mem_cons.1 hx with rfl | hx
  ·exact hp
  ·exact hq x hx

end
end Go.V
