/- What ballasted_holds leans on, part UL. No condition. -/
import Derived.Carry
import Derived.Test.YthglcafppddedaaGreatDoorPackUK

set_option linter.all false
namespace Go.V
open Go.RowKit Go.ChangeShapes
section
variable{H:Type}{enc:TypeId×Value->H}{P:Program}{w w':World}
theorem Cf{n:Nat}{r:Reach}{base:Nat}:∀(ts:List TypeId)(vs:List Value)(ds:List (DataW H))(ps:List MemPlace),(∀t∈ts,sup P n t=true)->
    (∀(j:Nat)(t:TypeId)(v:Value),ts[j]?=some t->vs[j]?=some v->Value.okWide P w r base t v)->DataW.TrodAll enc P w 0 (λ_=>true) true ts vs ds ps->
    ds.length=ts.length/\∃es,bn (iK w) dM vs es/\YZ P n ts es
  |[],vs,ds,ps,_,_,h=>by
   obtain⟨rfl,rfl,rfl⟩:=trodAll_nil h;exact⟨rfl,[],.nil,rfl⟩
  |t::ts,vs,ds,ps,hs,du,h=>by
   obtain⟨v,oz,d,Ph,p,q,rfl,rfl,rfl,h1,h2⟩:=trodAll_cons h;obtain⟨e,Y0,he2⟩:=K3 (hs t (by simp)) (du 0 t v rfl rfl) h1;obtain⟨hl,es,Rx,Ry⟩:=Cf ts oz Ph q (λu hu=>hs u (by simp[hu])) (λj u x hj hx=>du (j+1) u x (by simpa using hj) (by simpa using hx)) h2;exact⟨by simp[hl],e::es,bn.cons Y0 Rx,e,es,rfl,he2,Ry⟩
theorem Cg(hl:laidOutB P=true)(k:aB (·<w.heap.size) w w'):∀(ts:List TypeId)(vs:List Value)(ds:List (DataW H))(ps:List MemPlace),(∀t∈ts,P.readableRec t=true/\t<P.types.size)->
    DataW.TrodAll enc P w 0 (λ_=>true) true ts vs ds ps->DataW.TrodAll enc P w' 0 (λb=>decide (b<w.heap.size)) true ts vs ds ps
  |[],vs,ds,ps,_,h=>by
   obtain⟨rfl,rfl,rfl⟩:=trodAll_nil h;exact rfl
  |t::ts,vs,ds,ps,hr,h=>by
   have cG:=DataW.TrodAll.lt h;obtain⟨v,oz,d,Ph,p,q,rfl,rfl,rfl,h1,h2⟩:=trodAll_cons h;exact⟨p,q,Below.trod hl (hr t (by simp)).1 (hr t (by simp)).2 h1 ⟨k.os,k.tape,k.output,k.size,k.block⟩ (λx hx=>cG x (by simp[hx])),Cg hl k ts oz Ph q (λu hu=>hr u (by simp[hu])) h2,rfl⟩
theorem gV{P:Program}{n:Nat}{t:TypeId}{k:IntKind}{ds:List D}(hu:P.underlying t=some (.int k))(h:WT P (n+1) t ds):∃m,ds=[.int k m]/\(Lit.int k m).wf=true:=by
 unfold WT at h;rw[hu]at h;exact h
theorem z6{P:Program}{n:Nat}{t:TypeId}{ds:List D}(hu:P.underlying t=some .bool)(h:WT P (n+1) t ds):∃b,ds=[.bool b]:=by
 unfold WT at h;rw[hu]at h;exact h
theorem oP{P:Program}{n:Nat}{t:TypeId}{ds:List D}(hu:P.underlying t=some .string)(h:WT P (n+1) t ds):∃s:ByteArray,ds=[.str s]/\s.size<=maxLen:=by
 unfold WT at h;rw[hu]at h;exact h
theorem jq{P:Program}{n:Nat}{t e:TypeId}{ds:List D}(hu:P.underlying t=some (.slice e))(h:WT P (n+1) t ds):∃rows,ds=[.list (P.cellsOf e) rows]/\rows.length<=maxLen/\∀row∈rows,row.length=P.cellsOf e/\WT P n e row:=by
 unfold WT at h;rw[hu]at h;exact h
theorem fE{P:Program}{n:Nat}{t:TypeId}{fs:Array Field}{ds:List D}(hu:P.underlying t=some (.struct fs))(h:WT P (n+1) t ds):YW P (WT P n) fs.toList ds:=by
 unfold WT at h;rw[hu]at h;exact h
theorem K4{P:Program}{n k:Nat}{t e:TypeId}{ds:List D}(hu:P.underlying t=some (.array k e))(h:WT P (n+1) t ds):YX (WT P n e) (P.cellsOf e) k ds:=by
 unfold WT at h;rw[hu]at h;exact h
theorem H6{P:Program}{n:Nat}{t:TypeId}{fs:Array Field}{d:D}(hu:P.underlying t=some (.struct fs))(h:WA P n t d):∃ds,d=.agg ds/\WT P n t ds:=by
 unfold WA at h;rw[hu]at h;exact h
theorem K5{P:Program}{n k:Nat}{t e:TypeId}{d:D}(hu:P.underlying t=some (.array k e))(h:WA P n t d):∃ds,d=.agg ds/\WT P n t ds:=by
 unfold WA at h;rw[hu]at h;exact h
theorem iB{α:Type}{enc:α->List D}{p:α->Prop}:∀{rows:List (List D)},(∀row∈rows,∃a,row=enc a/\p a)->∃l:List α,rows=l.map enc/\∀a∈l,p a
 |[],_=>⟨[],rfl,by simp⟩
 |r::rs,h=>by
  obtain⟨a,ha,hp⟩:=h r (by simp);obtain⟨l,hl,hq⟩:=iB (rows:=rs) λrow hr=>h row (by simp[hr]);refine⟨a::l,by rw[ha,hl];rfl,λx hx=>?_⟩;rcases List.mem_cons.1 hx with rfl|hx
  .exact hp
  exact hq x hx
end
end Go.V
