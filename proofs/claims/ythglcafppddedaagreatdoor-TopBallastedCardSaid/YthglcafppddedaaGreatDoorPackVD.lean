/- What ballasted_holds leans on, part VD. No condition. -/
import Derived.Deep.DeepHandedRow
import Derived.Lib.LaidTab
import Derived.Test.YthglcafppddedaaGreatDoorPackUM

set_option linter.all false
namespace Go.V
open Go.RowKit Go.ChangeShapes
section
variable{H:Type}{enc:TypeId×Value->H}{P:Program}{w w':World}
theorem su[aM]{C:Checked}{os:Os}{f:FuncId}{fn:Func}{s:ChangeSpec}{F:Stop.Interp}{laid:List (String×DataW Unit)}(Gh:∀W:World,laidMetH C.prog laid W->pU.le (iK W))
    (n:Nat)(hs:s.vars=[])(F8:∀ds:List (DataW H),ds.length=fn.params.toList.length->s.fn H (ds++[])={results:=[.lit (.bool true)],args:=ds})
    (own:ownKnob C.prog.godebug=none)(started:os.Started)(R5:C.prog.inits.idxOf? f=none)(Ue:C.prog.funcs[f]?=some fn)
    (witness:∃(w:World)(tape:Tape)(i:Input),w.os=os/\(w.forCall tape i).Shaped C.prog/\i.vars=[]/\Input.okWide C.prog (w.forCall tape i) .any w.heap.size f i/\
     (OpenSpec.ofChange s).preRow enc C.prog fn [] false laid (w.forCall tape i).memory i.args/\({}:Assume).holds C.prog (lone (Frame.enter C.prog f i.args .normal) [] (w.forCall tape i)))
    {tb:TypeId}(dZ:fn.resultTypes=#[tb])(WL:C.prog.underlying tb=some .bool)(hl:laidOutB C.prog=true)
    (cW:(fn.params.toList.all λt=>C.prog.readableRec t&&Nat.blt t C.prog.types.size&&sup C.prog n t)=true)(qC:∀es,YZ C.prog n fn.params.toList es->Den C.prog f es (.bool true)):
    ReturnsInHanded {} C os f .any ((OpenSpec.ofChange s).preRow enc C.prog fn [] false laid) (((OpenSpec.ofChange s).at F).post enc C.prog fn false true false false):=by
  have h:∀t∈fn.params.toList,(C.prog.readableRec t=true/\t<C.prog.types.size)/\sup C.prog n t=true:=λt ht=>by
   have:=List.all_eq_true.1 cW t ht;simp only[Bool.and_eq_true]at this;exact⟨⟨this.1.1,cX this.1.2⟩,this.2⟩
  refine returnsInHanded_of_row own started R5 Ue witness ?_;intro W base args ds gs before vj hW _ _ _ hL _ _;have hW':=hW;obtain⟨p,q,hA,hV,rfl,ph,PF⟩:=hW;rw[show(OpenSpec.ofChange s).vars=[]from hs]at hV;obtain⟨hlen,es,Rx,Ry⟩:=Cf fn.params.toList args.toList ds p (λt ht=>(h t ht).2) (λj t v hj hv=>vj j t v (by simpa using hj) (by simpa using hv)) hA;obtain⟨rfl,rfl⟩:=trodVars_none hV;have gJ:=(qC es Ry).2 W (iK W) args.toList (Ce W) (Gh W hL) Rx;rw[show args.toList.toArray=args from rfl]at gJ;refine gJ.mono ?_;rintro e W'⟨v,I',rfl,hkM,_,_,aq⟩;have hk:=hkM.all;have hv:=aq.nB;subst hv;have EZ:((OpenSpec.ofChange s).at F).fn H (ds++[])={results:=[.lit (.bool true)],args:=ds}:=F8 ds hlen;refine⟨_,rfl,ds,[],p++[],[],p,[],hW',?_,?_,?_,?_,λh=>by cases h⟩
  .rw[EZ,dZ]
   exact trodAll_mk1 (shut_bool WL true)
  .rw[EZ]
   exact Cg hl hk _ _ _ _ (λt ht=>(h t ht).1) hA
  .rw[EZ,show((OpenSpec.ofChange s).at F).vars=[]from hs]
   exact rfl
  refine⟨hk.os,hk.output,λi hi=>?_⟩;rw[hk.block i hi];cases hO:W.heap[i]? with
  |none=>rfl
  |some o=>
   cases o with
   |cells c t fr=>exact⟨rfl,rfl,rfl,λ_ _=>rfl⟩
   |map es clock=>exact .inr ⟨rfl,rfl⟩
   |_=>rfl
end
end Go.V
