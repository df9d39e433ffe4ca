/- What ballasted_holds leans on, part UK. No condition. -/
import Derived.ProofKit
import Derived.Deep.Slices
import Derived.Handed
import Derived.OpenShut
import Derived.Test.YthglcafppddedaaGreatDoorPackUI

set_option linter.all false
namespace Go.V
open Go.RowKit
def YW(P:Program)(W:TypeId->List D->Prop):List Field->List D->Prop
 |[],ds=>ds=[]
 |f::r,ds=>∃a b,ds=a++b/\a.length=P.cellsOf f.type/\W f.type a/\YW P W r b
def YX(W:List D->Prop)(n:Nat):Nat->List D->Prop
 |0,ds=>ds=[]
 |k+1,ds=>∃a b,ds=a++b/\a.length=n/\W a/\YX W n k b
def WT(P:Program):Nat->TypeId->List D->Prop
 |0,_,_=>False
 |n+1,t,ds=>match P.underlying t with
  |some .bool=>∃b,ds=[.bool b]
  |some (.int k)=>∃m,ds=[.int k m]/\(Lit.int k m).wf=true
  |some .string=>∃s:ByteArray,ds=[.str s]/\s.size<=maxLen
  |some (.slice e)=>∃rows,ds=[.list (P.cellsOf e) rows]/\rows.length<=maxLen/\∀row∈rows,row.length=P.cellsOf e/\WT P n e row
  |some (.struct fs)=>YW P (WT P n) fs.toList ds
  |some (.array k e)=>YX (WT P n e) (P.cellsOf e) k ds
  |_=>False
def qb(P:Program):Nat->List Field->Nat->Bool
 |off,[],total=>Nat.beq off total
 |off,f::r,total=>match Nat.beq f.offset off with|true=>qb P (off+P.cellsOf f.type) r total|false=>false
def sup(P:Program):Nat->TypeId->Bool
 |0,_=>false
 |n+1,t=>match P.underlying t with
  |some .bool|some (.int _)|some .string=>true
  |some (.slice e)=>match Nat.blt 0 (P.cellsOf e)with|true=>sup P n e|false=>false
  |some (.struct fs)=>match qb P 0 fs.toList (P.cellsOf t)with|true=>fs.toList.all λf=>sup P n f.type|false=>false
  |some (.array k e)=>match Nat.beq (k*P.cellsOf e) (P.cellsOf t)with|true=>sup P n e|false=>false
  |_=>false
open Classical in
noncomputable def iK(w:World):aW:=λB off=>if cN w B off=some jh then none else cN w B off
theorem Cd{w:World}{B off:Nat}{v:Value}(h:cN w B off=some v)(h1:v≠jh):iK w B off=some v:=by
 unfold iK;rw[if_neg (by rw[h];exactλe=>h1 (Option.some.inj e)),h]
theorem yd{w:World}(B:Nat):¬Mem (iK w) B:=λ⟨c,hc⟩=>by
 unfold iK at hc;split at hc
 .cases hc
 contradiction
theorem Ce(w:World):bc (iK w) w:=⟨λB off v hv=>by
 unfold iK at hv;split at hv
 .cases hv
 exact hv,λB c h=>(yd B ⟨c,h⟩).elim⟩
theorem dG.all{w w':World}(h:dG (iK w) w w'):aB (·<w.heap.size) w w':=h.mono λk hk=>⟨hk,yd k⟩
section
variable{H:Type}{enc:TypeId×Value->H}{P:Program}{w:World}{spare:Nat->Bool}
theorem cT.one{I:aW}{β:BE}{v:Value}{d:D}(h:Rel I β v d)(h1:v.oneCell'=true):cT I β [v] [d]:=
 ⟨bn.cons h .nil,λu hu=>by simp at hu;subst hu;exact h1⟩
theorem kH{base n:Nat}{a:Addr}{cs:List Value}(h:w.cells? base a n=some cs):cs.length=n/\∀j,j<n->cs[j]?=w.cell? (a.add j):=by
 unfold World.cells? at h;split at h
 · have main:∀(l:List Nat)(cs:List Value),(l.mapM λi=>w.cell? (a.add i))=some cs->cs.length=l.length/\∀j,j<l.length->cs[j]?=(l[j]?).bind λi=>w.cell? (a.add i):=by
     intro l
     induction l with
     |nil=>intro cs h;simp at h;subst h;exact⟨rfl,λj hj=>absurd hj (by simp)⟩
     |cons x r ih=>
      intro cs h;rw[List.mapM_cons]at h;cases hx:w.cell? (a.add x)with
      |none=>rw[hx]at h;cases h
      |some v=>
       rw[hx]at h;cases hr:(r.mapM λi=>w.cell? (a.add i))with
       |none=>rw[hr]at h;cases h
       |some us=>
        rw[hr]at h;cases h;obtain⟨h1,h2⟩:=ih us hr;refine⟨by simp[h1],λj hj=>?_⟩;cases j with
        |zero=>simp[hx]
        |succ j=>simpa using h2 j (by simpa using hj)
   obtain⟨h1,h2⟩:=main _ _ h;refine⟨by simpa using h1,λj hj=>?_⟩;rw[h2 j (by simpa using hj)];simp[hj]
 .cases h
theorem EO:∀(n fuel:Nat)(t:TypeId)(cs:List Value)(x:DataW H×List MemPlace),sup P n t=true->DataW.trod enc P w 0 spare true fuel t cs=some x->
    ∃ds,cT (iK w) dM cs ds/\WT P n t ds:=by
  intro n
  induction n with
  |zero=>intro fuel t cs x hs;cases hs
  |succ n ih=>
   intro fuel t cs x hs h;unfold sup at hs;unfold WT;cases hu:P.underlying t with
   |none=>rw[hu]at hs;cases hs
   |some d=>
    rw[hu]at hs;cases d with
    |bool=>
     obtain⟨b,rfl,_⟩:=DataW.trod_bool hu h;exact⟨[.bool b],cT.one (.bool b) rfl,b,rfl⟩
    |int k=>
     obtain⟨m,rfl,_,hw⟩:=DataW.trod_int hu h;exact⟨[.int k m],cT.one (.int k m) rfl,m,rfl,hw⟩
    |string=>
     obtain⟨s,rfl,_,hl⟩:=DataW.trod_string hu h;exact⟨[.str s],cT.one (.str s) rfl,s,rfl,hl⟩
    |slice e=>
     simp only at hs;cases hp:Nat.blt 0 (P.cellsOf e)with
     |false=>rw[hp]at hs;cases hs
     |true=>
      rw[hp]at hs;have dw:0<P.cellsOf e:=cX hp;rcases Deep.open_slice hu h with⟨rfl,_⟩|⟨a,len,cap,m,f,dd,pl,rfl,_,hlc,Oa,hm,_,hel⟩
      .exact⟨[.list (P.cellsOf e) []],cT.one (.dj _ _ _) rfl,[],rfl,Nat.zero_le _,by simp⟩
      have hlm:len<=m:=by rw[hm];split<;>omega
      have each:∀i,i<len->∃row,row.length=P.cellsOf e/\WT P n e row/\∃vs,w.cells? 0 (a.add (i*P.cellsOf e)) (P.cellsOf e)=some vs/\cT (iK w) dM vs row:=by
       intro i hi;obtain⟨vs,h1,h2⟩:=hel i (by omega);obtain⟨row,h3,h4⟩:=ih _ _ _ _ hs h2;exact⟨row,by rw[<-h3.1.1];exact(kH h1).1,h4,vs,h1,h3⟩
      have build:∀k,k<=len->∃rows:List (List D),rows.length=k/\∀(i:Nat)(row:List D),rows[i]?=some row->row.length=P.cellsOf e/\WT P n e row/\∃vs,w.cells? 0 (a.add (i*P.cellsOf e)) (P.cellsOf e)=some vs/\cT (iK w) dM vs row:=by
       intro k
       induction k with
       |zero=>intro _;exact⟨[],rfl,λi row h=>by simp at h⟩
       |succ k ihk=>
        intro hk;obtain⟨rows,h1,h2⟩:=ihk (by omega);obtain⟨row,h3⟩:=each k (by omega);refine⟨rows++[row],by simp[h1],λi r hr=>?_⟩;by_cases hi:i<rows.length
        .rw[List.getElem?_append_left hi]at hr;exact h2 i r hr
        rw[List.getElem?_append_right (by omega)]at hr;have HM:i-rows.length=0:=by
         rcases Nat.eq_zero_or_pos (i-rows.length)with h|h
         .exact h
         rw[List.getElem?_eq_none (by simp;omega)]at hr;cases hr
        rw[HM]at hr;simp at hr;subst hr;rw[show i=k by omega];exact h3
      obtain⟨rows,gi,cb⟩:=build len (Nat.le_refl _);refine⟨[.list (P.cellsOf e) rows],?_,rows,rfl,by omega,λrow hr=>?_⟩
      .refine cT.one ?_ rfl
       rcases Nat.eq_zero_or_pos len with h0|h0
       .subst h0
        rw[List.eq_nil_of_length_eq_zero gi];exact .dj _ _ _
       have PO:a.spot=none:=by
         obtain⟨row,_,_,vs,oG,_⟩:=each 0 h0;have h1:=(kH oG);have h2:=h1.2 0 dw;have h3:vs[0]?≠none:=by rw[List.getElem?_eq_getElem (by omega)];simp
         rw[h2]at h3;cases hsp:a.spot with
         |none=>rfl
         |some s=>
          exfalso;apply h3;simp only[Nat.zero_mul,Addr.add,if_true];unfold World.cell?;rw[hsp];split<;>simp
       obtain⟨B,off,sp⟩:=a;simp only at PO;subst PO;have Rv:∀i j,(((⟨B,off,none⟩:Addr).add (i*P.cellsOf e)).add j)=⟨B,off+(i*P.cellsOf e+j),none⟩:=by
        intro i j;unfold Addr.add;by_cases h1:i*P.cellsOf e=0<;>by_cases h2:j=0<;>simp[h1,h2]<;>omega
       have:=Rel.list (I:=iK w) (β:=dM) B off cap (P.cellsOf e) rows (λi j=>(w.cell? ⟨B,off+(i*P.cellsOf e+j),none⟩).getD undef) (by omega) (λr row hr=>(cb r row hr).1) ?_ ?_ ?_
       .rw[gi]at this;exact this
       .intro r j hr hj
        obtain⟨_,_,vs,oG,vc⟩:=cb r _ (List.getElem?_eq_getElem hr);have h1:=(kH oG);have h2:=h1.2 j hj;rw[Rv]at h2;rw[List.getElem?_eq_getElem (by omega)]at h2;refine(Cd (nC h2.symm (vc.2 _ (List.getElem_mem _))) (ux (vc.2 _ (List.getElem_mem _)))).trans ?_;rw[<-h2];rfl
       .intro r j hr hj
        obtain⟨_,_,vs,oG,vc⟩:=cb r _ (List.getElem?_eq_getElem hr);have h1:=(kH oG);have h2:=h1.2 j hj;rw[Rv]at h2;rw[List.getElem?_eq_getElem (by omega)]at h2;rw[<-h2];exact vc.2 _ (List.getElem_mem _)
       intro r row j d hr hd;obtain⟨hlr,_,vs,oG,vc⟩:=cb r row hr;have h1:=(kH oG);have hj:j<P.cellsOf e:=by rw[<-hlr];exact(List.getElem?_eq_some_iff.1 hd).1
       have h2:=h1.2 j hj;rw[Rv]at h2;have h3:vs[j]?=some vs[j]:=List.getElem?_eq_getElem (by omega);rw[h3]at h2;rw[<-h2];exact vc.1.2 j _ d h3 hd
      obtain⟨i,hi⟩:=List.mem_iff_getElem?.1 hr;obtain⟨h1,h2,_⟩:=cb i row hi;exact⟨h1,h2⟩
    |struct fs=>
     simp only at hs;cases nn:qb P 0 fs.toList (P.cellsOf t)with
     |false=>rw[nn]at hs;cases hs
     |true=>
      rw[nn]at hs;simp only[List.all_eq_true]at hs;obtain⟨xs,m,_,_,hlen,vn,hf⟩:=DataW.trod_struct hu h;have cW:∀f∈fs.toList,∃y,DataW.trod enc P w 0 spare true m f.type ((cs.drop f.offset).take (P.cellsOf f.type))=some y:=by
       intro f jd;obtain⟨i,hi⟩:=List.mem_iff_getElem?.1 jd;have bC:fs[i]?=some f:=by simpa using hi
       have qp:i<fs.size:=(Array.getElem?_eq_some_iff.1 bC).1;exact⟨xs[i],by rw[hf i f bC,List.getElem?_eq_getElem (by omega)]⟩
      have main:∀(l:List Field)(off:Nat),(∀f∈l,sup P n f.type=true)->(∀f∈l,∃y,DataW.trod enc P w 0 spare true m f.type ((cs.drop f.offset).take (P.cellsOf f.type))=some y)->off<=cs.length->qb P off l cs.length=true->
          ∃ds,cT (iK w) dM (cs.drop off) ds/\YW P (WT P n) l ds:=by
        intro l
        induction l with
        |nil=>
         intro off _ _ _ ht;have:off=cs.length:=Nat.eq_of_beq_eq_true ht;exact⟨[],by rw[this,List.drop_length];exact⟨.nil,λv hv=>by simp at hv⟩,rfl⟩
        |cons f r ihl=>
         intro off h1 h2 hle ht;unfold qb at ht;cases hb:Nat.beq f.offset off with
         |false=>rw[hb]at ht;cases ht
         |true=>
          rw[hb]at ht;have QI:=Nat.eq_of_beq_eq_true hb;obtain⟨y,hy⟩:=h2 f (by simp);obtain⟨VW,Hu,Ha⟩:=ih _ _ _ _ (h1 f (by simp)) hy;have tle:∀(l:List Field)(o YY:Nat),qb P o l YY=true->o<=YY:=by
           intro l
           induction l with
           |nil=>intro o YY h;exact Nat.le_of_eq (Nat.eq_of_beq_eq_true h)
           |cons g s ihs=>
            intro o YY h;unfold qb at h;split at h
            .have:=ihs _ _ h;omega
            cases h
          have uh:=tle _ _ _ ht;obtain⟨VX,zs,ZZ⟩:=ihl _ (λg hg=>h1 g (by simp[hg])) (λg hg=>h2 g (by simp[hg])) uh ht;rw[QI]at Hu;have J2:cs.drop off=(cs.drop off).take (P.cellsOf f.type)++cs.drop (off+P.cellsOf f.type):=by
           rw[<-List.drop_drop,List.take_append_drop]
          refine⟨VW++VX,?_,VW,VX,rfl,?_,Ha,ZZ⟩
          .rw[J2];exact Hu.append zs
          rw[<-Hu.1.1];simp;omega
      obtain⟨ds,h1,h2⟩:=main fs.toList 0 hs cW (Nat.zero_le _) (by rw[hlen];exact nn);exact⟨ds,by simpa using h1,h2⟩
    |array k e=>
     simp only at hs;cases hb:Nat.beq (k*P.cellsOf e) (P.cellsOf t)with
     |false=>rw[hb]at hs;cases hs
     |true=>
      rw[hb]at hs;have QP:=Nat.eq_of_beq_eq_true hb;obtain⟨xs,m,_,_,hlen,vn,hf⟩:=DataW.trod_array hu h;have main:∀(j i:Nat),i+j=k->∃ds,cT (iK w) dM (cs.drop (i*P.cellsOf e)) ds/\YX (WT P n e) (P.cellsOf e) j ds:=by
       intro j
       induction j with
       |zero=>
        intro i hi;refine⟨[],?_,rfl⟩;rw[show i=k by omega,QP,<-hlen,List.drop_length];exact⟨.nil,λv hv=>by simp at hv⟩
       |succ j ihj=>
        intro i hi;have hy:=hf i (by omega);rw[List.getElem?_eq_getElem (by omega)]at hy;obtain⟨VW,Hu,Ha⟩:=ih _ _ _ _ hs hy;obtain⟨VX,zs,ZZ⟩:=ihj (i+1) (by omega);have J2:cs.drop (i*P.cellsOf e)=(cs.drop (i*P.cellsOf e)).take (P.cellsOf e)++cs.drop ((i+1)*P.cellsOf e):=by
         rw[Nat.add_mul,Nat.one_mul,<-List.drop_drop,List.take_append_drop]
        have dv:(i+1)*P.cellsOf e<=cs.length:=by rw[hlen,<-QP];exact Nat.mul_le_mul_right _ (by omega)
        rw[Nat.add_mul,Nat.one_mul]at dv;refine⟨VW++VX,?_,VW,VX,rfl,?_,Ha,ZZ⟩
        .rw[J2];exact Hu.append zs
        rw[<-Hu.1.1];simp;omega
      obtain⟨ds,h1,h2⟩:=main k 0 (by omega);exact⟨ds,by simpa using h1,h2⟩
    |_=>cases hs
def WA(P:Program)(n:Nat)(t:TypeId)(d:D):Prop:=
 match P.underlying t with
 |some (.struct _)|some (.array _ _)=>∃ds,d=.agg ds/\WT P n t ds
 |_=>WT P n t [d]
def YZ(P:Program)(n:Nat):List TypeId->List D->Prop
 |[],ds=>ds=[]
 |t::ts,ds=>∃d r,ds=d::r/\WA P n t d/\YZ P n ts r
theorem Rw{n:Nat}{t:TypeId}{ds:List D}(h:WT P n t ds)(hn:∀fs,P.underlying t≠some (.struct fs))(xe:∀k e,P.underlying t≠some (.array k e)):∃d,ds=[d]:=by
 cases n with
 |zero=>exact h.elim
 |succ n=>
  unfold WT at h;split at h
  .obtain⟨b,rfl⟩:=h;exact⟨_,rfl⟩
  .obtain⟨b,rfl,_⟩:=h;exact⟨_,rfl⟩
  .obtain⟨b,rfl,_⟩:=h;exact⟨_,rfl⟩
  .obtain⟨b,rfl,_⟩:=h;exact⟨_,rfl⟩
  .rename_i fs hu;exact absurd hu (hn fs)
  .rename_i k e hu;exact absurd hu (xe k e)
  exact h.elim
theorem K3{n:Nat}{t:TypeId}{v:Value}{d:DataW H}{p:List MemPlace}{r:Reach}{base:Nat}(hs:sup P n t=true)(du:Value.okWide P w r base t v)(h:DataW.Trod enc P w 0 spare true t v d p):
    ∃e,Rel (iK w) dM v e/\WA P n t e:=by
  obtain⟨fuel,h⟩:=h;obtain⟨ds,hr,hw⟩:=EO n fuel t _ _ hs h;unfold Value.okWide at du;unfold WA;split at du
  .rename_i fs hu
   obtain⟨cs,rfl,_⟩:=du;have hc:(Value.agg cs).cells.toList=cs.toList:=by simp[Value.cells]
   rw[hc]at hr;rw[hu];exact⟨.agg ds,.agg cs ds hr.1.1 hr.2 hr.1.2,ds,rfl,hw⟩
  .rename_i k e hu
   obtain⟨cs,rfl,_⟩:=du;have hc:(Value.agg cs).cells.toList=cs.toList:=by simp[Value.cells]
   rw[hc]at hr;rw[hu];exact⟨.agg ds,.agg cs ds hr.1.1 hr.2 hr.1.2,ds,rfl,hw⟩
  rename_i h1 h2;obtain⟨e,rfl⟩:=Rw hw (λfs hu=>h1 fs hu) (λk e hu=>h2 k e hu);have vN:v.oneCell'=true:=by
   cases v with
   |agg cs=>
    exfalso;unfold Cell.okWide at du;split at du
    all_goals first|(rename_i heq;cases heq)|skip
    all_goals try (rename_i heq _;cases heq)
    unfold Cell.ok at du;split at du
    all_goals first|exact du|(rename_i heq;cases heq)|skip
    all_goals (rename_i heq _;cases heq)
   |_=>first|rfl|(exfalso;unfold Cell.okWide Cell.ok at du;revert du;cases hu:P.underlying t with|none=>simp|some d=>cases d<;>simp)
  rw[rR vN]at hr;refine⟨e,hr.1.2 0 v e rfl rfl,?_⟩;split
  .rename_i fs hu;exact absurd hu (h1 fs)
  .rename_i k e hu;exact absurd hu (h2 k e)
  exact hw
end
end Go.V
