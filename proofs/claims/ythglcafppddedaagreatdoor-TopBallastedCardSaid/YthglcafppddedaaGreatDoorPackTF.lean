/- What ballasted_holds leans on, part TF. No condition. -/
import Derived.Lib.SmallJoins
import Derived.Test.YthglcafppddedaaGreatDoorPackTD
import Derived.Test.YthglcafppddedaaGreatDoorPackTE

set_option linter.all false
namespace Go.Proofs.Ball
open Go.V Go.Proofs Go.RowKit
theorem I5{w:World}{B off:Nat}(h:cN w B off=some DO):∃c t f,w.heap[B]?=some (.cells c t f)/\off=c.size:=by
 unfold cN at h;split at h
 .rename_i es k hb
  split at h
  .have h3:=congrArg Array.toList (Value.tuple.inj (Option.some.inj h))
   simp only[Array.toList_map]at h3;cases Nr:es.toList with
   |nil=>rw[Nr]at h3;cases h3
   |cons x r=>rw[Nr,List.map_cons]at h3;cases(List.cons.inj h3).1
  split at h<;>cases h
 split at h
 .exact absurd (filter_some h).2 (by simp[DO,Value.oneCell'])
 split at h
 .rename_i c t f hb
  split at h
  .rename_i ho;exact⟨c,t,f,hb,ho⟩
  cases h
 cases h
theorem w7{w w':World}(h:Below w.heap.size w w'):aB (·<w.heap.size) w w':=⟨h.os,h.tape,h.output,h.size,h.block⟩
theorem I6(w:World)(k:Nat)(os:Array Obj):aB (·<w.heap.size) w (Go.Sort.grow (w.drewN k) os):=
 ⟨rfl,rfl,rfl,by show w.heap.size<=(w.heap++os).size;simp,λi hi=>by show(w.heap++os)[i]?=_;rw[Array.getElem?_append_left hi]⟩
theorem ox{k:Nat}{az:List D}{d:D}(he:Enters Tryz.prog k)(h:∀(w:World)(I:aW)(vs:List Value),bc I w->pU.le I->bn I dM vs az->Calls Tryz.prog k vs.toArray w λe w'=>∃v,e=.returned v/\aB (·<w.heap.size) w w'/\Rel I dM v d):DN k az d:=
 ⟨he,λw I vs ha hg hr=>(h w I vs ha hg hr).mono λe w'⟨v,h1,h2,h3⟩=>⟨v,I,h1,h2.toM,Grow.refl _ _,ha.aE h2,h3⟩⟩
theorem abv{I:aW}{w:World}(ha:bc I w)(hg:pU.le I):Lib.TabIs Tryz.prog w "internal/strconv.uint64pow10" .u64 Lib.pow10Tab:=by
 obtain⟨c,t,f,hc,hs⟩:=I5 (ha 3 20 DO (hg 3 20 DO rfl));have ca:∀i:Nat,i<20->c[i]?=some (.int .u64 ((10^i:Nat):Int)):=λi hi=>by
  have h1:pU 3 i=some (.int .u64 ((10^i:Nat):Int)):=by
   have h2:aM.Jw 3 i=some (IntKind.u64,((10^i:Nat):Int)):=by
    show(match Nat.blt i 20 with|true=>some (IntKind.u64,((10^i:Nat):Int))|false=>none)=_;rw[show Nat.blt i 20=true from Nat.ble_eq_true_of_le hi]
   unfold pU;rw[h2]
  have h3:=jX (ha 3 i _ (hg 3 i _ h1)) rfl;rw[bO hc]at h3;exact h3
 have hg3:Tryz.prog.globalNamed "internal/strconv.uint64pow10"=some 3:=by kernel_rfl
 unfold Lib.TabIs World.var?;rw[hg3];show(match w.heap[3]? with|some (.cells cs _ _)=>some cs|_=>none)=_;rw[hc];show some c=_;congr 1;apply Array.ext
 .simp[Lib.pow10Tab,<-hs]
 intro i h1 h2;have h3:=ca i (by omega);rw[Array.getElem?_eq_getElem h1]at h3;rw[Option.some.inj h3];simp[Lib.pow10Tab]
theorem TE(n:Nat)(hn:n<2^62):DN 216 [.int .i64 n] (.str ⟨(Lib.itoa n).toArray⟩):=ox Tryz.call216 λw I vs ha hg hr=>by
 obtain⟨v,oz,rfl,hv,zs⟩:=hr.cons_inv;cases zs.cR;cases hv;refine(Tryz.strconv_Itoa n (by omega) (by omega) w (abv ha hg)).mono ?_;rintro e w'⟨rfl,k,os,rfl⟩;exact⟨_,rfl,I6 w k os,.str _⟩
theorem TF(s:ByteArray)(n:Int)(hl:s.size<=18)(h:Lib.atoi s.data.toList=some n):DN 271 [.str s] (.b9 [.int .i64 n,.dI]):=ox Tryz.call271 λw I vs ha hg hr=>by
 obtain⟨v,oz,rfl,hv,zs⟩:=hr.cons_inv;cases zs.cR;cases hv;refine(Tryz.strconv_Atoi s n hl h w).mono ?_;rintro e w'⟨rfl,t,rfl⟩;exact⟨_,rfl,w7 (Joins.below_bytesWorld _ w 5 t (Nat.le_refl _)),Rel.ji (vs:=[.int .i64 n,.nilIface]) (bn.cons (.int _ _) (bn.cons .dI .nil))⟩
theorem TG(s:ByteArray)(c:UInt8):DN 269 [.str s,.str ⟨#[c]⟩] (.int .i64 (Lib.countByte s.data.toList c)):=ox Tryz.call269 λw I vs ha hg hr=>by
 obtain⟨v,oz,rfl,hv,zs⟩:=hr.cons_inv;obtain⟨u,us,rfl,hu,Dz⟩:=zs.cons_inv;cases Dz.cR;cases hv;cases hu;refine(Tryz.strings_Count_one s c w).mono ?_;rintro e w'⟨rfl,rfl⟩;exact⟨_,rfl,aB.refl _ _,.int _ _⟩
theorem TH(s:ByteArray)(c:Int):DN 311 [.str s,.int .u8 c] (.int .i64 (Lib.indexByte s.data.toList c.toNat.toUInt8)):=ox Tryz.call311 λw I vs ha hg hr=>by
 obtain⟨v,oz,rfl,hv,zs⟩:=hr.cons_inv;obtain⟨u,us,rfl,hu,Dz⟩:=zs.cons_inv;cases Dz.cR;cases hv;cases hu;refine(Tryz.stringslite_IndexByte s c w).mono ?_;rintro e w'⟨rfl,rfl⟩;exact⟨_,rfl,aB.refl _ _,.int _ _⟩
def uq(s:ByteArray):List D:=[.str s]
theorem TJ(xs:List ByteArray)(sep:ByteArray)(h0:0<xs.length)(hN:xs.length<=1000)(hlen:(Lib.join (xs.map (·.data.toList)) sep.data.toList).length<=140737488355328):
    DN 214 [.list 1 (xs.map uq),.str sep] (.str ⟨(Lib.join (xs.map (·.data.toList)) sep.data.toList).toArray⟩):=ox Tryz.call214 λw I vs ha hg hr=>by
  obtain⟨v,oz,rfl,hv,zs⟩:=hr.cons_inv;obtain⟨u,us,rfl,hu,Dz⟩:=zs.cons_inv;cases Dz.cR;cases hu
  generalize cb:xs.map uq=rows at hv
  have gi:rows.length=xs.length:=by rw[<-cb,List.length_map]
  cases hv with
  |dj=>simp at gi;omega
  |list B off cap _ _ u ia aI hI h1 h=>
   have lC:∀(j:Nat) x,xs[j]?=some x->w.cell? ⟨B,off+j,none⟩=some (.string x):=λj x hx=>by
    have hj:rows[j]?=some (uq x):=by rw[<-cb,List.getElem?_map,hx];rfl
    have ng:=(List.getElem?_eq_some_iff.1 hj).1;have h2:=hI j 0 ng (by decide);have h3:=h j _ 0 (.str x) hj rfl;rw[h3.ir]at h2;have h4:=jX (ha _ _ _ h2) rfl;rw[show off+(j*1+0)=off+j by omega]at h4;exact h4
   have hB:B<w.heap.size:=by
    obtain⟨x,hx⟩:∃x,xs[0]?=some x:=⟨_,List.getElem?_eq_getElem h0⟩;exact va (lC 0 x hx)
   rw[gi];refine(Tryz.strings_Join B off cap xs sep w lC hB (by omega) (by omega) hlen).mono ?_;rintro e w'⟨rfl,hb⟩;exact⟨_,rfl,w7 hb,.str _⟩
end Go.Proofs.Ball
