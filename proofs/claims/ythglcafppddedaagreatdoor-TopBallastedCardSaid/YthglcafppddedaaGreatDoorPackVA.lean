/- What ballasted_holds leans on, part VA. No condition. -/
import Derived.Test.YthglcafppddedaaGreatDoorPackUF

set_option linter.all false
namespace Go.V
open Go.RowKit
section
variable{P:Program}[aM]{T:Nat->Option TI}{β:BE}{I:aW}{w:World}
omit [aM]in
theorem pY(n:Int):∀(ns:List Int),∃o,fx (.int .i64 n) (ns.map (D.int .i64))=some o/\∀i,o=some i->ns[i]?=some n
 |[]=>⟨none,rfl,λi h=>by cases h⟩
 |m::r=>by
  obtain⟨o,h1,h2⟩:=pY n r;have e:yT (.int .i64 n) (.int .i64 m)=some (n==m):=rfl;cases hb:n==m with
  |true=>
   refine⟨some 0,by simp only[List.map_cons,fx,e,hb],λi h=>?_⟩;cases h;simp only[List.getElem?_cons_zero,Option.some.injEq];exact(by simpa using hb:n=m).symm
  |false=>
   cases o with
   |none=>exact⟨none,by simp only[List.map_cons,fx,e,hb,h1],λi h=>by cases h⟩
   |some j=>exact⟨some (j+1),by simp only[List.map_cons,fx,e,hb,h1],λi h=>by cases h;exact h2 j rfl⟩
def zn(e:MapEntry):Int:=match e.key with|.int _ n=>n|_=>0
omit [aM]in
theorem vB{c:Nat}{es:List MapEntry}(h:pT c es){i:Nat}{e:MapEntry}(he:es[i]?=some e):e.key=.int .i64 (zn e)/\e.val=.int .i64 (pP c (zn e)):=by
 obtain⟨n,h1,h2⟩:=h e (List.mem_of_getElem? he);unfold zn;rw[h1];exact⟨rfl,h2⟩
omit [aM]in
theorem xU{c:Nat}{es:List MapEntry}(h:pT c es):∀(i:Nat)(e:MapEntry)(d:D),es[i]?=some e->((es.map zn).map (D.int .i64))[i]?=some d->Rel I dM e.key d:=λi e d he hd=>by
 simp only[List.getElem?_map,he,Option.map_some,Option.some.injEq]at hd;subst hd;rw[(vB h he).1];exact .int _ _
omit [aM]in
theorem HA{c:Nat}{es:List MapEntry}(h:pT c es):∀(i:Nat)(e:MapEntry)(d:D),es[i]?=some e->((es.map zn).map λn=>D.int .i64 (pP c n))[i]?=some d->Rel I dM e.val d:=λi e d he hd=>by
 simp only[List.getElem?_map,he,Option.map_some,Option.some.injEq]at hd;subst hd;rw[(vB h he).2];exact .int _ _
omit [aM]in
theorem Bx(gT:bc I w){t kt et:TypeId}{ti tk te:TI}(h:aj P t ti)(hd:ti.desc=.map kt et)(hk:aj P kt tk)(he:aj P et te){key:D}(hi:gG tk key=true){mv kv:Value}{c:Nat}(hm:Rel I β mv (.dY c))(qG:Rel I β kv key)
    {ok:Bool}{k:bE->Prop}(hq:AT c tk te key ok k):∃v d,(Instr.lookup t mv kv ok).run P w=.ok v w/\k (.val d)/\Rel I β v d:=by
  cases hm with
  |dY R _ hI=>
  obtain⟨es,clock,hh,ho⟩:=kc (gT _ _ _ hI);unfold AT at hq;split at hq
  .rename_i n T0 hz
   obtain⟨o,hf,Px⟩:=pY n (es.toList.map zn);refine s7 (es:=es.toList) (ks:=(es.toList.map zn).map (D.int .i64)) (vs:=(es.toList.map zn).map λn=>D.int .i64 (pP c n)) h hd hk he hi (r:=some R) ⟨clock,by simpa using hh⟩ (by simp) (by simp) (xU ho) (HA ho) qG ?_;rw[hz];refine⟨o,hf,?_⟩;cases o with
   |none=>exact⟨_,_,⟨rfl,rfl⟩,hq.2⟩
   |some i=>exact⟨_,_,⟨by rw[List.getElem?_map,Px i rfl];rfl,rfl⟩,hq.1⟩
  exact hq.elim
omit [aM]in
theorem tc(gT:bc I w){t kt et:TypeId}{ti tk:TI}(h:aj P t ti)(hd:ti.desc=.map kt et)(hk:aj P kt tk){key x:D}{mv kv xv:Value}{c:Nat}(hm:Rel I β mv (.dY c))(qG:Rel I β kv key)(hx:Rel I β xv x)
    {k:bE->Prop}(hq:AU c tk key x k):∃w',(Instr.mapUpdate t mv kv xv).run P w=.ok () w'/\k (.res .eL [])/\dG I w w'/\bc I w':=by
  cases hm with
  |dY R _ hI=>
  obtain⟨es,clock,hh,ho⟩:=kc (gT _ _ _ hI);have ht:P.underlying t=some (.map kt et):=hd▸h.desc;unfold AU at hq;split at hq
  .rename_i n v T0
   obtain⟨rfl,hq⟩:=hq;have du:gG tk (.int .i64 n)=true:=by simp only[gG,T0]
   have pX:=λem=>kq (w:=w) hk du qG em;obtain⟨o,hf,Px⟩:=pY n (es.toList.map zn);have dW:=lD (w:=w) hk du qG es.toList _ o (by simp) (xU (I:=I) ho) hf;rw[qG.aT,hx.aT]at*;have dE:∀(Np:Array MapEntry)(q:Nat),pT c Np.toList->dG I w {w with heap:=w.heap.setIfInBounds R (.map Np q)}/\bc I {w with heap:=w.heap.setIfInBounds R (.map Np q)}:=λNp q U5=>by
    have M3:=ja w R (.map Np q);have hg:({w with heap:=w.heap.setIfInBounds R (.map Np q)}:World).heap[R]?=some (.map Np q):=by
     have:=bo hh;simp[this]
    refine⟨M3.mono λB hB e=>hB.2 ⟨c,by rw[e];exact hI⟩,λB off v hv=>?_,gT.ex⟩;by_cases hB:B=R
    .subst hB
     obtain rfl:=gT.ex B c hI off v hv;rw[hI]at hv;rw[<-hv];exact o8 hg U5
    rw[M3.cell hB];exact gT B off v hv
   cases o with
   |none=>
    obtain⟨h1,h2⟩:=dE (es.push {key:=.int .i64 n,val:=.int .i64 (pP c n),born:=clock}) (clock+1) (λe he=>by
     simp only[Array.toList_push,List.mem_append,List.mem_singleton]at he;rcases he with he|rfl
     .exact ho e he
     exact⟨n,rfl,rfl⟩)
    refine⟨_,?_,hq,h1,h2⟩;unfold Instr.mapUpdate;simp[run_underlying ht,MapKept.run_getObj_map hh,pX,dW,MapKept.run_setObj_map _ hh]
   |some j=>
    obtain⟨e,h1,h2,h3⟩:=dW;have Z0:es[j]?=some e:=by simpa using h1
    have cH:=Br (P:=P) (w:=w) (β:=β) (I:=I) (.int .i64 n) du;obtain⟨h4,h5⟩:=dE (es.modify j λe=>{e with key:=.int .i64 n,val:=.int .i64 (pP c n)}) clock (λe he=>by
     rw[Array.toList_modify]at he;obtain⟨q,hq,rfl⟩:=List.getElem_of_mem he;rw[List.getElem_modify];split
     .exact⟨n,rfl,rfl⟩
     exact ho _ (List.getElem_mem _))
    refine⟨_,?_,hq,h4,h5⟩;unfold Instr.mapUpdate;simp[run_underlying ht,MapKept.run_getObj_map hh,pX,h2,Z0,h3,cH,MapKept.run_setObj_map _ hh]
  exact hq.elim
end
end Go.V
