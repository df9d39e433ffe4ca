/- What ballasted_holds leans on, part UH. No condition. -/
import Derived.Test.YthglcafppddedaaGreatDoorPackUG
import Derived.Test.YthglcafppddedaaGreatDoorPackUF

set_option linter.all false
namespace Go.V
open Go.RowKit
structure Kj(ops:Array Oper)(m:Nat)(late:List Nat):Prop extends DrawB ops m where
 tail:∀(i:Nat)(o:Oper)(j:Nat),m<=i->ops[i]?=some o->j<i->j∈late\/gA ops o j
 plain:∀(i:Nat)(o:Oper),m<=i->ops[i]?=some o->o.guard=none/\yX o=true/\fj ops.toList i=false
 reads:∀(i:Nat)(o:Oper)(j:Nat)(oj:Oper)(t:Nat),m<=i->ops[i]?=some o->j<i->(j<m\/j∈late)->ops[j]?=some oj->oj.dst=some t->(Operand.tmp t∈o.op.operands.toList->gA ops o j)/\o.dst≠some t
 late:∀(j:Nat),j∈late->∀oj,ops[j]?=some oj->oj.guard=none/\(j<m->DI oj=true/\(iZ oj.op=true->∀s os,s<j->ops[s]?=some os->yW os=true))/\(m<=j->m<j/\iJ oj=true/\∀i∈late,i<=j->∀oi,ops[i]?=some oi->∀t,oj.dst=some t->Operand.tmp t∉oi.op.operands.toList)
theorem BL{ops:Array Oper}{m:Nat}{late:List Nat}(h:jy ops.toList m late=true):Kj ops m late:=by
 have hle:(ops.toList.takeWhile AX).length<=ops.size:=by
  have:=List.takeWhile_prefix (p:=AX) (l:=ops.toList)|>.length_le;simpa using this
 have cM:∀{i o},ops[i]?=some o->ops.toList.getD i default=o:=λ{i o} ho=>by
  have:ops.toList[i]?=some o:=by simpa using ho
  rw[List.getD_eq_getElem?_getD,this];rfl
 unfold jy at h;simp only[Bool.and_eq_true]at h;obtain⟨⟨⟨hm,h1⟩,h2⟩,h3⟩:=h;have hm:=Nat.le_of_ble_eq_true hm;have h1:=List.all_eq_true.1 h1;have h2:=List.all_eq_true.1 h2;have h3:=List.all_eq_true.1 h3;have cG:∀{i o},ops[i]?=some o->i∈List.range ops.toList.length:=λ{i o} ho=>by
  have:=(Array.getElem?_eq_some_iff.1 ho).1;rw[List.mem_range];simpa using this
 have hb:∀(i:Nat)(o:Oper),ops[i]?=some o->(∀e∈o.after.toList,Region.binds .any e=true->e.on<i)/\(∀g want,o.guard=some (g,want)->g<i/\i<m)/\
     (m<=i->yX o=true/\fj ops.toList i=false/\(∀j,j<i->j∈late\/∃s,s<=i/\j<s/\fm (ops.toList.getD s default) j=true/\(s=i\/s∉late))/\
      ∀(j:Nat)(oj:Oper)(t:Nat),j<i->(j<m\/j∈late)->ops[j]?=some oj->oj.dst=some t->(Operand.tmp t∈o.op.operands.toList->j∈late->fm o j=true)/\o.dst≠some t):=by
   intro i o ho;have:=h1 i (cG ho);rw[cM ho]at this;simp only[Bool.and_eq_true,Bool.or_eq_true]at this;obtain⟨⟨a1,a2⟩,a3⟩:=this;refine⟨λe he ug=>?_,λg want hg=>?_,λM5=>?_⟩
   .have:=List.all_eq_true.1 a1 e he
    rw[Bool.or_eq_true]at this;rcases this with h|h
    .exact Nat.blt_eq▸h
    exfalso;unfold yV at h;unfold Region.binds at ug;cases hg:e.ground<;>rw[hg]at h ug<;>first|(simp at h;done)|(simp at ug;done)
   .rw[hg]at a2
    simp only[Bool.and_eq_true]at a2;exact⟨Nat.blt_eq▸a2.1,Nat.blt_eq▸a2.2⟩
   rcases a3 with a3|⟨⟨⟨b1,b2⟩,b3⟩,b4⟩
   .have:i<m:=Nat.blt_eq▸a3
    omega
   refine⟨b1,by simpa using b2,λj hj=>?_,λj oj t ie hj gF hd=>?_⟩
   .have:=List.all_eq_true.1 b3 j (List.mem_range.2 hj)
    rw[Bool.or_eq_true]at this;rcases this with h|h
    .exact .inl (by simpa using h)
    obtain⟨s,hs,h⟩:=List.any_eq_true.1 h;rw[List.mem_range]at hs;simp only[Bool.and_eq_true,Bool.or_eq_true]at h;refine .inr ⟨s,by omega,Nat.blt_eq▸h.1,h.2.1,?_⟩;rcases h.2.2 with h5|h5
    .exact .inl (Nat.eq_of_beq_eq_true h5)
    exact .inr (by simpa using h5)
   have:=List.all_eq_true.1 b4 j (List.mem_range.2 ie);rw[cM gF,hd]at this;simp only[Bool.and_eq_true,Bool.or_eq_true]at this;have this:=this.resolve_left λh=>by
    rcases hj with h1|h1
    .have:=Nat.le_of_ble_eq_true h.1;omega
    have h2:=h.2;rw[List.contains_iff_mem.2 h1]at h2;cases h2
   refine⟨λdv hl=>?_,λe=>?_⟩
   .rcases this.1 with(h|h)|h
    .exfalso
     have:(tmpsOf o).contains t=true:=by
      rw[List.contains_iff_mem];exact List.mem_filterMap.2 ⟨.tmp t,dv,rfl⟩
     rw[this]at h;cases h
    .have:late.contains j=true:=by simpa using hl
     rw[this]at h;cases h
    exact h
   have h:=this.2;rw[e]at h;simp at h
 have Kc:∀(i:Nat)(o:Oper)(e:Edge),ops[i]?=some o->e∈o.after.toList->Region.binds .any e=true->e.on<i:=λi o e ho he ug=>(hb i o ho).1 e he ug;have F5:∀(i:Nat)(o:Oper),m<=i->ops[i]?=some o->∀(d j:Nat),j<i->i-j<=d->j∈late\/gA ops o j:=by
  intro i o M5 ho d
  induction d with
  |zero=>intro j hj hd;omega
  |succ d ih=>
   intro j hj hd;rcases((hb i o ho).2.2 M5).2.2.1 j hj with h|⟨s,h1,h2,h3,h4⟩
   .exact .inl h
   have QS:s<ops.size:=by have:=(Array.getElem?_eq_some_iff.1 ho).1;omega
   have Jf:ops[s]?=some ops[s]:=Array.getElem?_eq_getElem QS;rw[cM Jf]at h3;rcases Nat.lt_or_ge s i with cG|Dt
   .rcases ih s cG (by omega)with h5|h5
    .exact absurd h5 (h4.resolve_left (by omega))
    exact .inr (h5.snoc Jf (c8 h3))
   have:s=i:=by omega
   subst this;rw[ho]at Jf;cases Jf;exact .inr (.p2 (c8 h3))
 refine⟨⟨Nat.le_trans hm hle,λi o hi ho=>Ka (vG (Nat.lt_of_lt_of_le hi hm) (by simpa using ho)),Kc,λi o g want ho hg=>((hb i o ho).2.1 g want hg).1,?_,?_⟩,λi o j M5 ho hj=>F5 i o M5 ho i j hj (by omega),?_,?_,?_⟩
 .intro i j oi oj t hi hj xr gF hd
  have:=h2 i (List.mem_range.2 hi);simp only[Bool.and_eq_true]at this;have:=List.all_eq_true.1 this.1 j (List.mem_range.2 hj);rw[cM xr,cM gF,hd]at this;simp only[Bool.and_eq_true,Bool.or_eq_true,Bool.not_eq_true']at this;obtain⟨h3,h4⟩:=this;refine⟨λdv=>?_,?_⟩
  .rcases h3 with h3|h3
   .exfalso
    have:(tmpsOf oi).contains t=true:=by
     rw[List.contains_iff_mem];exact List.mem_filterMap.2 ⟨.tmp t,dv,rfl⟩
    rw[this]at h3;cases h3
   exact⟨Nat.blt_eq▸h3.1,c8 h3.2⟩
  rcases h4 with h4|h4
  .exact .inl (Nat.eq_of_beq_eq_true h4)
  refine .inr λe=>?_;rw[e]at h4;simp at h4
 .intro i oi g want hi xr hg
  have:=h2 i (List.mem_range.2 hi);simp only[Bool.and_eq_true]at this;have:=this.2;rw[cM xr,hg]at this;exact c8 this
 .intro i o M5 ho
  obtain⟨a1,a2,a3⟩:=hb i o ho;refine⟨?_,(a3 M5).1,(a3 M5).2.1⟩;cases hg:o.guard with
  |none=>rfl
  |some x=>have:=(a2 x.1 x.2 hg).2;omega
 .intro i o j oj t M5 ho ie hj gF hd
  obtain⟨_,_,a3⟩:=hb i o ho;obtain⟨b1,b2⟩:=(a3 M5).2.2.2 j oj t ie hj gF hd;refine⟨λdv=>?_,b2⟩;rcases F5 i o M5 ho i j (by omega) (by omega)with h|h
  .exact .p2 (c8 (b1 dv h))
  exact h
 intro j hj oj gF;have:=h3 j hj;rw[cM gF]at this;simp only[Bool.and_eq_true]at this;obtain⟨h4,h5⟩:=this;refine⟨?_,λQ6=>?_,λhmj=>?_⟩
 .cases hg:oj.guard with
  |none=>rfl
  |some x=>rw[hg]at h4;cases h4
 .have hb:Nat.blt j m=true:=Nat.blt_eq.symm▸Q6
  rw[hb]at h5;simp only[Bool.and_eq_true]at h5;refine⟨h5.1,λKk s os Z8 Jf=>?_⟩;have h6:=h5.2;rw[Kk]at h6;have h7:=List.all_eq_true.1 h6 s (List.mem_range.2 Z8);rw[cM Jf]at h7;exact h7
 have hb:Nat.blt j m=false:=Bool.eq_false_iff.2 λh=>by have:j<m:=Nat.blt_eq▸h;omega
 rw[hb]at h5;simp only[Bool.and_eq_true]at h5;refine⟨Nat.blt_eq▸h5.1,h5.2.1,λi hi Bh oi xr t nf dv=>?_⟩;have h6:=List.all_eq_true.1 h5.2.2 i hi;rw[cM xr,nf,Bool.or_eq_true]at h6;rcases h6 with h6|h6
 .have:j<i:=Nat.blt_eq▸h6
  omega
 have:(tmpsOf oi).contains t=true:=by
   rw[List.contains_iff_mem];exact List.mem_filterMap.2 ⟨.tmp t,dv,rfl⟩
 have h6:(!(tmpsOf oi).contains t)=true:=h6;rw[this]at h6;cases h6
section
variable{P:Program}[aM]{sh:er}{ish:Nat->Bool}{T:Nat->Option TI}{C:xa}{cx:Cx}{U:St}{N:Nat}{a:Act}{w:World}{ops:Array Oper}{m:Nat}
omit [aM]in
theorem El{U:St}{o:Oper}{k:bE->Prop}(hv:iJ o=true)(hk:dC T C U o k):∃d,k (.val d):=by
 unfold dC at hk;cases ho:o.op with
 |move x|assign x=>
  simp only[ho]at hk;split at hk
  .first|exact⟨_,hk⟩|(simp only[ax]at hk;exact⟨_,hk⟩)|(simp only[ba]at hk;exact⟨_,hk⟩)
  exact hk.elim
 |build t ps=>
  simp only[ho]at hk;split at hk
  .split at hk
   .simp only[cg]at hk;exact⟨_,hk⟩
   exact hk.elim
  exact hk.elim
 |indexAddr t x i=>
  simp only[ho]at hk;split at hk
  .split at hk
   .unfold eB at hk
    split at hk
    .split at hk
     .obtain⟨_,hk⟩:=hk
      split at hk
      .split at hk
       .simp only[ba]at hk;exact⟨_,hk⟩
       obtain⟨_,_,hk⟩:=hk;exact⟨_,hk⟩
      .obtain⟨_,_,hk⟩:=hk;exact⟨_,hk⟩
      .split at hk
       .exact⟨_,hk⟩
       exact hk.elim
      .obtain⟨_,_,hk⟩:=hk;exact⟨_,hk⟩
      .obtain⟨_,_,hk⟩:=hk;exact⟨_,hk⟩
      exact hk.elim
     .split at hk
      .obtain⟨_,hk⟩:=ae hk
       obtain⟨_,_,_,hk⟩:=hk;exact⟨_,hk⟩
      .split at hk
       .obtain⟨_,hk⟩:=ae hk
        obtain⟨_,_,_,_,hk⟩:=hk;exact⟨_,hk⟩
       exact hk.elim
      .obtain⟨_,hk⟩:=ae hk
       obtain⟨_,_,_,_,hk⟩:=hk;exact⟨_,hk⟩
      exact hk.elim
     exact hk.elim
    exact hk.elim
   exact hk.elim
  exact hk.elim
 |fieldAddr t x f=>
  simp only[ho]at hk;split at hk
  .split at hk
   .obtain⟨_,hk⟩:=ae hk
    unfold eA at hk;split at hk<;>first|exact hk.elim|first|exact⟨_,hk⟩|(simp only[ax]at hk;exact⟨_,hk⟩)|(simp only[ba]at hk;exact⟨_,hk⟩)|(simp only[ba]at hk;first|exact⟨_,hk⟩|(simp only[ax]at hk;exact⟨_,hk⟩)|(simp only[ba]at hk;exact⟨_,hk⟩))
   exact hk.elim
  exact hk.elim
 |field t x f=>
  simp only[ho]at hk;split at hk
  .split at hk
   .split at hk
    .split at hk
     .first|exact⟨_,hk⟩|(simp only[ax]at hk;exact⟨_,hk⟩)|(simp only[ba]at hk;exact⟨_,hk⟩)
     exact hk.elim
    split at hk
    .first|exact⟨_,hk⟩|(simp only[ax]at hk;exact⟨_,hk⟩)|(simp only[ba]at hk;exact⟨_,hk⟩)
    exact hk.elim
   exact hk.elim
  exact hk.elim
 |extract t i=>
  simp only[ho]at hk;split at hk
  .split at hk
   .first|exact⟨_,hk⟩|(simp only[ax]at hk;exact⟨_,hk⟩)|(simp only[ba]at hk;exact⟨_,hk⟩)
   exact hk.elim
  exact hk.elim
 |load t x=>
  simp only[ho]at hk;split at hk
  .split at hk
   .obtain⟨_,_,_,hk⟩:=hk;exact⟨_,hk⟩
   exact hk.elim
  .unfold fy at hk
   split at hk
   .split at hk
    .split at hk
     .split at hk
      .first|exact⟨_,hk⟩|(simp only[ax]at hk;exact⟨_,hk⟩)|(simp only[ba]at hk;exact⟨_,hk⟩)
      exact hk.elim
     split at hk
     .first|exact⟨_,hk⟩|(simp only[ax]at hk;exact⟨_,hk⟩)|(simp only[ba]at hk;exact⟨_,hk⟩)
     exact hk.elim
    exact hk.elim
   .split at hk
    .split at hk
     .obtain⟨_,_,_,hk⟩:=hk;first|exact⟨_,hk⟩|(simp only[ax]at hk;exact⟨_,hk⟩)|(simp only[ba]at hk;exact⟨_,hk⟩)
     obtain⟨_,_,hk⟩:=hk;first|exact⟨_,hk⟩|(simp only[ax]at hk;exact⟨_,hk⟩)|(simp only[ba]at hk;exact⟨_,hk⟩)
    exact hk.elim
   .split at hk
    .split at hk
     .first|exact⟨_,hk⟩|(simp only[ax]at hk;exact⟨_,hk⟩)|(simp only[ba]at hk;exact⟨_,hk⟩)
     exact hk.elim
    split at hk
    .first|exact⟨_,hk⟩|(simp only[ax]at hk;exact⟨_,hk⟩)|(simp only[ba]at hk;exact⟨_,hk⟩)
    exact hk.elim
   .split at hk
    .obtain⟨_,_,_,hk⟩:=ae hk
     split at hk
     .split at hk
      .first|exact⟨_,hk⟩|(simp only[ax]at hk;exact⟨_,hk⟩)|(simp only[ba]at hk;exact⟨_,hk⟩)
      exact hk.elim
     split at hk
     .first|exact⟨_,hk⟩|(simp only[ax]at hk;exact⟨_,hk⟩)|(simp only[ba]at hk;exact⟨_,hk⟩)
     exact hk.elim
    exact hk.elim
   exact hk.elim
  exact hk.elim
 |binOp op t x y u=>
  simp only[ho]at hk;split at hk
  .split at hk
   .exact⟨_,hk false (λh=>by cases h)⟩
   exact hk.elim
  .split at hk
   .split at hk
    .exact⟨_,(ae hk).2 false (λh=>by cases h)⟩
    exact hk.elim
   exact hk.elim
  .split at hk
   .exact⟨_,hk false⟩
   exact hk.elim
  .split at hk<;>first|exact⟨_,hk⟩|exact hk.elim
  .unfold jN at hk
   split at hk
   .split at hk
    all_goals first
     |(obtain⟨_,hk⟩:=ae hk;first|exact⟨_,hk⟩|(obtain⟨_,_,hk⟩:=hk;exact⟨_,hk⟩)|(obtain⟨_,_,_,hk⟩:=hk;exact⟨_,hk⟩))
     |(obtain⟨_,_,_,hk⟩:=hk;first|exact⟨_,hk⟩|(simp only[ax]at hk;exact⟨_,hk⟩)|(simp only[ba]at hk;exact⟨_,hk⟩))
   .split at hk<;>first|exact hk.elim|exact⟨_,hk.2⟩|first|exact⟨_,hk⟩|(simp only[ax]at hk;exact⟨_,hk⟩)|(simp only[ba]at hk;exact⟨_,hk⟩)|(simp only[ba]at hk;first|exact⟨_,hk⟩|(simp only[ax]at hk;exact⟨_,hk⟩)|(simp only[ba]at hk;exact⟨_,hk⟩))
   .split at hk<;>first|exact hk.elim|(obtain⟨_,hk⟩:=ae hk;first|exact⟨_,hk⟩|(simp only[ax]at hk;exact⟨_,hk⟩)|(simp only[ba]at hk;exact⟨_,hk⟩))
   split at hk<;>(split at hk<;>first|exact hk.elim|exact⟨_,hk⟩)
  exact hk.elim
 |slice t x lo hi mx=>
  simp only[ho]at hk;split at hk
  .split at hk
   .obtain⟨e,h1,⟨d,rfl⟩,_⟩:=vE hk
    exact⟨d,h1⟩
   unfold kU at hk;split at hk<;>first|exact⟨_,hk.2⟩|exact hk.elim
  .obtain⟨_,_,_,_,_,_,_,_,_,_,h1⟩:=kV hk
   exact⟨_,h1⟩
  exact hk.elim
 |convert s d x=>
  simp only[ho]at hk;split at hk
  .split at hk
   .obtain⟨_,_,hk⟩:=hk;first|exact⟨_,hk⟩|(simp only[ax]at hk;exact⟨_,hk⟩)|(simp only[ba]at hk;exact⟨_,hk⟩)
   exact hk.elim
  exact hk.elim
 |call c=>
  cases hc:c.callee with
  |builtin b=>
   simp only[ho,hc]at hk;split at hk
   .exact hk.elim
   cases b with
   |len=>
    simp only at hk;split at hk
    .split at hk
     .split at hk
      .first|exact⟨_,hk⟩|(simp only[ax]at hk;exact⟨_,hk⟩)|(simp only[ba]at hk;exact⟨_,hk⟩)
      .unfold DE at hk
       split at hk<;>first|exact hk.elim|first|exact⟨_,hk⟩|(simp only[ax]at hk;exact⟨_,hk⟩)|(simp only[ba]at hk;exact⟨_,hk⟩)|(simp only[ba]at hk;first|exact⟨_,hk⟩|(simp only[ax]at hk;exact⟨_,hk⟩)|(simp only[ba]at hk;exact⟨_,hk⟩))
      .split at hk
       .first|exact⟨_,hk⟩|(simp only[ax]at hk;exact⟨_,hk⟩)|(simp only[ba]at hk;exact⟨_,hk⟩)
       exact hk.elim
      exact hk.elim
     exact hk.elim
    exact hk.elim
   |min=>
    simp only[yS]at hk;split at hk
    .obtain⟨_,hk⟩:=ae hk;first|exact⟨_,hk⟩|(simp only[ax]at hk;exact⟨_,hk⟩)|(simp only[ba]at hk;exact⟨_,hk⟩)
    .obtain⟨_,hk⟩:=ae hk;first|exact⟨_,hk⟩|(simp only[ax]at hk;exact⟨_,hk⟩)|(simp only[ba]at hk;exact⟨_,hk⟩)
    exact hk.elim
   |max=>
    simp only[AR]at hk;split at hk
    .obtain⟨_,hk⟩:=ae hk;first|exact⟨_,hk⟩|(simp only[ax]at hk;exact⟨_,hk⟩)|(simp only[ba]at hk;exact⟨_,hk⟩)
    exact hk.elim
   |_=>(simp[iJ,ho,hc]at hv)
  |_=>(simp[iJ,ho,hc]at hv)
 |_=>(simp[iJ,ho]at hv)
omit [aM]in
theorem Kl{U:St}{o:Oper}{k:bE->Prop}(hv:iJ o=true)(hy:(∀b y,¬k (.yielded b y))/\∀b y nb,¬k (.fO b y nb))(QZ:∀d bs y,¬k (.dJ d bs y))(M4:∀b mk L,¬k (.eo b mk L))(hk:dC T C U o k):
    dC T C U o λe=>k e/\match e with|.val _=>True|_=>False:=by
  obtain⟨e,he,_,hw⟩:=F0 (vH hv) hy QZ M4 hk;obtain⟨d,hd⟩:=El hv (hw U ⟨λ_ _=>rfl,Bg.refl _⟩ (λe1=>e1=e) rfl);subst hd;exact hw U ⟨λ_ _=>rfl,Bg.refl _⟩ _ ⟨he,trivial⟩
omit [aM]in
theorem xW{ops:List Oper}{nb:Nat}{U:St}{j:Nat}:∀{l:List Nat},cI T C ops nb U l->j∈l->uY T C ops nb U j
 |[],_,h=>by cases h
 |x::r,hs,h=>by
  rcases List.mem_cons.1 h with rfl|h
  .exact hs.1
  exact xW hs.2 h
omit [aM]in
theorem BB.Km{ops:List Oper}{o:Oper}{U σ':St}(h:BB T C ops o U σ')(hv:iJ o=true):σ'.boxes.length=U.boxes.length:=by
 rcases h with⟨_,rfl⟩|⟨_,e,e',_,hp,hw,rfl⟩
 .rw[bX]
 obtain⟨d,hd⟩:=El hv (hw U ⟨λ_ _=>rfl,Bg.refl _⟩ (λe1=>e1=e) rfl);subst hd;unfold bJ;rw[bX];cases hp<;>rfl
omit [aM]in
theorem oL{o:Oper}:∀{l:List Nat}{j:Nat},j∈bN o l↔j∈l/\fm o j=false
 |[],_=>by simp[bN]
 |i::r,j=>by
  unfold bN;cases h:fm o i with
  |true=>
   simp only[List.mem_cons];rw[oL];constructor
   .rintro⟨h1,h2⟩;exact⟨.inr h1,h2⟩
   rintro⟨rfl|h1,h2⟩
   .rw[h]at h2;cases h2
   exact⟨h1,h2⟩
  |false=>
   simp only[List.mem_cons];rw[oL];constructor
   .rintro(rfl|⟨h1,h2⟩)
    .exact⟨.inl rfl,h⟩
    exact⟨.inr h1,h2⟩
   rintro⟨rfl|h1,h2⟩
   .exact .inl rfl
   exact .inr ⟨h1,h2⟩
omit [aM]in
theorem BM{o:Op}{mk:Nat->D}(h:jP o=some mk){a b:Nat}(e:mk a=mk b):a=b:=by
 cases o<;>simp only[jP]at h<;>try cases h
 all_goals first
  |(injection e)
  |(split at h
    .cases h
    cases h;injection e)
omit [aM]in
theorem Em{o:Oper}{mk:Nat->D}(h:jP o.op=some mk):dS o=true:=by
 unfold dS;cases ho:o.op<;>rw[ho]at h<;>first|rfl|cases h
omit [aM]in
theorem vO{U:St}{o:Oper}{k:bE->Prop}{mk:Nat->D}(h:jP o.op=some mk)(hk:dC T C U o k):
    ∃e,k e/\((∃b,e=.new b mk)\/∃b L,e=.eo b mk L)/\∀k':bE->Prop,k' e->dC T C U o k':=by
  unfold dC at hk⊢;cases ho:o.op with
  |alloc t=>
   simp only[ho]at hk⊢;rw[ho]at h;cases h;split at hk
   .rename_i ti YB
    exact⟨_,hk,.inl ⟨_,rfl⟩,λk' h'=>h'⟩
   exact hk.elim
  |box t x=>
   simp only[ho]at hk⊢;rw[ho]at h;cases h;split at hk
   .rename_i d hd
    split at hk
    .rename_i cs fS
     exact⟨_,hk,.inl ⟨_,rfl⟩,λk' h'=>by first|exact h'|(simp only[fS];exact h')⟩
    exact hk.elim
   exact hk.elim
  |buildSlice t len ps=>
   simp only[ho]at hk⊢;rw[ho]at h;simp only[jP]at h;cases hl:Nat.beq len 0 with
   |true=>rw[hl]at h;cases h
   |false=>
    rw[hl]at h;cases h;simp only[hl]at hk;split at hk
    .split at hk
     .split at hk
      .obtain⟨hs,hk⟩:=ae hk
       exact⟨_,hk,.inl ⟨_,rfl⟩,λk' h'=>bS hs h'⟩
      rename_i cb;obtain⟨l',JG,rows,zs,hk⟩:=hk;obtain⟨hs,hk⟩:=ae hk;exact⟨_,hk,.inr ⟨_,_,rfl⟩,λk' h'=>⟨l',JG,rows,zs,bS hs h'⟩⟩
     exact hk.elim
    exact hk.elim
  |_=>(rw[ho]at h;cases h)
omit [aM]in
theorem En{o:Oper}(h:iZ o.op=true):dS o=true:=by
 unfold dS;cases ho:o.op<;>rw[ho]at h<;>first|rfl|cases h
omit [aM]in
theorem HL{o:Oper}(h:iZ o.op=true):iJ o=false:=by
 unfold iJ;cases ho:o.op<;>rw[ho]at h<;>first|rfl|cases h
omit [aM]in
theorem BN{U:St}{o:Oper}{k:bE->Prop}(h:iZ o.op=true)(hk:dC T C U o k):
    ∃e,k e/\((∃b mk,e=.new b mk/\∀i,mk i=.ao)\/∃b mk L,e=.eo b mk L)/\∀k':bE->Prop,k' e->dC T C U o k':=by
  unfold dC at hk⊢;cases ho:o.op with
  |buildSlice t len ps=>
   simp only[ho]at hk⊢;rw[ho]at h;have hl:Nat.beq len 0=true:=h;split at hk
   .split at hk
    .split at hk
     .obtain⟨hs,hk⟩:=ae hk
      exact⟨_,hk,.inl ⟨_,_,rfl,λi=>by rw[hl]⟩,λk' h'=>bS hs h'⟩
     rename_i cb;obtain⟨l',JG,rows,zs,hk⟩:=hk;obtain⟨hs,hk⟩:=ae hk;exact⟨_,hk,.inr ⟨_,_,_,rfl⟩,λk' h'=>⟨l',JG,rows,zs,bS hs h'⟩⟩
    exact hk.elim
   exact hk.elim
  |_=>(rw[ho]at h;cases h)
omit [aM]in
theorem BB.F6{ops:List Oper}{o:Oper}{U σ':St}(h:BB T C ops o U σ')(hg:o.guard=none)(hv:xL o=true):σ'.boxes.length=U.boxes.length+1:=by
 rcases h with⟨hw,_⟩|⟨_,e,e',lR,th,F7,hσ⟩
 .exfalso
  unfold lQ at hw;rw[hg]at hw;cases hw
 have key:∃b mk,e=.new b mk:=by
   unfold xL at hv;cases BO:jP o.op with
   |some Q7=>
    obtain⟨e2,rfl,qO,_⟩:=vO BO (F7 U ⟨λ_ _=>rfl,Bg.refl _⟩ (λe1=>e1=e) rfl);rcases qO with⟨b1,rfl⟩|⟨b1,L1,rfl⟩
    .exact⟨_,_,rfl⟩
    exact absurd lR id
   |none=>
    rw[BO]at hv;obtain⟨e2,rfl,qO,_⟩:=BN hv (F7 U ⟨λ_ _=>rfl,Bg.refl _⟩ (λe1=>e1=e) rfl);rcases qO with⟨b1,NI,rfl,_⟩|⟨b1,NI,L1,rfl⟩
    .exact⟨_,_,rfl⟩
    exact absurd lR id
 obtain⟨b1,NI,rfl⟩:=key;have fL:e'=.new b1 NI:=by cases th;rfl
 subst fL;have h2:σ'.boxes=U.boxes++[b1]:=by rw[hσ];unfold bJ;rw[bX];rfl
 rw[h2];simp
omit [aM]in
theorem AO.cnt{σs:Nat->St}(hr:AO T C ops m σs)(hm:m<=ops.size):∀i,i<=m->(∀s os,s<i->ops[s]?=some os->yW os=true)->(σs i).boxes.length=(σs 0).boxes.length+xM ops.toList i
 |0,_,_=>rfl
 |i+1,hi,h=>by
  have ih:=AO.cnt hr hm i (by omega) λs os hs Jf=>h s os (by omega) Jf;have ho:ops[i]?=some ops[i]:=Array.getElem?_eq_getElem (by omega);have vN:=h i _ (by omega) ho;have cH:=hr.step i _ (by omega) ho;have cM:ops.toList.getD i default=ops[i]:=by
   have:ops.toList[i]?=some ops[i]:=by simp
   rw[List.getD_eq_getElem?_getD,this];rfl
  unfold yW at vN;rw[Bool.and_eq_true]at vN;have hg:ops[i].guard=none:=by
   have h1:=vN.1;revert h1;cases ops[i].guard with
   |none=>intro _;rfl
   |some x=>intro h1;cases h1
  simp only[xM,cM];cases hv:iJ ops[i]with
  |true=>rw[cH.Km hv,ih]
  |false=>
   have h2:=vN.2;rw[hv]at h2;rw[cH.F6 hg h2,ih];simp only;omega
omit [aM]in
theorem nQ{m:Nat}:∀{l:List Nat}{j:Nat},j∈na m l↔j∈l/\j<m
 |[],_=>by simp[na]
 |i::r,j=>by
  unfold na;cases h:Nat.blt i m with
  |true=>
   have:i<m:=Nat.blt_eq▸h;simp only[List.mem_cons];rw[nQ];constructor
   .rintro(rfl|⟨h1,h2⟩)
    .exact⟨.inl rfl,this⟩
    exact⟨.inr h1,h2⟩
   rintro⟨rfl|h1,h2⟩
   .exact .inl rfl
   exact .inr ⟨h1,h2⟩
  |false=>
   have:¬i<m:=λhh=>by
    have h2:Nat.blt i m=true:=by rw[Nat.blt_eq];exact hh
    rw[h2]at h;cases h
   simp only[List.mem_cons];rw[nQ];constructor
   .rintro⟨h1,h2⟩;exact⟨.inr h1,h2⟩
   rintro⟨rfl|h1,h2⟩
   .exact absurd h2 this
   exact⟨h1,h2⟩
def YJ(σs:Nat->St)(m:Nat)(listed:Array Bool)(β:BE)(t:Nat):Prop:=
 ∀b,(β b).isSome=true↔((b<(σs 0).boxes.length\/∃i,i<m/\listed.getD i true=true/\(σs i).boxes.length<=b/\b<(σs (i+1)).boxes.length)\/((σs m).boxes.length<=b/\b<t))
structure Q8(sh:er)(T:Nat->Option TI)(cx:Cx)(N:Nat)(ops:Array Oper)(m:Nat)(jn:List Nat)(σs:Nat->St)(listed:Array Bool)(a:Act)(w:World)(β:BE)(I:aW)(S:Nat->Prop)(k:Nat)(τ:St)(L:List Nat):Prop where
 sub:∀j,j∈L->j∈jn/\j<m+k
 l0:k=0->L=na m jn
 sz:listed.size=ops.size
 bnd:m+k<=ops.size
 tail:∀i,m<=i->i<ops.size->(listed.getD i true=true->i<m+k)/\(i<m+k->i∉L->listed.getD i true=true)
 down:∀(i:Nat)(o:Oper)(e:Edge),ops[i]?=some o->listed.getD i true=true->e∈o.after.toList->Region.binds .any e=true->listed.getD e.on false=true
 pre:k≠0->∀j,j<m->j∉L->listed.getD j true=true
 sim:bf cx (Vl ops (m+k) listed) τ β I S N a w
 bl:YJ σs m listed β τ.boxes.length
 len:(σs m).boxes.length<=τ.boxes.length
 slot:∀(j:Nat)(oj:Oper)(t:Nat),j<m->ops[j]?=some oj->oj.dst=some t->look τ.tmps t=look (σs m).tmps t
 st0:k=0->τ=σs m
 st:k≠0->cI T (CD P sh) ops.toList (σs 0).boxes.length τ L
theorem Kn(hT:br P T){F:Fence}(hF:FW F)(ak:cx.Ok)(hy:bB P cx){jn:List Nat}(hd:Kj ops m jn)(bZ:∀o∈ops.toList,∀t,o.dst=some t->t<N){n:Nat}{K:St->Prop}{Q:Exit->Act->World->Prop}
    (hQ:∀σ' a' w',K σ'->aac cx σ' N a' w'->Q .normal a' w'){σs:Nat->St}(hr:AO T (CD P sh) ops m σs):
    ∀(fuel:Nat)(listed:Array Bool)(a:Act)(w:World)(β:BE)(I:aW)(S:Nat->Prop)(k:Nat)(τ:St)(L:List Nat),Q8 (P:=P) sh T cx N ops m jn σs listed a w β I S k τ L->listed.toList.count false=fuel->
     cB T (CD P sh) ops.toList (σs 0).boxes.length jn (m+k) L (ops.toList.drop (m+k)) τ K->wpAnyIn F n P .any ops Q fuel listed a w:=by
  intro fuel
  induction fuel with
  |zero=>
   intro listed a w β I S k τ L h hc hk;obtain⟨fQ,T8,dQ,T9,jm,qL,NL,hs,hb,hlen,qo,Ko,cH⟩:=h;have cW:∀i,i<ops.size->listed.getD i true=true:=λi hi=>mi hc (by omega);have IG:m+k=ops.size:=by
    rcases Nat.lt_or_ge (m+k) ops.size with h|h
    .have:=(jm (m+k) (by omega) h).1 (cW _ h)
     omega
    omega
   have hle:=hd.le;have dW:aac cx τ N a w:=by
    refine⟨β,I,S,hs.move (λt _=>⟨λj o hj ho jT=>by(rw[cW j (by omega)]at jT;cases jT),rfl⟩) (Bg.refl _) rfl,λb mO=>(hb b).2 ?_⟩;rcases Nat.lt_or_ge b (σs m).boxes.length with oE|oE
    .rcases hr.made hd.le b m (Nat.le_refl _) oE with h|⟨i,h1,h2⟩
     .exact .inl (.inl h)
     exact .inl (.inr ⟨i,h1,cW i (by omega),h2⟩)
    exact .inr ⟨oE,mO⟩
   rw[show ops.toList.drop (m+k)=[]by rw[IG];simp]at hk;refine wpAnyIn_done ?_ (hQ _ _ _ hk dW) 0;cases Dw:Region.ready .any ops listed with
   |nil=>rfl
   |cons x xs=>
    obtain⟨h0,o,ho,_⟩:=mem_ready.1 (show x∈Region.ready .any ops listed by rw[Dw];simp);rw[cW x (Array.getElem?_eq_some_iff.1 ho).1]at h0;cases h0
  |succ fuel ih=>
   intro listed a w β I S;have main:∀(k:Nat)(τ:St)(L:List Nat),(m+k<ops.size->jn.contains (m+k)=false)->Q8 (P:=P) sh T cx N ops m jn σs listed a w β I S k τ L->listed.toList.count false=fuel+1->
       cB T (CD P sh) ops.toList (σs 0).boxes.length jn (m+k) L (ops.toList.drop (m+k)) τ K->wpAnyIn F n P .any ops Q (fuel+1) listed a w:=by
     intro k τ L M4 h hc hk;obtain⟨fQ,T8,dQ,T9,jm,qL,NL,hs,hb,hlen,qo,Ko,cH⟩:=h;refine⟨λDw=>?_,λi hi=>?_⟩
     .exfalso
      have:∃i,i<ops.size/\listed.getD i true=false:=by
       have dw:0<listed.toList.count false:=by omega
       have eX:=List.count_pos_iff.1 dw;obtain⟨i,hi,hv⟩:=List.getElem_of_mem eX;have bC:i<listed.size:=by simpa using hi
       exact⟨i,by omega,by simpa[bC]using hv⟩
      obtain⟨i,hi⟩:=this;obtain⟨j,⟨hj,jT⟩,Q5⟩:=gZ (p:=λi=>i<ops.size/\listed.getD i true=false) i hi;have:j∈Region.ready .any ops listed:=mem_ready.2 ⟨jT,ops[j],Array.getElem?_eq_getElem hj,λe he hb=>by
       have h1:=hd.p2 j _ e (Array.getElem?_eq_getElem hj) (by simpa using he) hb;exact p3 (by omega) (BG λh=>Q5 e.on h1 ⟨by omega,h⟩)⟩
      rw[Dw]at this;cases this
     obtain⟨jT,o,ho,cW⟩:=mem_ready.1 hi;have dv:=(Array.getElem?_eq_some_iff.1 ho).1;have Q9:ops.toList[i]?=some o:=by simpa using ho
     have fS:=count_set (l:=listed) (i:=i) (by omega) jT;have mj:∀(j:Nat)(oj:Oper)(e:Edge),ops[j]?=some oj->(listed.setIfInBounds i true).getD j true=true->e∈oj.after.toList->Region.binds .any e=true->(listed.setIfInBounds i true).getD e.on false=true:=λj oj e gF hj he ug=>getD_set_true (by
      by_cases ie:j=i
      .subst ie
       rw[ho]at gF;cases gF;exact cW e (by simpa using he) ug
      rw[getD_set_ne true (Ne.symm ie)]at hj;exact qL j oj e gF hj he ug)
     have kA:∀j,gA ops o j->listed.getD j true=true:=λj hj=>
      hj.listed (L:=λk=>listed.getD k true=true) (λk ok e' du hk fL eW=>dq (qL k ok e' du hk fL eW)) λe he hb=>dq (cW e (by simpa using he) hb)
     have dE:∀j,(listed.setIfInBounds i true).getD j true=true↔(j=i\/listed.getD j true=true):=by
      intro j;by_cases ie:j=i
      .subst ie;simp[show j<listed.size by omega]
      rw[getD_set_ne true (Ne.symm ie)];simp[ie]
     have nP:∀t,Vl ops (m+k) (listed.setIfInBounds i true) t->o.dst=some t\/Vl ops (m+k) listed t:=by
      intro t ht;by_cases nf:o.dst=some t
      .exact .inl nf
      refine .inr λj oj hj gF kQ=>?_;by_cases ie:j=i
      .subst ie;rw[ho]at gF;cases gF;exact nf
      exact ht j oj hj gF (by rw[getD_set_ne true (Ne.symm ie)];exact kQ)
     have zu:((σs (i+1)).boxes.length=(σs i).boxes.length\/m<=i)->∀(t':Nat)(β':BE),τ.boxes.length<=t'->(∀b,(β' b).isSome=true↔((β b).isSome=true\/(τ.boxes.length<=b/\b<t')))->YJ σs m (listed.setIfInBounds i true) β' t':=by
      intro heq t' β' ht' he b;rw[he,hb b];constructor
      .rintro(((h|⟨j,h1,h2,h3⟩)|h)|h)
       .exact .inl (.inl h)
       .exact .inl (.inr ⟨j,h1,(dE j).2 (.inr h2),h3⟩)
       .exact .inr ⟨h.1,by omega⟩
       exact .inr ⟨by omega,h.2⟩
      rintro((h|⟨j,h1,h2,h3,h4⟩)|h)
      .exact .inl (.inl (.inl h))
      .rcases(dE j).1 h2 with rfl|h2
       .rcases heq with h|h<;>omega
       exact .inl (.inl (.inr ⟨j,h1,h2,h3,h4⟩))
      by_cases N0:b<τ.boxes.length
      .exact .inl (.inr ⟨h.1,N0⟩)
      exact .inr ⟨by omega,h.2⟩
     have PB:((σs (i+1)).boxes.length=(σs i).boxes.length\/m<=i)->∀β':BE,(∀b,(β' b).isSome=(β b).isSome)->YJ σs m (listed.setIfInBounds i true) β' τ.boxes.length:=λheq β' he=>
      zu heq _ β' (Nat.le_refl _) λb=>by rw[he];exact⟨.inl,λh=>h.elim id λh=>by omega⟩
     have Eg:=bZ o (List.mem_of_getElem? Q9);have BP:k≠0->i<m+k->i∈L->wpOpIn F n P ops Q i (λa' w'=>wpAnyIn F n P .any ops Q fuel (listed.setIfInBounds i true) a' w') a w:=by
      intro qn HM hl;obtain⟨hg,xn,xc⟩:=hd.late i (fQ i hl).1 o ho;have oM:=xW (cH qn) hl;have Ve:ops.toList.getD i default=o:=by rw[List.getD_eq_getElem?_getD,Q9];rfl
      unfold uY at oM;rw[Ve]at oM;have jB:∀j,m<=j->j<ops.size->((listed.setIfInBounds i true).getD j true=true->j<m+k)/\(j<m+k->j∉L->(listed.setIfInBounds i true).getD j true=true):=λj h1 h2=>by
       refine⟨λh=>?_,λh3 h4=>(dE j).2 (.inr ((jm j h1 h2).2 h3 h4))⟩;rcases(dE j).1 h with rfl|h
       .exact HM
       exact(jm j h1 h2).1 h
      have py:k≠0->∀j,j<m->j∉L->(listed.setIfInBounds i true).getD j true=true:=λh j hj ng=>(dE j).2 (.inr (NL h j hj ng));have PC:∀t,Operand.tmp t∈o.op.operands.toList->Vl ops (m+k) listed t:=by
       intro t ht j oj hj gF kQ qM;rcases Nat.lt_or_ge j m with Q6|Q6
       .rcases Nat.lt_or_ge i m with jA|jA
        .have:=kA j (.p2 ((hd.apart i j o oj t jA Q6 ho gF qM).1 ht).2)
         rw[this]at kQ;cases kQ
        have:=kA j ((hd.reads i o j oj t jA ho (by omega) (.inl Q6) gF qM).1 ht);rw[this]at kQ;cases kQ
       have Jg:j∈L:=Classical.byContradiction λh=>by
         have:=(jm j Q6 (Array.getElem?_eq_some_iff.1 gF).1).2 hj h;rw[this]at kQ;cases kQ
       rcases Nat.lt_or_ge j i with ie|ie
       .have:=kA j ((hd.reads i o j oj t (by omega) ho ie (.inr (fQ j Jg).1) gF qM).1 ht)
        rw[this]at kQ;cases kQ
       exact((hd.late j (fQ j Jg).1 oj gF).2.2 Q6).2.2 i (fQ i hl).1 ie o ho t qM ht
      unfold wpOpIn;simp only[ho];rw[if_pos (show Region.wanted o (yielded ops a.tmps)=true by unfold Region.wanted;rw[hg])];have mN:∀{j k},j<=k->k<=m->(σs j).boxes.length<=(σs k).boxes.length:=λ{j k} h1 h2=>by
       have:=hr.len hd.le (k-j) j (by omega)
       rwa[show j+(k-j)=k by omega]at this
      cases Kk:iZ o.op with
      |true=>
       rw[Kk]at oM;have jA:i<m:=by
        rcases Nat.lt_or_ge i m with h|h
        .exact h
        have:=(xc h).2.1;rw[HL Kk]at this;cases this
       obtain⟨e0,xX,Eo,Ke⟩:=BN Kk oM;rcases Eo with⟨b0,Q7,rfl,Vf⟩|⟨b0,Q7,L0,rfl⟩
       rotate_left
       .exfalso
        revert xX;cases o.dst<;>exact id
       obtain⟨t,nf⟩:∃t,o.dst=some t:=by
        cases s5:o.dst with
        |none=>rw[s5]at xX;exact xX.elim
        |some t=>exact⟨t,rfl⟩
       rw[nf]at xX;obtain⟨AN,fp⟩:=xX;have aae:=hr.cnt hd.le i (by omega) ((xn jA).2 Kk);rw[<-aae]at fp;have Vg:(σs (i+1)).boxes.length=(σs i).boxes.length+1:=(hr.step i o jA ho).F6 hg (by unfold xL;cases jP o.op<;>first|rfl|exact Kk)
       obtain⟨n0,hn⟩:∃n0,n0=(σs i).boxes.length:=⟨_,rfl⟩;rw[<-hn]at fp;have vM:β n0=none:=by
        cases hβ:β n0 with
        |none=>rfl
        |some c=>
         exfalso;rcases(hb _).1 (by rw[hβ];rfl)with(h|⟨j,h1,h2,h3,h4⟩)|h5
         .have:=mN (j:=0) (k:=i) (by omega) (by omega);omega
         .rcases Nat.lt_trichotomy j i with h|rfl|h
          .have:=mN (j:=j+1) (k:=i) (by omega) (by omega);omega
          .rw[h2]at jT;cases jT
          have:=mN (j:=i+1) (k:=j) (by omega) (by omega);omega
         have:=mN (j:=i+1) (k:=m) (by omega) (by omega);omega
       refine oJ hT hF ak hs PC (.inl (En Kk)) (Ke (λe1=>e1=.new b0 Q7) rfl) (.inl ⟨λb y hh=>(by cases hh),λb y nb hh=>(by cases hh)⟩) (.inl λd bs y hh=>(by cases hh)) ?_ ?_ ?_ ?_
       .intro d v jY;cases jY
       .intro b mk v w' bi jY HB cL Kq cV ph aq
        cases jY;obtain⟨bq,HJ⟩:=hs.Hr ak cL Kq (bs:=τ.boxes) (n:=n0) vM fp (λ_ _=>rfl) HB cV;refine ih _ _ w' _ I S k τ L ⟨fQ,T8,by simpa using dQ,T9,jB,mj,py,bq.fill Eg nP λt' d' Kr Dx=>?_,?_,hlen,qo,Ko,cH⟩ (by omega) hk
        .rw[nf]at Kr
         cases Kr;have Dx:look τ.tmps t=some d':=Dx;rw[AN]at Dx;cases Dx;rw[Vf 0,<-Vf n0];exact aq _ _ (by simp)
        intro b';by_cases bF:b'=n0
        .subst bF
         simp only[if_true,Option.isSome_some,true_iff];exact .inl (.inr ⟨i,jA,(dE i).2 (.inl rfl),by omega,by omega⟩)
        simp only[if_neg bF];rw[hb b'];constructor
        .rintro((h|⟨j,h1,h2,h3⟩)|h)
         .exact .inl (.inl h)
         .exact .inl (.inr ⟨j,h1,(dE j).2 (.inr h2),h3⟩)
         exact .inr h
        rintro((h|⟨j,h1,h2,h3,h4⟩)|h)
        .exact .inl (.inl h)
        .rcases(dE j).1 h2 with rfl|h2
         .omega
         exact .inl (.inr ⟨j,h1,h2,h3,h4⟩)
        exact .inr h
       .intro b mk L v w' bi I' jY;cases jY
       intro d as v w' I' jY;cases jY
      |false=>
      rw[Kk]at oM;have Ks:still T (CD P sh) τ o:=oM;have value:iJ o=true->o.wpIn F n P a w (λa' w'=>wpAnyIn F n P .any ops Q fuel (listed.setIfInBounds i true) a' w') Q:=by
       intro hv;have YK:YJ σs m (listed.setIfInBounds i true) β τ.boxes.length:=by
        refine PB ?_ β λ_=>rfl;rcases Nat.lt_or_ge i m with jA|jA
        .exact .inl ((hr.step i o jA ho).Km hv)
        exact .inr jA
       refine oJ hT hF ak hs PC (.inl (vH hv)) (Kl hv ⟨λb y hh=>by revert hh;cases o.dst<;>exact id,λb y nb hh=>by revert hh;cases o.dst<;>exact id⟩ (λd bs y hh=>by revert hh;cases o.dst<;>exact id) (λb mk L hh=>by revert hh;cases o.dst<;>exact id) Ks) (.inl ⟨λb y hh=>hh.2,λb y nb hh=>hh.2⟩) (.inl λd bs y hh=>hh.2) ?_ ?_ ?_ ?_
       .intro d v jY aq
        have jY:=jY.1;refine ih _ _ w β I S k τ L ⟨fQ,T8,by simpa using dQ,T9,jB,mj,py,hs.fill Eg nP λt d' nf Dx=>?_,YK,hlen,qo,Ko,cH⟩ (by omega) hk;rw[nf]at jY;have jY:look τ.tmps t=some d:=jY;rw[Dx]at jY;cases jY;exact aq
       .intro b mk v w' bi jY;exact jY.2.elim
       .intro b mk L v w' bi I' jY;exact jY.2.elim
       intro d as v w' I' jY;exact jY.2.elim
      rcases Nat.lt_or_ge i m with jA|jA
      rotate_left
      .exact value (xc jA).2.1
      have hv:=(xn jA).1;unfold DI at hv;cases Ua:iJ o with
      |true=>exact value Ua
      |false=>
       rw[Ua]at hv;unfold xL at hv;cases BO:jP o.op with
       |none=>rw[BO]at hv;rw[Kk]at hv;cases hv
       |some Q7=>
        obtain⟨e0,xX,Eo,Ke⟩:=vO BO Ks;rcases Eo with⟨b0,rfl⟩|⟨b0,L0,rfl⟩
        rotate_left
        .exfalso
         revert xX;cases o.dst<;>exact id
        obtain⟨t,nf⟩:∃t,o.dst=some t:=by
         cases s5:o.dst with
         |none=>rw[s5]at xX;exact xX.elim
         |some t=>exact⟨t,rfl⟩
        rw[nf]at xX;obtain⟨n0,AN,fp⟩:=xX;have hn:n0=(σs i).boxes.length/\(σs (i+1)).boxes.length=(σs i).boxes.length+1:=by
         have aaf:=qo i o t jA ho nf;have F2:look (σs m).tmps t=look (σs (i+1)).tmps t:=by
          have:=hr.look hd.le (t:=t) (m-(i+1)) (i+1) (by omega) (λj oj h1 h2 gF qM=>by
           rcases(hd.apart j i oj o t (by omega) jA gF ho nf).2 with h|h
           .omega
           exact h qM)
          rwa[show i+1+(m-(i+1))=m by omega]at this
         rcases hr.step i o jA ho with⟨hw,_⟩|⟨_,e,e',lR,th,F7,hσ⟩
         .exfalso
          unfold lQ at hw;rw[hg]at hw;cases hw
         obtain⟨e2,rfl,qO,_⟩:=vO BO (F7 (σs i) ⟨λ_ _=>rfl,Bg.refl _⟩ (λe1=>e1=e) rfl);rcases qO with⟨b1,rfl⟩|⟨b1,L1,rfl⟩
         rotate_left
         .exact absurd lR id
         have fL:e'=.new b1 Q7:=by cases th;rfl
         subst fL;have h1:look (σs (i+1)).tmps t=some (Q7 (σs i).boxes.length):=by
          rw[hσ,nf];unfold bJ;rw[lE];rfl
         have h2:(σs (i+1)).boxes=(σs i).boxes++[b1]:=by rw[hσ];unfold bJ;rw[bX];rfl
         refine⟨BM BO ?_,by rw[h2];simp⟩;rw[aaf,F2,h1]at AN;exact(Option.some.inj AN).symm
        obtain⟨hn,Vg⟩:=hn;have vM:β n0=none:=by
         cases hβ:β n0 with
         |none=>rfl
         |some c=>
          exfalso;rcases(hb _).1 (by rw[hβ];rfl)with(h|⟨j,h1,h2,h3,h4⟩)|h5
          .have:=mN (j:=0) (k:=i) (by omega) (by omega);omega
          .rcases Nat.lt_trichotomy j i with h|rfl|h
           .have:=mN (j:=j+1) (k:=i) (by omega) (by omega);omega
           .rw[h2]at jT;cases jT
           have:=mN (j:=i+1) (k:=j) (by omega) (by omega);omega
          have:=mN (j:=i+1) (k:=m) (by omega) (by omega);omega
        refine oJ hT hF ak hs PC (.inl (Em BO)) (Ke (λe1=>e1=.new b0 Q7) rfl) (.inl ⟨λb y hh=>(by cases hh),λb y nb hh=>(by cases hh)⟩) (.inl λd bs y hh=>(by cases hh)) ?_ ?_ ?_ ?_
        .intro d v jY;cases jY
        .intro b mk v w' bi jY HB cL Kq cV ph aq
         cases jY;obtain⟨bq,HJ⟩:=hs.Hr ak cL Kq (bs:=τ.boxes) (n:=n0) vM fp (λ_ _=>rfl) HB cV;refine ih _ _ w' _ I S k τ L ⟨fQ,T8,by simpa using dQ,T9,jB,mj,py,bq.fill Eg nP λt' d' Kr Dx=>?_,?_,hlen,qo,Ko,cH⟩ (by omega) hk
         .rw[nf]at Kr
          cases Kr;have Dx:look τ.tmps t=some d':=Dx;rw[AN]at Dx;cases Dx;exact aq _ _ (by simp)
         intro b';by_cases bF:b'=n0
         .subst bF
          simp only[if_true,Option.isSome_some,true_iff];exact .inl (.inr ⟨i,jA,(dE i).2 (.inl rfl),by omega,by omega⟩)
         simp only[if_neg bF];rw[hb b'];constructor
         .rintro((h|⟨j,h1,h2,h3⟩)|h)
          .exact .inl (.inl h)
          .exact .inl (.inr ⟨j,h1,(dE j).2 (.inr h2),h3⟩)
          exact .inr h
         rintro((h|⟨j,h1,h2,h3,h4⟩)|h)
         .exact .inl (.inl h)
         .rcases(dE j).1 h2 with rfl|h2
          .omega
          exact .inl (.inr ⟨j,h1,h2,h3,h4⟩)
         exact .inr h
        .intro b mk L v w' bi I' jY;cases jY
        intro d as v w' I' jY;cases jY
     rcases Nat.lt_or_ge i m with jA|jA
     .rcases Nat.eq_zero_or_pos k with rfl|abF
      .obtain rfl:=Ko rfl
       have jB:∀j,m<=j->j<ops.size->((listed.setIfInBounds i true).getD j true=true->j<m+0)/\(j<m+0->j∉L->(listed.setIfInBounds i true).getD j true=true):=λj h1 h2=>by
        refine⟨λh=>?_,λh3=>by omega⟩;rcases(dE j).1 h with rfl|h
        .omega
        exact(jm j h1 h2).1 h
       refine xV hT hF ak hd.toDrawB hr bZ dQ hs (λb=>(hb b).trans ⟨λh=>h.elim id λh=>by omega,.inl⟩) jA hi λβ' I' a' w' fu eW=>?_;exact ih _ a' w' β' I' S 0 _ L ⟨fQ,T8,by simpa using dQ,T9,jB,mj,λh=>absurd rfl h,fu,λb=>(eW b).trans ⟨.inl,λh=>h.elim id λh=>by omega⟩,Nat.le_refl _,λ_ _ _ _ _ _=>rfl,λ_=>rfl,λh=>absurd rfl h⟩ (by omega) hk
      have qn:k≠0:=by omega
      exact BP qn (by omega) (Classical.byContradiction λh=>by
       have:=NL qn i jA h;rw[this]at jT;cases jT)
     rcases Nat.lt_or_ge i (m+k)with HM|HM
     · exact BP (by omega) HM (Classical.byContradiction λh=>by
         have:=(jm i jA dv).2 HM h;rw[this]at jT;cases jT)
     ·
      have HM:i=m+k:=by
       rcases Nat.lt_or_ge (m+k) i with h|h
       .exfalso
        rcases hd.tail i o (m+k) jA ho h with h2|h2
        .have h3:=M4 (by omega)
         rw[List.contains_iff_mem.2 h2]at h3;cases h3
        have h3:=kA _ h2;have:=(jm (m+k) (by omega) (by omega)).1 h3;omega
       omega
      subst HM;obtain⟨hg,Vj,hng⟩:=hd.plain _ o jA ho;have ea:ops.toList.drop (m+k)=o::ops.toList.drop (m+(k+1)):=by
       have cG:m+k<ops.toList.length:=by simpa using dv
       rw[List.drop_eq_getElem_cons cG];have:ops.toList[m+k]=o:=by rw[List.getElem?_eq_getElem cG]at Q9;exact Option.some.inj Q9
       rw[this];rfl
      rw[ea]at hk;have aag:m+k∉L:=λh=>by have:=(fQ _ h).2;omega
      have BQ:∀j,j∈bN o L->j∈jn/\j<m+(k+1):=λj hj=>by
       have:=fQ j (oL.1 hj).1;exact⟨this.1,by omega⟩
      have PD:∀j,j∈L->j∉bN o L->listed.getD j true=true:=λj Jg ng=>
       kA j (.p2 (c8 (Classical.byContradiction λeh=>ng (oL.2 ⟨Jg,by simpa using eh⟩))))
      have jB:∀j,m<=j->j<ops.size->((listed.setIfInBounds (m+k) true).getD j true=true->j<m+(k+1))/\(j<m+(k+1)->j∉bN o L->(listed.setIfInBounds (m+k) true).getD j true=true):=λj h1 h2=>by
       refine⟨λh=>?_,λh3 h4=>?_⟩
       .rcases(dE j).1 h with rfl|h
        .omega
        have:=(jm j h1 h2).1 h;omega
       by_cases hj:j=m+k
       .exact(dE j).2 (.inl hj)
       refine(dE j).2 (.inr ?_);by_cases Jg:j∈L
       .exact PD j Jg h4
       exact(jm j h1 h2).2 (by omega) Jg
      have py:∀j,j<m->j∉bN o L->(listed.setIfInBounds (m+k) true).getD j true=true:=λj hj ng=>(dE j).2 (.inr (by
       by_cases Jg:j∈L
       .exact PD j Jg ng
       rcases Nat.eq_zero_or_pos k with h0|h0
       .rw[T8 h0]at Jg
        rcases hd.tail _ o j jA ho (by omega)with h|h
        .exact absurd (nQ.2 ⟨h,hj⟩) Jg
        exact kA j h
       exact NL (by omega) j hj Jg))
      have Vk:∀t,Vl ops (m+(k+1)) (listed.setIfInBounds (m+k) true) t->Vl ops (m+k) listed t:=λt ht j oj hj gF kQ=>ht j oj (by omega) gF (by rw[getD_set_ne true (by omega)];exact kQ);have PC:∀t,Operand.tmp t∈o.op.operands.toList->Vl ops (m+k) listed t:=λt ht j oj hj gF kQ qM=>by
       have ng:j<m\/j∈jn:=by
        rcases Nat.lt_or_ge j m with h|h
        .exact .inl h
        refine .inr (fQ j (Classical.byContradiction λtY=>?_)).1;have:=(jm j h (Array.getElem?_eq_some_iff.1 gF).1).2 hj tY;rw[this]at kQ;cases kQ
       have:=kA j ((hd.reads _ o j oj t jA ho hj ng gF qM).1 ht);rw[this]at kQ;cases kQ
      have Kt:∀(d:D)(σ1:St),σ1.tmps=τ.tmps->∀(j:Nat)(oj:Oper)(t:Nat),j<m->ops[j]?=some oj->oj.dst=some t->look (σ1.put o.dst d).tmps t=look (σs m).tmps t:=λd σ1 h1 j oj t hj gF qM=>by
       rw[nO (hd.reads _ o j oj t jA ho (by omega) (.inl hj) gF qM).2,h1];exact qo j oj t hj gF qM
      unfold wpOpIn;simp only[ho];rw[if_pos (show Region.wanted o (yielded ops a.tmps)=true by unfold Region.wanted;rw[hg])];have hB0:=PB (.inr jA);by_cases nK:m+(k+1)=ops.size/\bN o L=[]
      .obtain⟨Ku,OJ⟩:=nK
       have cW:∀j,j<ops.size->j≠m+k->listed.getD j true=true:=λj hj eh=>by
        rcases Nat.lt_or_ge j m with h|h
        .exact((dE j).1 (py j h (by rw[OJ];simp))).resolve_left eh
        exact((dE j).1 ((jB j h hj).2 (by omega) (by rw[OJ];simp))).resolve_left eh
       have dW:aac cx τ N a w:=by
        refine⟨β,I,S,hs.move (λt _=>⟨λj oj hj gF jT=>by(rw[cW j (by omega) (by omega)]at jT;cases jT),rfl⟩) (Bg.refl _) rfl,λb mO=>(hb b).2 ?_⟩;rcases Nat.lt_or_ge b (σs m).boxes.length with oE|oE
        .rcases hr.made hd.le b m (Nat.le_refl _) oE with h|⟨i,h1,h2⟩
         .exact .inl (.inl h)
         exact .inl (.inr ⟨i,h1,cW i (by omega) (by omega),h2⟩)
        exact .inr ⟨oE,mO⟩
       have mP:∀a' w' σ',K σ'->aac cx σ' N a' w'->wpAnyIn F n P .any ops Q fuel (listed.setIfInBounds (m+k) true) a' w':=λa' w' σ' h1 h2=>by
        refine wpAnyIn_done ?_ (hQ _ _ _ h1 h2) _;cases Dw:Region.ready .any ops (listed.setIfInBounds (m+k) true)with
        |nil=>rfl
        |cons x xs=>
         obtain⟨h0,o,ho,_⟩:=mem_ready.1 (show x∈Region.ready .any ops (listed.setIfInBounds (m+k) true)by rw[Dw];simp);have hx:=(Array.getElem?_eq_some_iff.1 ho).1;have:(listed.setIfInBounds (m+k) true).getD x true=true:=(dE x).2 (by
          by_cases hxm:x=m+k
          .exact .inl hxm
          exact .inr (cW x hx hxm))
         rw[this]at h0;cases h0
       rw[show ops.toList.drop (m+(k+1))=[]by rw[Ku];simp]at hk;have Qq:=M4 dv;simp only[cB,Qq,kY,OJ,xO]at hk;refine By hT hF ak hy dW Eg hk (λb y nb h=>h.elim) λe a' w' he oZ=>?_;cases e with
       |val d=>exact mP _ _ _ he.2 oZ
       |set j b d=>exact mP _ _ _ he.2 oZ
       |res d as=>exact mP _ _ _ he.2 oZ
       |new b mk=>exact mP _ _ _ he.2 oZ
       |eo b mk L=>exact mP _ _ _ he.2 oZ
       |dJ d bs y=>exact mP _ _ _ he oZ
       |_=>exact he.elim
      have aah:∀p,xO (ops.toList.drop (m+(k+1))) (bN o L) p=False:=λp=>by
       unfold xO;split
       .rename_i h1 h2
        refine absurd ⟨?_,h2⟩ nK;have:=congrArg List.length h1;simp at this;omega
       rfl
      have next:∀(e:bE)(v:Value)(w':World),G4 τ e=τ.tmps->cI T (CD P sh) ops.toList (σs 0).boxes.length (bJ τ o.dst e) (bN o L)->cB T (CD P sh) ops.toList (σs 0).boxes.length jn (m+(k+1)) (bN o L) (ops.toList.drop (m+(k+1))) (bJ τ o.dst e) K->
          bf cx (Vl ops (m+k) listed) (bJ τ o.dst e) β I S N (a.put o.dst v) w'->
          (bJ τ o.dst e).boxes.length=τ.boxes.length->wpAnyIn F n P .any ops Q fuel (listed.setIfInBounds (m+k) true) (a.put o.dst v) w':=λe v w' h0 h1 h2 h3 h4=>
        ih _ _ w' β I S (k+1) _ (bN o L) ⟨BQ,λh=>by omega,by simpa using dQ,by omega,jB,mj,λ_=>py,h3.move (λt ht=>⟨Vk t ht,rfl⟩) (Bg.refl _) rfl,by rw[h4];exact hB0 β (λ_=>rfl),by rw[h4];exact hlen,Kt _ ⟨G4 τ e,cD τ e,Jl τ e⟩ h0,λh=>by omega,λ_=>h1⟩ (by omega) h2
      have Qq:=M4 dv;simp only[cB,Qq,kY,aah]at hk;by_cases hm:dS o=true
      .refine oJ hT hF ak hs PC (.inl hm) hk (.inl ⟨λb y hh=>hh,λb y nb hh=>hh⟩) (.inl λd bs y hh=>hh) ?_ ?_ ?_ ?_
       .intro d v jY aq
        exact next (.val d) v w rfl jY.1 jY.2 (hs.put Eg λ_=>aq) (by unfold bJ;rw[bX];rfl)
       .intro b mk v w' bi jY HB cL Kq cV aai aq
        obtain⟨bq,HJ⟩:=hs.Hr ak cL Kq (bs:=τ.boxes++[b]) (n:=τ.boxes.length) (b:=b) (bi:=bi) hs.fresh (by simp) (λi hi=>List.getElem?_append_left (hs.last i hi)) HB cV;have Ep:bf cx (Vl ops (m+k) listed) (bJ τ o.dst (.new b mk)) (λi=>if i=τ.boxes.length then some bi else β i) I S N (a.put o.dst v) w':=bq.put Eg λ_=>aq _ τ.boxes.length (by simp);have nR:(bJ τ o.dst (.new b mk)).boxes.length=τ.boxes.length+1:=by unfold bJ;rw[bX];simp[cD]
        refine ih _ _ w' _ I S (k+1) _ (bN o L) ⟨BQ,λh=>by omega,by simpa using dQ,by omega,jB,mj,λ_=>py,Ep.move (λt ht=>⟨Vk t ht,rfl⟩) (Bg.refl _) rfl,?_,by rw[nR];omega,Kt _ ⟨τ.tmps,τ.boxes++[b],τ.y⟩ rfl,λh=>by omega,λ_=>jY.1⟩ (by omega) jY.2;rw[nR];refine zu (.inr jA) _ _ (by omega) λb'=>?_;by_cases eW:b'=τ.boxes.length
        .subst eW
         simp
        simp only[if_neg eW];exact⟨.inl,λh=>h.elim id λh=>by omega⟩
       .intro b mk L' v w' bi I' jY HB cL hg gT cV aai aq
        have ph:bf cx (Vl ops (m+k) listed) ⟨τ.tmps,au τ.boxes 0 L',τ.y⟩ β I S N a w:=by
         refine hs.freeze (λi box hb=>?_) (aO _ _ _);rw[ck _ _ _ _ _ hb];split
         .exact .inr rfl
         exact .inl rfl
        obtain⟨Ds,bq,HJ,jj⟩:=ph.eo ak cL hg gT (jz τ.boxes L') (bs:=au τ.boxes 0 L'++[b]) (n:=τ.boxes.length) (b:=b) (bi:=bi) hs.fresh (by rw[<-aO τ.boxes 0 L'];simp) (λi hi=>List.getElem?_append_left (by rw[aO];exact hs.last i hi))
         HB cV (aq _ τ.boxes.length (by simp))
        have Ep:bf cx (Vl ops (m+k) listed) (bJ τ o.dst (.eo b mk L')) (λi=>if i=τ.boxes.length then some bi else β i) Ds S N (a.put o.dst v) w':=bq.put Eg λ_=>jj;have nR:(bJ τ o.dst (.eo b mk L')).boxes.length=τ.boxes.length+1:=by unfold bJ;rw[bX];simp[cD,aO]
        refine ih _ _ w' _ Ds S (k+1) _ (bN o L) ⟨BQ,λh=>by omega,by simpa using dQ,by omega,jB,mj,λ_=>py,Ep.move (λt ht=>⟨Vk t ht,rfl⟩) (Bg.refl _) rfl,?_,by rw[nR];omega,Kt _ ⟨τ.tmps,au τ.boxes 0 L'++[b],τ.y⟩ rfl,λh=>by omega,λ_=>jY.1⟩ (by omega) jY.2;rw[nR];refine zu (.inr jA) _ _ (by omega) λb'=>?_;by_cases eW:b'=τ.boxes.length
        .subst eW
         simp
        simp only[if_neg eW];exact⟨.inl,λh=>h.elim id λh=>by omega⟩
       intro d as v w' I' jY cL hg gT Hu;have ph:bf cx (Vl ops (m+k) listed) ⟨τ.tmps,aK τ.boxes d as,τ.y⟩ β I S N a w:=by
        refine hs.freeze (λi box hb=>?_) ?_
        .unfold aK
         split
         .exact .inl hb
         rw[ck _ _ _ _ _ hb];split
         .exact .inr rfl
         exact .inl rfl
        unfold aK;split
        .rfl
        exact aO _ _ _
       obtain⟨Ds,bq,aq,_⟩:=ph.res ak cL hg gT Hu (by
        by_cases hp:plain d=true
        .exact .inl hp
        refine .inr λi box hi hb=>?_;have hb:(aK τ.boxes d as)[i]?=some box:=hb;unfold aK at hb;split at hb
        .rename_i HC;exact absurd HC hp
        have qp:i<τ.boxes.length:=by
          have:=(List.getElem?_eq_some_iff.1 hb).1
          rwa[aO]at this
        rw[ck _ _ _ _ _ (List.getElem?_eq_getElem qp)]at hb;have:(as.flatMap (aF τ.boxes Go.V.fuel)).contains (0+i)=true:=by
         rw[Nat.zero_add];simpa using hi
        rw[this]at hb;cases hb;exact af.lO _)
       have nR:(bJ τ o.dst (.res d as)).boxes.length=τ.boxes.length:=by unfold bJ;rw[bX];exact iw _ _ _
       have Ep:bf cx (Vl ops (m+k) listed) (bJ τ o.dst (.res d as)) β Ds S N (a.put o.dst v) w':=bq.put Eg λ_=>aq;exact ih _ _ w' β Ds S (k+1) _ (bN o L) ⟨BQ,λh=>by omega,by simpa using dQ,by omega,jB,mj,λ_=>py,Ep.move (λt ht=>⟨Vk t ht,rfl⟩) (Bg.refl _) rfl,by rw[nR];exact hB0 β (λ_=>rfl),by rw[nR];exact hlen,Kt _ ⟨τ.tmps,aK τ.boxes d as,τ.y⟩ rfl,λh=>by omega,λ_=>jY.1⟩ (by omega) jY.2
      by_cases Vm:isApp o=true
      .obtain⟨c,t0,t1,e,ti,rZ,te,s,x,ap,Ra,hk⟩:=zq Vm hk
       have dv:∀x,x∈c.args.toList->x∈o.op.operands.toList:=λx hx=>by
        simp only[ap.op,Op.operands,Call.operands,ap.callee,Array.toList_append,List.mem_append];exact .inr hx
       have gi:=hs.jv (λx t hx e=>PC t (e▸dv x hx)) Ra;have jl:(c.args.map a.eval)=(c.args.toList.map a.eval).toArray:=by apply Array.toList_inj.1;simp
       obtain⟨sv,oz,oG,Ht,J3⟩:=gi.cons_inv;obtain⟨xv,rU,ub⟩:=J3.k7;rw[oG,rU]at jl;obtain⟨v,w',pn,aP,rI,β',bq,aq,hy,mM⟩:=qF ak hs (hT _ _ ap.t0) ap.d0 (hT _ _ ap.tE) (hT _ _ ap.t1) ap.d1 ap.h0 ap.h1 o.type (Nat.blt_eq▸ap.size) (Nat.blt_eq▸ap.bytes) Ht ub hs.last hk;have fin:∀pn,τ.boxes.length<=(cD τ pn).length->bf cx (Vl ops (m+k) listed) ⟨τ.tmps,cD τ pn,τ.y⟩ β' I S N a w'->Rel I β' v (nv τ pn)->Jl τ pn=τ.y/\G4 τ pn=τ.tmps->
           ((∀i,i<(cD τ pn).length->(i<τ.boxes.length->(β i).isSome=true)->(β' i).isSome=true)/\∀i,i<τ.boxes.length->(β' i).isSome=(β i).isSome)->
           cI T (CD P sh) ops.toList (σs 0).boxes.length (bJ τ o.dst pn) (bN o L)->cB T (CD P sh) ops.toList (σs 0).boxes.length jn (m+(k+1)) (bN o L) (ops.toList.drop (m+(k+1))) (bJ τ o.dst pn) K->
           wpAnyIn F n P .any ops Q fuel (listed.setIfInBounds (m+k) true) (a.put o.dst v) w':=by
         intro pn Vn bq aq hy mM h1 h2;have Ep:bf cx (Vl ops (m+k) listed) (bJ τ o.dst pn) β' I S N (a.put o.dst v) w':=by
          unfold bJ;rw[hy.1,hy.2];exact bq.put Eg λ_=>aq
         have nR:(bJ τ o.dst pn).boxes.length=(cD τ pn).length:=by unfold bJ;rw[bX]
         refine ih _ _ w' β' I S (k+1) _ (bN o L) ⟨BQ,λh=>by omega,by simpa using dQ,by omega,jB,mj,λ_=>py,Ep.move (λt ht=>⟨Vk t ht,rfl⟩) (Bg.refl _) rfl,?_,by rw[nR];omega,Kt _ ⟨G4 τ pn,cD τ pn,Jl τ pn⟩ hy.2,λh=>by omega,λ_=>h1⟩ (by omega) h2;rw[nR];refine zu (.inr jA) _ β' Vn λb=>?_;rcases Nat.lt_or_ge b τ.boxes.length with mO|mO
         .rw[mM.2 b mO]
          exact⟨.inl,λh=>h.elim id λh=>by omega⟩
         constructor
         .intro h
          exact .inr ⟨mO,bq.last b h⟩
         rintro(h|h)
         .have:=hs.last b h;omega
         exact mM.1 b h.2 λh2=>by omega
       refine cz hF (by rw[ap.op];simp) (v:=v) (w':=w') ?_ ?_
       .simp only[execOp,ap.op,resolve,ap.callee,Sem.run_bind,Sem.run_pure,Result.andThen_ok,invoke,builtin,jl]
        rw[aP];rfl
       cases pn with
       |val d=>exact fin (.val d) (Nat.le_refl _) bq aq hy mM rI.1 rI.2
       |set j b d=>exact fin (.set j b d) (by simp[cD]) bq aq hy mM rI.1 rI.2
       |res d as=>exact fin (.res d as) (Nat.le_of_eq (iw _ _ _).symm) bq aq hy mM rI.1 rI.2
       |new b mk=>exact fin (.new b mk) (by simp[cD]) bq aq hy mM rI.1 rI.2
       |eo b mk L=>exact fin (.eo b mk L) (by simp[cD,aO]) bq aq hy mM rI.1 rI.2
       |_=>exact rI.elim
      cases M6:o.op with
      |store t p x=>
       unfold dC at hk;simp only[M6]at hk;cases ht:T t with
       |none=>rw[ht]at hk;exact hk.elim
       |some ti=>
        cases hp:τ.ev p with
        |none=>rw[ht,hp]at hk;exact hk.elim
        |some pd=>
         cases hx:τ.ev x with
         |none=>rw[ht,hp,hx]at hk;exact hk.elim
         |some xd=>
          rw[ht,hp,hx]at hk;simp only at hk;cases kj:pR pd xd with
          |false=>
           rw[kj]at hk;obtain⟨d',_,hk⟩:=hk;obtain⟨j,b,bF⟩:=D1 hk;exact bF.elim
          |true=>
          rw[kj]at hk;obtain⟨w',j,b,aP,bF,bq⟩:=nI ak hs (hT _ _ ht) (hs.ev (x:=p) (λu e=>PC u (by rw[M6,e];simp[Op.operands])) hp) (hs.ev (x:=x) (λu e=>PC u (by rw[M6,e];simp[Op.operands])) hx) hk;refine gS hF (by rw[M6];simp) (w':=w') (by simp[execOp,M6,aP]) ?_;exact next (.set j b .eL) _ w' rfl bF.1 bF.2 (bq.put Eg λ_=>.eL _) (by unfold bJ;rw[bX];simp[cD])
      |_=>(simp[yX,M6]at Vj;rcases Vj with h|h;exact absurd h hm;exact absurd h Vm)
   have adv:∀(r k:Nat)(τ:St)(L:List Nat),ops.size-(m+k)=r->Q8 (P:=P) sh T cx N ops m jn σs listed a w β I S k τ L->listed.toList.count false=fuel+1->
       cB T (CD P sh) ops.toList (σs 0).boxes.length jn (m+k) L (ops.toList.drop (m+k)) τ K->wpAnyIn F n P .any ops Q (fuel+1) listed a w:=by
     intro r
     induction r with
     |zero=>
      intro k τ L Rg h hc hk;exact main k τ L (λh=>by omega) h hc hk
     |succ r ihr=>
      intro k τ L Rg h hc hk;cases dN:jn.contains (m+k)with
      |false=>exact main k τ L (λ_=>dN) h hc hk
      |true=>
       have PE:m+k∈jn:=by simpa using dN
       have dv:m+k<ops.size:=by omega
       have ho:ops[m+k]?=some ops[m+k]:=Array.getElem?_eq_getElem dv;obtain⟨o,hoe⟩:∃o,ops[m+k]=o:=⟨_,rfl⟩;rw[hoe]at ho;obtain⟨hg,_,xc⟩:=hd.late _ PE o ho;obtain⟨T9,hv,_⟩:=xc (by omega);have qn:k≠0:=by omega
       have Q9:ops.toList[m+k]?=some o:=by simpa using ho
       have ea:ops.toList.drop (m+k)=o::ops.toList.drop (m+(k+1)):=by
        have cG:m+k<ops.toList.length:=by simpa using dv
        rw[List.drop_eq_getElem_cons cG];have:ops.toList[m+k]=o:=by rw[List.getElem?_eq_getElem cG]at Q9;exact Option.some.inj Q9
        rw[this];rfl
       rw[ea]at hk;simp only[cB,dN,kY]at hk;obtain⟨d,jY⟩:=El hv hk;have jT:listed.getD (m+k) true=false:=Bool.eq_false_iff.2 λhh=>by have:=(h.tail (m+k) (by omega) dv).1 hh;omega
       refine ihr (k+1) (bJ τ o.dst (.val d)) ((m+k)::L) (by omega) ⟨λj hj=>?_,λhh=>by omega,h.sz,by omega,λj h1 h2=>⟨λh3=>by have:=(h.tail j h1 h2).1 h3;omega,λh3 h4=>?_⟩,h.down,λ_ j hj ng=>h.pre qn j hj λhh=>ng (List.mem_cons_of_mem _ hh),?_,by unfold bJ;rw[bX];exact h.bl,?_,λj oj t hj gF qM=>?_,λhh=>by omega,λ_=>jY.1⟩ hc jY.2
       .rcases List.mem_cons.1 hj with rfl|hj
        .exact⟨PE,by omega⟩
        have:=h.sub j hj;exact⟨this.1,by omega⟩
       .have eh:j≠m+k:=λe=>h4 (by rw[e];simp)
        exact(h.tail j h1 h2).2 (by omega) λhh=>h4 (List.mem_cons_of_mem _ hh)
       .refine h.sim.move (λt ht=>?_) ?_ ?_
        .have nf:o.dst≠some t:=ht (m+k) o (by omega) ho jT
         refine⟨λj oj hj gF hu=>ht j oj (by omega) gF hu,?_⟩;unfold bJ;exact nO nf
        .unfold bJ;rw[bX];exact Bg.refl _
        unfold bJ;rw[Kb];rfl
       .unfold bJ;rw[bX];exact h.len
       unfold bJ;rw[nO (hd.reads _ o j oj t (by omega) ho (by omega) (.inl hj) gF qM).2];exact h.slot j oj t hj gF qM
   intro k τ L h hc hk;exact adv _ k τ L rfl h hc hk
theorem tj(hT:br P T){F:Fence}(hF:FW F)(ak:cx.Ok)(hy:bB P cx)(bZ:∀o∈ops.toList,∀t,o.dst=some t->t<N)(hs:aac cx U N a w){n:Nat}{K:St->Prop}{Q:Exit->Act->World->Prop}
    (hQ:∀σ' a' w',K σ'->aac cx σ' N a' w'->Q .normal a' w')(m:Nat)(late:List Nat)(hl:jy ops.toList m late=true)
    (hk:aL T (CD P sh) tR ops.toList (ops.toList.take m) 0 U λτ=>cB T (CD P sh) ops.toList U.boxes.length late m (na m late) (ops.toList.drop m) τ K):
    wpAnyIn F n P .any ops Q ops.size (Array.replicate ops.size false) a {w with drawn:=w.drawn+1}:=by
  have hd:=BL hl;have lR:(ops.toList.take m).length=m:=by rw[List.length_take];have:=hd.le;simp;omega
  have BK:∀o∈ops.toList.take m,dS o=true\/(isApp o=true/\∀i b d,tR (.set i b d)=true):=λo ho=>by
   obtain⟨i,hi⟩:=List.mem_iff_getElem?.1 ho;rw[List.getElem?_take]at hi;split at hi
   .rename_i jA;exact(hd.dS i o jA (by simpa using hi)).imp (λh=>h) λh=>⟨h,λ_ _ _=>rfl⟩
   cases hi
  obtain⟨σs,h0,cH,eH⟩:=jS (fb:=tR) ⟨⟨λ_ _=>rfl,λ_ _ _=>rfl⟩,λ_ _ _=>rfl,λ_ _ _=>rfl⟩ (ops.toList.take m) [] 0 U BK (by rw[List.append_nil];exact hk);rw[lR]at eH;have eH:cB T (CD P sh) ops.toList (σs 0).boxes.length late m (na m late) (ops.toList.drop m) (σs m) K:=by rw[h0];exact eH
  have hr:AO T (CD P sh) ops m σs:=⟨λi o hi ho=>cH i o (by rw[List.getElem?_take,if_pos hi];simpa using ho)⟩;obtain⟨β,I,S,bq,cK⟩:=hs;have Kh:=bq.aE ak (aB.drew _ w);have IH:Bg U.boxes (σs m).boxes:=by
   have:=hr.bg hd.le m 0 (by omega)
   rwa[h0,Nat.zero_add]at this
  have hle:=hd.le;have jT:∀j,j<ops.size->(Array.replicate ops.size false).getD j true=false:=λj hj=>by simp[hj]
  have Ki:bf cx (Vl ops m (Array.replicate ops.size false)) (σs m) β I S N a {w with drawn:=w.drawn+1}:=by
   refine Kh.move (λt ht=>⟨trivial,?_⟩) IH ?_
   .have:=hr.look hd.le (t:=t) m 0 (by omega) (λj o _ h2 ho=>ht j o (by omega) ho (jT j (Array.getElem?_eq_some_iff.1 ho).1))
    rwa[h0,Nat.zero_add]at this
   have:=hr.y hd.le m 0 (by omega)
   rwa[h0,Nat.zero_add]at this
  refine Kn hT hF ak hy hd bZ hQ hr ops.size _ a _ β I S 0 (σs m) (na m late) ⟨λj hj=>⟨(nQ.1 hj).1,by have:=(nQ.1 hj).2;omega⟩,λ_=>rfl,by simp,by omega,λi h1 h2=>⟨λh=>(by rw[jT i h2]at h;cases h),λh=>by omega⟩,λi o e ho hi=>(by rw[jT i (Array.getElem?_eq_some_iff.1 ho).1]at hi;cases hi),λh=>absurd rfl h,Ki,?_,Nat.le_refl _,λ_ _ _ _ _ _=>rfl,λ_=>rfl,λh=>absurd rfl h⟩ (by simp) eH;intro b;rw[h0];constructor
  .intro h
   exact .inl (.inl (bq.last b h))
  rintro((h|⟨i,h1,h2,_⟩)|h)
  .exact cK b h
  .rw[jT i (by omega)]at h2;cases h2
  omega
theorem lH{lo:Nat}(cY:cx.lo<=lo)(hT:br P T)(ef:P.follows .mixedOrders=true){F:Fence}(hF:FW F)(ak:cx.Ok)(hy:bB P cx)(bZ:∀o∈ops.toList,∀t,o.dst=some t->t<N)(hs:aac cx U N a w){n id:Nat}{dr:Bool}{K:St->Prop}{Q:Exit->Act->World->Prop}
    (hQ:∀σ' a' w',K σ'->aac cx σ' N a' w'->Q .normal a' w')
    (hk:match dr with
     |false=>aL T (CD P sh) (oX lo) ops.toList ops.toList 0 U K
     |true=>(ly ops.toList=true/\aL T (CD P sh) mZ ops.toList ops.toList 0 U K)\/
      (∃(m:Nat)(late:List Nat),jy ops.toList m late=true/\aL T (CD P sh) tR ops.toList (ops.toList.take m) 0 U λτ=>cB T (CD P sh) ops.toList U.boxes.length late m (na m late) (ops.toList.drop m) τ K)):(Code.region id ops dr).wpIn F n P Q a w:=by
  cases dr with
  |false=>exact qN cY hT ef hF ak hy bZ hs hQ hk
  |true=>
   simp only at hk;rcases hk with hk|⟨m,late,hl,hk⟩
   .exact qN cY hT ef hF ak hy bZ hs hQ hk
   exact wpIn_region_any ef (tj hT hF ak hy bZ hs hQ m late hl hk)
end
end Go.V
namespace Go.V
open Go.RowKit
def bounded(N:Nat):Code->Bool
 |.region _ ops _=>ops.toList.all λo=>match o.dst with|some t=>Nat.blt t N|none=>true
 |.seq a b|.cond _ a b=>match bounded N a with|true=>bounded N b|false=>false
 |.block _ c|.loop c|.scope c=>bounded N c
 |.rangeFunc _ ps a c=>match bounded N a,bounded N c with|true,true=>ps.toList.all λt=>Nat.blt t N|_,_=>false
 |_=>true
section
variable{P:Program}[aM]{T:Nat->Option TI}{cx:Cx}{V:Nat->Prop}{U:St}{β:BE}{I:aW}{S:Nat->Prop}{N:Nat}{a:Act}{w:World}
theorem aac.clean(ak:cx.Ok)(h:aac cx U N a w){aE:List Nat}{nb:Nat}(cY:cx.lo<=nb)(hg:(U.clean aE nb).qu nb):aac cx (U.clean aE nb) N a w:=by
 obtain⟨β,I,S,hs,ht⟩:=h;refine⟨eY nb β,I,S,hs.cut ak cY (λt d _ hl=>?_) hg.2,λi hi=>?_⟩
 .obtain⟨v,hv,hr⟩:=hs.tm t d trivial (iU hl)
  exact⟨v,hv,hr.ue nb (fY hg.1 hl)⟩
 have hi:i<(U.boxes.take nb).length:=hi;rw[List.length_take]at hi;unfold eY;rw[if_pos (by omega)];exact ht i (by omega)
def qP(cx:Cx)(N:Nat)(Q:Ex->St->Prop):Exit->Act->World->Prop
 |.normal,a,w=>∃U,Q .normal U/\aac cx U N a w
 |.exit id,a,w=>∃U,Q (.exit id) U/\aac cx U N a w
 |.ret,a,w=>∃U,Q .ret U/\aac cx U N a w
 |.panic ch,a,w=>∃U v,ch=[{v,recovered:=false}]/\Q (.panic v) U/\aac cx U N a w
 |_,_,_=>False
def qQ(F:Fence)(cx:Cx):Prop:=∀l y S w,F.round=some l->cx.J y S w->∃r,w.heap[l]?=some (.loop r)
omit [aM]in
theorem zv{F:Fence}{n:Nat}{Q:Exit->Act->World->Prop}{c:Code}(J:Nat->Act->World->Prop){k:Nat}(h₀:J k a w)
    (round:∀k a w,J k a w->c.wpIn F n P (Exit.then (λa' w'=>∃k',k'<k/\J k' a' w') Q) a w):(Code.loop c).wpIn F n P Q a w:=by
  classical
  refine wpIn_loop (λa w=>∃k,J k a w) (λa w=>if h:∃k,J k a w then Classical.choose (gZ (p:=λk=>J k a w) h.choose h.choose_spec)else 0) ⟨k,h₀⟩ ?_;intro a w hk;have hmu:∀{a w}(h:∃k,J k a w),(if h:∃k,J k a w then Classical.choose (gZ (p:=λk=>J k a w) h.choose h.choose_spec)else 0)=Classical.choose (gZ (p:=λk=>J k a w) h.choose h.choose_spec):=λh=>dif_pos h;have F8:∀{a w}(h:∃k,J k a w),J (Classical.choose (gZ (p:=λk=>J k a w) h.choose h.choose_spec)) a w/\∀j,j<Classical.choose (gZ (p:=λk=>J k a w) h.choose h.choose_spec)->¬J j a w:=
   λh=>Classical.choose_spec (gZ (p:=λk=>J k _ _) h.choose h.choose_spec)
  refine wpIn_mono (round _ a w (F8 hk).1) ?_;intro e a' w' hq;cases e with
  |normal=>
   obtain⟨k',cG,hJ⟩:=hq;refine⟨⟨k',hJ⟩,?_⟩;rw[hmu hk,hmu ⟨k',hJ⟩];have h2:=(F8 (a:=a') (w:=w') ⟨k',hJ⟩).2;exact Nat.lt_of_le_of_lt (Nat.le_of_not_lt λh=>h2 k' h hJ) cG
  |_=>exact hq
omit [aM]in
theorem hP{b:Frame}{k:List Item}{cs:List Frame}{c:Code}:step P (lone (b.atR a (.code (.scope c)::k)) cs w)=.next (lone (b.atR a (.code c::.inScope c::k)) cs w):=
 step_lone_go (by simp[stepG,stepG.exec,Frame.atR])
omit [aM]in
theorem xx{b:Frame}{k:List Item}{cs:List Frame}{c:Code}:step P (lone (b.atR a (.inScope c::k)) cs w)=.next (lone (b.atR a k) cs w):=
 step_lone_go (by simp[stepG,stepG.exec,Frame.atR])
omit [aM]in
theorem o0{F:Fence}{n:Nat}{Q:Exit->Act->World->Prop}{c:Code}(h:c.wpIn F n P Q a w)(hQ:∀l a w,¬Q (.goto l) a w):(Code.scope c).wpIn F n P Q a w:=by
 intro b k cs hro hb hr;have h0:(lone (b.atR a (.code (.scope c)::k)) cs w).fenced P F:=fenced_calm hb hr rfl;obtain⟨e,a₁,w₁,hq,HN⟩:=h b (.inScope c::k) cs hro hb hr;cases e with
 |normal=>exact⟨.normal,a₁,w₁,hq,.head h0 hP (StepsIn.trans HN (.one (fenced_calm hb hr rfl) xx))⟩
 |exit id=>
  have hx:exitTo id (.inScope c::k)=exitTo id k:=by simp[exitTo]
  exact⟨_,a₁,w₁,hq,λk' hk=>.head h0 hP (HN.1 k' (by rw[hx];exact hk)),λe8 hk=>let⟨k₁,h1,h2⟩:=HN.2 e8 (by rw[hx];exact hk);⟨k₁,h1,.head h0 hP h2⟩⟩
 |goto l=>exact(hQ _ _ _ hq).elim
 |ret=>exact⟨_,a₁,w₁,hq,.of_steps (.one h0 hP) HN⟩
 |panic ch=>exact⟨_,a₁,w₁,hq,.of_steps (.one h0 hP) HN⟩
 |outgrown=>exact⟨_,a₁,w₁,hq,.of_steps (.one h0 hP) HN⟩
end
end Go.V
namespace Go.V
open Go.RowKit
section
variable{P:Program}[aM]{T:Nat->Option TI}{cx:Cx}{V:Nat->Prop}{U:St}{β:BE}{I:aW}{S:Nat->Prop}{N:Nat}{a:Act}{w:World}
def qR(sz:Nat):BI:=⟨none,false,0,sz,0,0,0⟩
omit [aM]in
theorem Rel.Kv{v:Value}(h:Rel I β v .ao){n sz:Nat}(hβ:β n=some (qR sz)):Rel I β v (.sl n 0 0 0):=by
 cases h with|ao A=>?_
 exact .sl A 0 n 0 0 0 (qR sz) hβ rfl rfl rfl (Nat.le_refl _) (Nat.le_refl _) (λh=>absurd h (by decide))
theorem bf.Kw(ak:cx.Ok)(h:bf cx V U β I S N a w)(sz:Nat):
    bf cx V ⟨U.tmps,U.boxes++[.rows false 0 sz []],U.y⟩ (λi=>if i=U.boxes.length then some (qR sz)else β i) I S N a w/\β.le (λi=>if i=U.boxes.length then some (qR sz)else β i):=by
  refine h.new ak (aB.refl _ w) (bi:=qR sz) (b:=.rows false 0 sz []) ?_ (by simp) ?_ (λR hR=>by cases hR) ?_
  .cases hb:β U.boxes.length with
   |none=>rfl
   |some b=>
    obtain⟨box,h1,_⟩:=h.bx _ b hb;have:=(List.getElem?_eq_some_iff.1 h1).1;omega
  .intro i hi
   obtain⟨b,hb⟩:=Option.isSome_iff_exists.1 hi;obtain⟨box,h1,_⟩:=h.bx _ b hb;have:=(List.getElem?_eq_some_iff.1 h1).1;rw[List.getElem?_append_left this]
  exact⟨rfl,rfl,rfl,rfl,λr row hr=>by simp at hr,Nat.le_refl _,rfl⟩
omit [aM]in
theorem kB:∀{tm:List (Nat×D)}{t u:Nat}{d e x:D},look tm t=some x->look (qt tm t d) u=some e->(u=t/\e=d)\/look tm u=some e
 |[],_,_,_,_,_,h,_=>by cases h
 |(k,y)::r,t,u,d,e,x,h,he=>by
  simp only[qt]at he;cases hk:Nat.beq k t with
  |true=>
   rw[hk]at he;simp only[look]at he⊢;cases hu:Nat.beq k u with
   |true=>
    rw[hu]at he;cases he;exact .inl ⟨(Nat.eq_of_beq_eq_true hu).symm.trans (Nat.eq_of_beq_eq_true hk),rfl⟩
   |false=>rw[hu]at he;exact .inr he
  |false=>
   rw[hk]at he;simp only[look]at he h⊢;rw[hk]at h;cases hu:Nat.beq k u with
   |true=>rw[hu]at he;exact .inr he
   |false=>rw[hu]at he;exact kB h he
omit [aM]in
theorem BR{c:Array Value}{sz:Nat}:∀(rs:List (List D)){off:Nat}(_:∀(r:Nat)(row:List D),rs[r]?=some row->row.length=sz)
    (_:∀(r:Nat)(row:List D)(j:Nat)(d:D),rs[r]?=some row->row[j]?=some d->∃v,c[off+(r*sz+j)]?=some v/\Rel I β v d/\v.oneCell'=true),cT I β ((c.toList.drop off).take rs.flatten.length) rs.flatten
  |[],_,_,_=>⟨by simpa using bn.nil,λv h=>by simp at h⟩
  |row::rs,off,aI,hd=>by
   have hl:=aI 0 row rfl;have ih:=BR rs (off:=off+sz) (λr ib h=>aI (r+1) ib h) (λr ib j d hr hj=>by
    obtain⟨v,h1,h2⟩:=hd (r+1) ib j d hr hj;refine⟨v,?_,h2⟩;rw[<-h1,Nat.add_mul];congr 1;omega)
   have h1:cT I β ((c.toList.drop off).take sz) row:=by
    have cM:∀(j:Nat)(d:D),row[j]?=some d->∃v,c.toList[off+j]?=some v/\Rel I β v d/\v.oneCell'=true:=λj d hj=>by
     obtain⟨v,h1,h2⟩:=hd 0 row j d rfl hj;exact⟨v,by simpa using h1,h2⟩
    have hlen:((c.toList.drop off).take sz).length=sz:=by
     rcases Nat.eq_zero_or_pos sz with h0|h0
     .simp[h0]
     obtain⟨v,h1,_⟩:=cM (sz-1) _ (List.getElem?_eq_getElem (by omega));have:=(List.getElem?_eq_some_iff.1 h1).1;simp only[List.length_take,List.length_drop];omega
    have eu:∀(j:Nat)(v:Value),((c.toList.drop off).take sz)[j]?=some v->c.toList[off+j]?=some v:=λj v hv=>by
     rw[List.getElem?_take]at hv;split at hv
     .simpa using hv
     cases hv
    refine⟨⟨hlen.trans hl.symm,λj v d hv hj=>?_⟩,λv hv=>?_⟩
    .obtain⟨v',h1,h2,_⟩:=cM j d hj
     rw[eu j v hv]at h1;cases h1;exact h2
    obtain⟨j,hj,rfl⟩:=List.getElem_of_mem hv;obtain⟨v',h1,_,h3⟩:=cM j _ (List.getElem?_eq_getElem (by omega));rw[eu j _ (List.getElem?_eq_getElem hj)]at h1;cases h1;exact h3
   have e:(c.toList.drop off).take (row::rs).flatten.length=(c.toList.drop off).take sz++(c.toList.drop (off+sz)).take rs.flatten.length:=by
    rw[List.flatten_cons,List.length_append,hl,List.take_add,List.drop_drop]
   rw[e,List.flatten_cons];exact h1.append ih
theorem bf.qS(ak:cx.Ok):∀(vs:List (Pl×Nat)){U:St}{β:BE},bf cx (λ_=>True) U β I S N a w->(∀i,i<U.boxes.length->(β i).isSome=true)->
    ∃β',bf cx (λ_=>True) (U.vec vs) β' I S N a w/\(∀i,i<(U.vec vs).boxes.length->(β' i).isSome=true)/\∀i b R,β' i=some b->b.R=some R->∃i' b',β i'=some b'/\b'.R=some R
  |[],U,β,h,ht=>⟨β,h,ht,λi b R h1 h2=>⟨i,b,h1,h2⟩⟩
  |(.slot t,sz)::r,U,β,h,ht=>by
   unfold St.vec;split
   .rename_i hl
    obtain⟨h1,hle⟩:=h.Kw ak sz;obtain⟨β',k1,k2,k3⟩:=bf.qS ak r (U:=⟨qt U.tmps t (.sl U.boxes.length 0 0 0),U.boxes++[.rows false 0 sz []],U.y⟩) (β:=λi=>if i=U.boxes.length then some (qR sz)else β i)
     {h1 with tm:=(λu d hV he=>(by
         rcases kB hl he with⟨rfl,rfl⟩|he
         .obtain⟨v,hv,hr⟩:=h.tm u _ trivial hl
          exact⟨v,hv,(hr.mono I.le_refl hle).Kv (sz:=sz) (by simp)⟩
         exact h1.tm u d hV he)),sz:=h1.sz,bx:=h1.bx,clear:=h1.clear,j:=h1.j,marks:=h1.marks,ep:=h1.ep,dn:=h1.dn,nd:=h1.nd} (by
     intro i hi;by_cases bC:i=U.boxes.length
     .simp[bC]
     simp only[bC,if_false];exact ht i (by simp at hi;omega))
    refine⟨β',k1,k2,λi b R hb hR=>?_⟩;obtain⟨i',b',h3,h4⟩:=k3 i b R hb hR;by_cases bC:i'=U.boxes.length
    .simp only[bC,if_true,Option.some.injEq]at h3;subst h3;cases h4
    simp only[bC,if_false]at h3;exact⟨i',b',h3,h4⟩
   exact bf.qS ak r h ht
  |(.cell i off,sz)::r,U,β,h,ht=>by
   unfold St.vec;split
   .rename_i cs hb
    split
    .rename_i hc
     obtain⟨h1,hle⟩:=h.Kw ak sz;have qp:i<U.boxes.length:=(List.getElem?_eq_some_iff.1 hb).1;obtain⟨b,hβ⟩:=Option.isSome_iff_exists.1 (ht i qp);have eh:i≠U.boxes.length:=by omega
     have zk:(λi=>if i=U.boxes.length then some (qR sz)else β i) i=some b:=by simp[eh,hβ]
     have qm:(U.boxes++[.rows false 0 sz []])[i]?=some (.flat false cs):=by rw[List.getElem?_append_left qp];exact hb
     have uh:BE.le (λi=>if i=U.boxes.length then some (qR sz)else β i) (λj=>if j=i then some b else(λi=>if i=U.boxes.length then some (qR sz)else β i) j):=by
      intro j c hj;by_cases ie:j=i
      .subst ie
       rw[zk]at hj;cases hj;exact⟨b,by simp,.inl rfl⟩
      exact⟨c,by simp only[ie,if_false];exact hj,.inl rfl⟩
     have h2:=h1.set ak (U:=⟨U.tmps,U.boxes++[.rows false 0 sz []],U.y⟩) zk qm rfl (λ_ _ _ e=>by cases e) (w':=w) ((aB.refl _ w)) (b':=b) (box':=.flat false (cs.set off (.sl U.boxes.length 0 0 0))) (λR hR=>.inl hR) uh (by
      obtain⟨box,fp,cV⟩:=h1.bx i b zk;rw[qm]at fp;cases fp;obtain⟨hf,R,c,t,hR,hh,vc⟩:=cV;have HO:=vc.mono I.le_refl uh;refine⟨hf,R,c,t,hR,hh,?_⟩;rw[List.length_set];refine⟨⟨by simpa using HO.1.1,λj v d hv hd=>?_⟩,HO.2⟩;by_cases hj:j=off
      .subst hj
       have cG:=(List.getElem?_eq_some_iff.1 hc).1;rw[List.getElem?_set_self cG]at hd;cases hd;exact(HO.1.2 j v _ hv hc).Kv (sz:=sz) (by simp[Ne.symm eh])
      rw[List.getElem?_set_ne (by omega)]at hd;exact HO.1.2 j v d hv hd)
     obtain⟨β',k1,k2,k3⟩:=bf.qS ak r (U:=⟨U.tmps,U.boxes.set i (.flat false (cs.set off (.sl U.boxes.length 0 0 0)))++[.rows false 0 sz []],U.y⟩) (β:=_) (by
      have e:(U.boxes++[af.rows false 0 sz []]).set i (.flat false (cs.set off (.sl U.boxes.length 0 0 0)))=U.boxes.set i (.flat false (cs.set off (.sl U.boxes.length 0 0 0)))++[.rows false 0 sz []]:=by
       rw[List.set_append_left _ _ qp]
      simp only[e]at h2;exact h2) (by
     intro j hj;by_cases ie:j=i
     .simp[ie]
     .simp only[ie,if_false]
      by_cases xm:j=U.boxes.length
      .simp[xm]
      simp only[xm,if_false];exact ht j (by simp at hj;omega))
     refine⟨β',k1,k2,λj c R hc hR=>?_⟩;obtain⟨j',c',h3,h4⟩:=k3 j c R hc hR;by_cases ie:j'=i
     .simp only[ie,if_true,Option.some.injEq]at h3;subst h3;exact⟨i,b,hβ,h4⟩
     simp only[ie,if_false]at h3;by_cases xm:j'=U.boxes.length
     .simp only[xm,if_true,Option.some.injEq]at h3;subst h3;cases h4
     simp only[xm,if_false]at h3;exact⟨j',c',h3,h4⟩
    exact bf.qS ak r h ht
   exact bf.qS ak r h ht
  |(.uW _,_)::r,_,_,h,ht=>bf.qS ak r h ht
  |(.swap _ _,_)::r,_,_,h,ht=>bf.qS ak r h ht
  |(.free,_)::r,_,_,h,ht=>bf.qS ak r h ht
  |(.rN t,_)::r,U,β,h,ht=>by
   unfold St.vec;split
   .rename_i i g off len hl
    split
    .rename_i g' sz row rs hb
     split
     .rename_i mI
      obtain rfl:=Nat.eq_of_beq_eq_true mI;have qp:i<U.boxes.length:=(List.getElem?_eq_some_iff.1 hb).1;obtain⟨b,hβ⟩:=Option.isSome_iff_exists.1 (ht i qp);obtain⟨box,fp,cV⟩:=h.bx i b hβ;rw[hb]at fp;cases fp;obtain⟨hf,hg,dQ,hn,aI,ia,hm⟩:=cV;obtain⟨R,hR⟩:∃R,b.R=some R:=by
       cases hR:b.R with
       |some R=>exact⟨R,rfl⟩
       |none=>rw[hR]at hm;simp at ia;omega
      rw[hR]at hm;obtain⟨c,ty,hh,fS,hd⟩:=hm;have hle:β.le (λj=>if j=i then some ⟨none,false,g+1,sz,0,0,0⟩else β j):=λj c hj=>by
       by_cases ie:j=i
       .subst ie
        rw[hβ]at hj;cases hj;exact⟨⟨none,false,g+1,sz,0,0,0⟩,by simp,.inr ⟨hf,rfl,by show b.g<g+1;omega⟩⟩
       exact⟨c,by simp only[ie,if_false];exact hj,.inl rfl⟩
      have h1:=h.set ak hβ hb rfl (λ_ _ _ e=>by cases e) (aB.refl _ w) (b':=⟨none,false,g+1,sz,0,0,0⟩) (box':=.rows false (g+1) sz []) (λR h=>by cases h) hle
       ⟨rfl,rfl,rfl,rfl,λr row hr=>by simp at hr,Nat.le_refl _,rfl⟩
      have eh:i≠U.boxes.length:=by omega
      have lL:=h.clear i b R _ hβ hR hb rfl;obtain⟨h2,uh⟩:=h1.newAt (U:=⟨U.tmps,U.boxes.set i (.rows false (g+1) sz []),U.y⟩) (n:=U.boxes.length) (bs:=U.boxes.set i (.rows false (g+1) sz [])++[.flat false (row::rs).flatten]) (b:=.flat false (row::rs).flatten) (bi:=⟨some R,true,0,0,0,0,b.o⟩)
       (by
        simp only[Ne.symm eh,if_false];cases hb:β U.boxes.length with
        |none=>rfl
        |some b=>
         obtain⟨box,h1,_⟩:=h.bx _ b hb;have:=(List.getElem?_eq_some_iff.1 h1).1;omega)
       (by rw[List.getElem?_append_right (by simp)];simp) (λj hj=>by
        have:j<U.boxes.length:=by
         by_cases ie:j=i
         .omega
         simp only[ie,if_false]at hj;obtain⟨b,hb⟩:=Option.isSome_iff_exists.1 hj;obtain⟨box,h1,_⟩:=h.bx _ b hb;exact(List.getElem?_eq_some_iff.1 h1).1
        rw[List.getElem?_append_left (by simpa using this)])
       (λR' e=>by
        cases e;refine⟨(h.own i b R hβ hR).1,(h.own i b R hβ hR).2,λj c hc e=>?_,lL⟩;by_cases ie:j=i
        .simp only[ie,if_true,Option.some.injEq]at hc;subst hc;cases e
        simp only[ie,if_false]at hc;exact ie (h.apart j i c b R hc hβ e hR))
       (by
        refine⟨rfl,R,c,ty,rfl,hh,?_⟩;have aq:=BR (I:=I) (β:=λj=>if j=i then some ⟨none,false,g+1,sz,0,0,0⟩else β j) (c:=c) (off:=b.o) (row::rs) aI (λr row j d hr hj=>by
         obtain⟨v,h3,h4,h5⟩:=hd r row j d hr hj;exact⟨v,by simpa using h3,h4.mono I.le_refl (nA _),h5⟩)
        simpa using aq)
      obtain⟨β',k1,k2,k3⟩:=bf.qS ak r (U:=⟨qt U.tmps t (.gj U.boxes.length (off*sz) sz len),U.boxes.set i (.rows false (g+1) sz [])++[.flat false (row::rs).flatten],U.y⟩) (β:=_)
       {h2 with tm:=(λu d hV he=>(by
           rcases kB hl he with⟨rfl,rfl⟩|he
           .obtain⟨v,hv,hr⟩:=h.tm u _ trivial hl
            refine⟨v,hv,?_⟩;cases hr with
            |cJ _ _ _ _ _ _ b' eW _ Qv=>rw[hβ]at eW;cases eW;omega
            |sl A cc _ _ _ _ b' eW _ _ hc JG xe ha=>
             rw[hβ]at eW;cases eW;exact .gj A cc _ _ _ _ ⟨some R,true,0,0,0,0,b.o⟩ R (by simp) rfl rfl JG λdw=>by
              obtain⟨R',dh,rfl⟩:=ha dw;rw[hR]at dh;cases dh;rw[dQ]
           exact h2.tm u d hV he)),sz:=h2.sz,bx:=h2.bx,clear:=h2.clear,j:=h2.j,marks:=h2.marks,ep:=h2.ep,dn:=h2.dn,nd:=h2.nd} (by
       intro j hj;by_cases xm:j=U.boxes.length
       .simp[xm]
       simp only[xm,if_false];by_cases ie:j=i
       .simp[ie]
       simp only[ie,if_false];exact ht j (by simp at hj;omega))
      refine⟨β',k1,k2,λj c' R' hc dh=>?_⟩;obtain⟨j',c'',h3,h4⟩:=k3 j c' R' hc dh;by_cases xm:j'=U.boxes.length
      .simp only[xm,if_true,Option.some.injEq]at h3;subst h3;cases h4;exact⟨i,b,hβ,hR⟩
      simp only[xm,if_false]at h3;by_cases ie:j'=i
      .simp only[ie,if_true,Option.some.injEq]at h3;subst h3;cases h4
      simp only[ie,if_false]at h3;exact⟨j',c'',h3,h4⟩
     exact bf.qS ak r h ht
    exact bf.qS ak r h ht
   exact bf.qS ak r h ht
theorem bf.vec(ak:cx.Ok)(vs:List (Pl×Nat)){U:St}{β:BE}(h:bf cx (λ_=>True) U β I S N a w)(ht:∀i,i<U.boxes.length->(β i).isSome=true):
    ∃β',bf cx (λ_=>True) (U.vec vs) β' I S N a w/\(∀i,i<(U.vec vs).boxes.length->(β' i).isSome=true):=
  let⟨β',h1,h2,_⟩:=bf.qS ak vs h ht
  ⟨β',h1,h2⟩
theorem aac.vec(ak:cx.Ok)(vs:List (Pl×Nat))(h:aac cx U N a w):aac cx (U.vec vs) N a w:=by
 obtain⟨β,I,S,hs,ht⟩:=h;obtain⟨β',fu,ht'⟩:=hs.vec ak vs ht;exact⟨β',I,S,fu,ht'⟩
omit [aM]in
theorem j0:∀(vs:List (Nat×Nat×Nat))(U:St),(U.vec (cF vs)).tmps=U.tmps/\(U.vec (cF vs)).y=U.y
 |[],U=>⟨rfl,rfl⟩
 |(i,off,sz)::r,U=>by
  unfold cF St.vec;split
  .split
   .exact j0 r _
   exact j0 r U
  exact j0 r U
omit [aM]in
theorem lk{n m:Nat}(h:n<=m):∀{tm:List (Nat×D)},fF n tm=true->fF m tm=true
 |[],_=>rfl
 |(k,e)::r,ho=>by
  simp only[fF]at ho⊢;cases he:en n e with
  |false=>rw[he]at ho;cases ho
  |true=>rw[he]at ho;rw[oK h he];exact lk h ho
end
end Go.V
namespace Go.V
open Go.RowKit
structure Rb(cx:Cx)(β:BE)(I:aW)(S:Nat->Prop)(a:Act)(I1:aW)(S':Nat->Prop):Prop where
 lo:∀k,cx.dP k->¬Mem I1 k->S' k
 im:∀B off v,I B off=some v->¬Mem I1 B->S' B
 bx:∀i b R,β i=some b->b.R=some R->S' R
 ss:∀k,S k->S' k
 HP:∀d∈a.defers,∀R,d.target=.collected R->S' R
section
variable{P:Program}[aM]{T:Nat->Option TI}{cx:Cx}{V:Nat->Prop}{U:St}{β:BE}{I:aW}{S:Nat->Prop}{N:Nat}{a:Act}{w:World}
theorem bf.F9(ak:cx.Ok)(h:bf cx V U β I S N a w){I1:aW}{S':Nat->Prop}(hd:Rb cx β I S a I1 S'){w':World}(k:aB S' w w')(NM:I1.le I)(ha:bc I1 w'):bf cx V U β I S N a w':=
 {h with
  agree:=⟨λB off v hv=>by
   by_cases hm:Mem I1 B
   .obtain⟨c,hc⟩:=hm
    obtain rfl:=h.agree.ex B c (NM _ _ _ hc) off v hv;rw[NM _ _ _ hc]at hv;rw[<-hv];exact ha _ _ _ hc
   rw[k.cell (hd.im B off v hv hm)];exact h.agree B off v hv,h.agree.ex⟩
  bx:=λi b hb=>let⟨box,h1,h2⟩:=h.bx i b hb;⟨box,h1,h2.mono I.le_refl (BE.le_refl β) λR hR=>k.block R (by
   rcases hR with hR|hR
   .exact hd.bx i b R hb hR
   cases box with
   |aJ=>obtain⟨bm,h3,h4⟩:=hR;exact hd.bx _ bm R h3 h4
   |_=>exact hR.elim)⟩
  fr:=ak.fr _ _ h.fr (k.mono λB hB=>hd.lo B hB.1 λ⟨c,hc⟩=>hB.2 (h.Bj hB.1 ⟨c,NM _ _ _ hc⟩))
  n0:=λB hB=>Nat.lt_of_lt_of_le (h.n0 B hB) k.size
  j:=ak.j _ _ _ _ h.j (k.mono hd.ss)
  sb:=λB hB=>Nat.lt_of_lt_of_le (h.sb B hB) k.size
  marks:=λd hm hD=>let⟨R,h1,h2,h3⟩:=h.marks d hm hD;⟨R,h1,(k.block R (hd.HP d hm R (by rw[h1]))).trans h2,h3⟩}
omit [aM]in
theorem bf.dep(h:bf cx V U β I S N a w){I1:aW}(NM:I1.le I):Rb cx β I S a I1 (λk=>k<w.heap.size/\¬Mem I1 k)where
 lo:=λk hk hm=>⟨h.n0 k hk,hm⟩
 im:=λB off v hv hm=>⟨cy (h.agree B off v hv),hm⟩
 bx:=λi b R hb hR=>let⟨_,_,h2⟩:=h.bx i b hb;let⟨_,_,hh⟩:=h2.lt hR;⟨bo hh,λ⟨c,hc⟩=>h.nt R (.inr ⟨i,b,hb,hR⟩) ⟨c,NM _ _ _ hc⟩⟩
 ss:=λk hk=>⟨h.sb k hk,λ⟨c,hc⟩=>h.nt k (.inl hk) ⟨c,NM _ _ _ hc⟩⟩
 HP:=λd hm R hR=>by
  obtain⟨R',h1,h2,_⟩:=h.marks d hm (λhD=>h.dn _ hD _ hR);rw[h1]at hR;cases hR;refine⟨bo h2,λ⟨c,hc⟩=>?_⟩;obtain⟨es,q,h4,_⟩:=kc (h.agree _ _ _ (NM _ _ _ hc));rw[h2]at h4;cases h4
omit [aM]in
theorem BS{l B off:Nat}{v:Value}{r:Loop}(hl:w.heap[l]?=some (.loop r))(h:cN w B off=some v):B≠l:=λe=>by
 subst e;simp[cN,World.cell?,hl]at h
omit [aM]in
theorem se{l B off:Nat}{v:Value}{r:Option (List Deferred)}(hl:w.heap[l]?=some (.deferred r))(h:cN w B off=some v):B≠l:=λe=>by
 subst e;simp[cN,World.cell?,hl]at h
omit [aM]in
theorem jo(w:World)(l:Nat)(o:Obj):aB (λk=>k≠l) w (w.putObj l o):=⟨rfl,rfl,rfl,by simp,λ_ hk=>World.putObj_heap_other hk⟩
theorem bf.zw(ak:cx.Ok)(h:bf cx V U β I S N a w){l:Nat}{r:Loop}(hl:w.heap[l]?=some (.loop r))(hS:¬S l)(hn:¬cx.dP l)(o:Obj):bf cx V U β I S N a (w.putObj l o):=
 h.F9 ak (I1:=λ_ _=>none) (S':=λk=>k≠l) {
  lo:=λk hk _ e=>hn (e▸hk)
  im:=λB off v hv _=>BS hl (h.agree B off v hv)
  bx:=λi b R hb hR e=>by
   obtain⟨_,_,h2⟩:=h.bx i b hb;obtain⟨_,eX,hh⟩:=h2.lt hR;rw[e,hl]at hh;cases hh;exact Bool.noConfusion eX
  ss:=λk hk e=>hS (e▸hk)
  HP:=λd hm R hR e=>by
   obtain⟨R',h1,h2,_⟩:=h.marks d hm (λhD=>h.dn _ hD _ hR);rw[h1]at hR;cases hR;rw[e,hl]at h2;cases h2} (jo w l o) (λ_ _ _ h=>by cases h) ⟨λ_ _ _ h=>(by cases h),λ_ _ h=>(by cases h)⟩
omit [aM]in
theorem bf.share(h:bf cx V U β I S N a w)(L:List Nat):bf cx V ⟨U.tmps,au U.boxes 0 L,U.y⟩ β (bQ L β w I) S N a w:=by
 have hle:=dU h.agree L β;refine{h with tm:=?_,agree:=db h.agree L β,bx:=?_,clear:=?_,j:=h.j,I0:=aW.le_trans h.I0 hle,fV:=?_,sI:=?_,nt:=λB hB hm=>h.nt B hB (oI hm),gh:=λv d hg=>(h.gh v d hg).mono hle (BE.le_refl β)}
 .intro t d hV hl
  obtain⟨v,hv,hr⟩:=h.tm t d hV hl;exact⟨v,hv,hr.mono hle (BE.le_refl β)⟩
 .intro i b hb
  obtain⟨box,h1,h2⟩:=h.bx i b hb;refine⟨_,ck _ 0 L i box h1,?_⟩;have h3:=h2.mono hle (BE.le_refl β) (w':=w) λR hR=>rfl;split
  .cases box<;>exact h3
  exact h3
 .intro i b R box hb hR aN hf off
  obtain⟨D0,h1,h2⟩:=h.bx i b hb;have aN:(au U.boxes 0 L)[i]?=some box:=aN;rw[ck _ 0 L i D0 h1]at aN;unfold bQ;split at aN
  .cases aN;rw[af.lO]at hf;cases hf
  rename_i hc;cases aN;rw[if_neg]
  .exact h.clear i b R _ hb hR h1 hf off
  rintro⟨⟨i',b',bC,eW,dh⟩,_⟩;have:=h.apart i i' b b' R hb eW hR dh;subst this;rw[Nat.zero_add]at hc;simp[bC]at hc
 .intro B off hB
  unfold bQ;rw[if_neg]
  .exact h.fV B off hB
  rintro⟨⟨i,b,_,hb,hR⟩,_⟩;exact(h.own i b B hb hR).1 hB
 intro B off v hv hB;unfold bQ at hv;split at hv
 .rename_i hx
  obtain⟨⟨i,b,_,hb,hR⟩,_⟩:=hx;exact(h.own i b B hb hR).2
 exact h.sI B off v hv hB
omit [aM]in
theorem BU(i j k:Nat):mG i j (mG i j k)=k:=by
 unfold mG;cases h1:Nat.beq k i with
 |true=>
  have:=Nat.eq_of_beq_eq_true h1;subst this;simp only;cases h2:Nat.beq j k with
  |true=>exact Nat.eq_of_beq_eq_true h2
  |false=>simp
 |false=>
  simp only;cases h2:Nat.beq k j with
  |true=>
   have:=Nat.eq_of_beq_eq_true h2;subst this;simp
  |false=>simp only[h1,h2]
omit [aM]in
theorem HQ{lo i j k:Nat}(hi:lo<=i)(hj:lo<=j)(hk:k<lo):mG i j k=k:=by
 unfold mG;have h1:Nat.beq k i=false:=Bool.eq_false_iff.2 λh=>by have:=Nat.eq_of_beq_eq_true h;omega
 have h2:Nat.beq k j=false:=Bool.eq_false_iff.2 λh=>by have:=Nat.eq_of_beq_eq_true h;omega
 rw[h1,h2]
omit [aM]in
theorem Kx{n i j k:Nat}(hi:i<n)(hj:j<n)(hk:k<n):mG i j k<n:=by
 unfold mG;split
 .exact hj
 split
 .exact hi
 exact hk
omit [aM]in
theorem Ky{bs:List af}{i j:Nat}{bi bj:af}(hi:bs[i]?=some bi)(hj:bs[j]?=some bj)(k:Nat):((bs.set i bj).set j bi)[k]?=bs[mG i j k]?:=by
 have qp:=(List.getElem?_eq_some_iff.1 hi).1;have ng:=(List.getElem?_eq_some_iff.1 hj).1;unfold mG;by_cases T6:k=j
 .subst T6
  rw[List.getElem?_set_self (by simpa using ng)];cases h1:Nat.beq k i with
  |true=>have:=Nat.eq_of_beq_eq_true h1;subst this;simp only;rw[hi]
  |false=>simp only[Nat.beq_refl];rw[hi]
 rw[List.getElem?_set_ne (Ne.symm T6)];by_cases Tj:k=i
 .subst Tj
  rw[List.getElem?_set_self qp];simp only[Nat.beq_refl];rw[hj]
 rw[List.getElem?_set_ne (Ne.symm Tj)];have h1:Nat.beq k i=false:=Bool.eq_false_iff.2 λh=>Tj (Nat.eq_of_beq_eq_true h);have h2:Nat.beq k j=false:=Bool.eq_false_iff.2 λh=>T6 (Nat.eq_of_beq_eq_true h);rw[h1,h2]
omit [aM]in
theorem xY{f:Nat->Nat}:∀{tm:List (Nat×D)}{t:Nat}{d:D},look (Ni f tm) t=some d->∃e,look tm t=some e/\d=eg f e
 |[],_,_,h=>by cases h
 |(k,e)::r,t,d,h=>by
  simp only[Ni,look]at h⊢;cases hk:Nat.beq k t with
  |true=>rw[hk]at h;cases h;exact⟨e,rfl,rfl⟩
  |false=>rw[hk]at h;exact xY h
theorem aac.swap(ak:cx.Ok){lo:Nat}(cY:cx.lo<=lo)(i j:Nat)(h:aac cx U N a w):aac cx (St.swap lo U i j) N a w:=by
 unfold St.swap;split
 .rename_i bi bj h1 h2 hi hj
  have h1:=Nat.le_of_ble_eq_true h1;have h2:=Nat.le_of_ble_eq_true h2;obtain⟨β,I,S,hs,ht⟩:=h;have qp:=(List.getElem?_eq_some_iff.1 hi).1;have ng:=(List.getElem?_eq_some_iff.1 hj).1;obtain⟨f,hf⟩:∃f,mG i j=f:=⟨_,rfl⟩;have TU:∀k,f (f k)=k:=λk=>by rw[<-hf];exact BU i j k
  have Vo:∀k,k<cx.lo->f k=k:=λk hk=>by rw[<-hf];exact HQ (by omega) (by omega) hk
  have cM:∀k,(((U.boxes.set i bj).set j bi).map (af.eg f))[k]?=(U.boxes[f k]?).map (af.eg f):=λk=>by
   rw[List.getElem?_map,Ky hi hj,hf]
  have Vp:∀k b,β k=some b->(λk=>β (f k)) (f k)=some b:=λk b hb=>by show β (f (f k))=some b;rw[TU];exact hb
  rw[hf];refine⟨λk=>β (f k),I,S,{hs with tm:=?_,bx:=?_,apart:=?_,own:=?_,clear:=?_,nt:=λB hB=>hs.nt B (hB.imp id λ⟨k,b,h1,h2⟩=>⟨f k,b,h1,h2⟩),j:=hs.j,gh:=?_,qw:=?_},?_⟩
  .intro t d hV hl
   obtain⟨e,he,rfl⟩:=xY hl;obtain⟨v,hv,hr⟩:=hs.tm t e hV he;exact⟨v,hv,hr.eg Vp⟩
  .intro k b hb
   obtain⟨box,h3,h4⟩:=hs.bx (f k) b hb;refine⟨box.eg f,?_,h4.eg Vp⟩;show(((U.boxes.set i bj).set j bi).map (af.eg f))[k]?=_;rw[cM,h3];rfl
  .intro k l b c R hb hc hR dh
   have:=hs.apart (f k) (f l) b c R hb hc hR dh;rw[<-TU k,<-TU l,this]
  .intro k b R hb hR
   exact hs.own (f k) b R hb hR
  .intro k b R box hb hR aN ph off
   have aN:(((U.boxes.set i bj).set j bi).map (af.eg f))[k]?=some box:=aN;rw[cM]at aN;cases jQ:U.boxes[f k]? with
   |none=>rw[jQ]at aN;cases aN
   |some b2=>
    rw[jQ]at aN;cases aN;exact hs.clear (f k) b R b2 hb hR jQ (by cases b2<;>exact ph) off
  .intro v d hg
   refine((hs.gh v d hg).ue cx.lo (ak.g v d hg)).mono I.le_refl λk b hb=>?_;unfold eY at hb;split at hb
   .rename_i hk
    exact⟨b,by show β (f k)=some b;rw[Vo k hk];exact hb,.inl rfl⟩
   cases hb
  .intro k b hb
   obtain⟨b',h3,h4⟩:=hs.qw k b hb;exact⟨b',by show β (f k)=some b';rw[Vo k (ak.b k b hb)];exact h3,h4⟩
  intro k hk;have hk:k<(((U.boxes.set i bj).set j bi).map (af.eg f)).length:=hk;simp only[List.length_map,List.length_set]at hk;exact ht (f k) (by rw[<-hf];exact Kx qp ng hk)
 exact h
theorem aac.rO(ak:cx.Ok){lo:Nat}(cY:cx.lo<=lo):∀(vs:List (Pl×Nat)){U:St},aac cx U N a w->aac cx (U.rO lo vs) N a w
 |[],_,h=>h
 |(.slot _,_)::r,_,h=>aac.rO ak cY r h
 |(.cell _ _,_)::r,_,h=>aac.rO ak cY r h
 |(.swap i j,_)::r,_,h=>aac.rO ak cY r (aac.swap ak cY i j h)
 |(.free,_)::r,_,h=>aac.rO ak cY r h
 |(.rN _,_)::r,_,h=>aac.rO ak cY r h
 |(.uW t,sz)::r,U,h=>by
  unfold St.rO;split
  .rename_i hl
   refine aac.rO ak cY r ?_;obtain⟨β,I,S,hs,ht⟩:=h;refine⟨β,I,S,{hs with tm:=λu d hV he=>?_,sz:=hs.sz,bx:=hs.bx,clear:=hs.clear,j:=hs.j,marks:=hs.marks,ep:=hs.ep,dn:=hs.dn,nd:=hs.nd},ht⟩;rcases kB hl he with⟨rfl,rfl⟩|he
   .obtain⟨v,hv,hr⟩:=hs.tm u _ trivial hl
    cases hr;exact⟨_,hv,.dj _ _ _⟩
   exact hs.tm u d hV he
  .rename_i i g off len hl
   split
   .rename_i d' gq
    refine aac.rO ak cY r ?_;obtain⟨β,I,S,hs,ht⟩:=h;have h1:=hs.share [i];refine⟨β,bQ [i] β w I,S,{h1 with tm:=λu d hV he=>?_,sz:=h1.sz,bx:=h1.bx,clear:=h1.clear,j:=h1.j,marks:=h1.marks,ep:=h1.ep,dn:=h1.dn,nd:=h1.nd},λj hj=>ht j (by simpa[aO]using hj)⟩;rcases kB hl he with⟨rfl,rfl⟩|he
    .obtain⟨v,hv,hr⟩:=hs.tm u _ trivial hl
     exact⟨v,hv,(jk hs.agree hs.bx hs.Jc [i] fuel hr gq (λj hj=>by simpa[aF,fuel]using hj)).mono (aW.le_refl _) (nA β)⟩
    exact h1.tm u d hV he
   exact aac.rO ak cY r h
  exact aac.rO ak cY r h
theorem aac.cl(ak:cx.Ok){lo:Nat}(cY:cx.lo<=lo){vs:List (Pl×Nat)}{aE:List Nat}{nb:Nat}(JC:cx.lo<=nb)(hg:U.gd lo vs aE nb)(h:aac cx U N a w):aac cx (U.cl lo vs aE nb) N a w:=by
 unfold St.gd at hg;unfold St.cl;split
 .obtain⟨β,I,S,hs,ht⟩:=h
  exact⟨β,I,S,{hs with tm:=λt d hV hl=>hs.tm t d hV (iU hl),bx:=hs.bx,clear:=hs.clear,j:=hs.j},ht⟩
 rename_i eh;have hg:((U.rO lo vs).clean aE nb).qu nb:=by
  split at hg
  .exact(eh _ _ rfl).elim
  exact hg
 exact(aac.rO ak cY vs h).clean ak JC hg
omit [aM]in
theorem nS:∀(ps:List Nat)(vs:List Value)(ds:List D)(tm:List (Nat×D))(tmps:Array Value),vs.length=ds.length->(∀p∈ps,p<tmps.size)->(∀(i:Nat)(v:Value)(d:D),vs[i]?=some v->ds[i]?=some d->Rel I β v d)->
    (∀t d,look tm t=some d->∃v,tmps[t]?=some v/\Rel I β v d)->
    ((ps.zip vs).foldl (λtmps(p,v)=>tmps.setIfInBounds p v) tmps).size=tmps.size/\
    ∀t d,look (dL ps ds tm) t=some d->∃v,((ps.zip vs).foldl (λtmps(p,v)=>tmps.setIfInBounds p v) tmps)[t]?=some v/\Rel I β v d
  |[],vs,ds,tm,tmps,_,_,_,fZ=>by simp[dL];exact fZ
  |p::ps,[],ds,tm,tmps,hl,_,_,fZ=>by
   have:ds=[]:=List.eq_nil_of_length_eq_zero (by simpa using hl.symm);subst this;simp[dL];exact fZ
  |p::ps,v::vs,[],tm,tmps,hl,_,_,fZ=>by simp at hl
  |p::ps,v::vs,d::ds,tm,tmps,hl,hp,hr,fZ=>by
   have ih:=nS ps vs ds ((p,d)::tm) (tmps.setIfInBounds p v) (by simpa using hl) (λq hq=>by simpa using hp q (by simp[hq])) (λi u e hu he=>hr (i+1) u e (by simpa using hu) (by simpa using he)) (by
    intro t e he;simp only[look]at he;cases hb:Nat.beq p t with
    |true=>
     rw[hb]at he;cases he;obtain rfl:=Nat.eq_of_beq_eq_true hb;exact⟨v,by simp[hp p (by simp)],hr 0 v d rfl rfl⟩
    |false=>
     rw[hb]at he;obtain⟨x,hx,AY⟩:=fZ t e he;have eh:p≠t:=λe=>by subst e;simp at hb
     exact⟨x,by rw[Array.getElem?_setIfInBounds_ne eh];exact hx,AY⟩)
   simp only[List.zip_cons_cons,List.foldl_cons,dL];refine⟨by rw[ih.1];simp,ih.2⟩
def Cx.inRound(cx:Cx)(X:Nat->Prop)(wX:World)(I0:aW)(G:Value->D->Prop)(nb:Nat)(bb:BE):Cx where
 dP:=cx.dP
 Fr:=cx.Fr
 J:=λy Sx w=>∃S,cx.J y S w/\(∀k,Sx k↔(S k\/X k))/\(∀k,S k->¬X k)/\(∀k,X k->k<wX.heap.size)/\aB X wX w/\(∀B off v,I0 B off=some v->¬cx.dP B->¬S B)
 I0:=I0
 G:=G
 lo:=nb
 b0:=bb
 sV:=λ_=>False
variable{X:Nat->Prop}{wX:World}{I0:aW}{G:Value->D->Prop}{nb:Nat}{bb:BE}
theorem Cx.vP(ak:cx.Ok)(uv:cx.I0.le I0)(hold:∀B off,cx.dP B->I0 B off=cx.I0 B off)(hG:∀v d,G v d->en nb d=true)(hb:∀i b,bb i=some b->i<nb):(cx.inRound X wX I0 G nb bb).Ok where
 gl:=aW.le_trans ak.gl uv
 fr:=λ_ _ h k=>ak.fr _ _ h (k.mono λB hB=>⟨hB.1,λ⟨c,hc⟩=>hB.2 ⟨c,(hold B _ hB.1).symm.trans hc⟩⟩)
 j:=λ_ _ _ _⟨S,h1,h2,h3,h4,h5,h6⟩ k=>⟨S,ak.j _ _ _ _ h1 (k.mono λB hB=>(h2 B).2 (.inl hB)),h2,h3,h4,h5.trans (k.mono λB hB=>(h2 B).2 (.inr hB)),h6⟩
 g:=hG
 b:=hb
 d:=λ_ h=>h.elim
omit [aM]in
theorem Cx.inRound_round{l:Nat}(hX:X l){r:Loop}(hl:wX.heap[l]?=some (.loop r)):qQ (Fence.wide.inRound l) (cx.inRound X wX I0 G nb bb):=by
 rintro l' y Sx w JG⟨S,_,_,_,_,h5,_⟩;simp at JG;subst JG;exact⟨r,(h5.block l hX).trans hl⟩
omit [aM]in
theorem Cx.pz(hy:bB P cx)(uv:cx.I0.le I0)(hold:∀B off,cx.dP B->I0 B off=cx.I0 B off)(YL:∀k,X k->¬(cx.dP k/\Mem cx.I0 k)):bB P (cx.inRound X wX I0 G nb bb):=by
 rintro l x r Sx w I vs Gv⟨S,h1,h2,h3,h4,h5,h6⟩ Bm gT AN hS vz aq;have hGv:=aq.out;obtain⟨f,tmps,assign,body,aP,kr⟩:=hy l x r S w I vs Gv h1 Bm (gT.of_le uv) AN (λB hB=>hS B ((h2 B).2 (.inl hB))) vz (aq.sub (λB h=>h) (λB h=>(h2 B).2 (.inl h)) uv λB off v h=>by
  rcases h with⟨ho,hv⟩|⟨ho,hs⟩
  .exact .inl ⟨ho,(hold B off ho).symm.trans hv⟩
  exact .inr ⟨ho,λh=>hs ((h2 B).2 (.inl h))⟩)
 refine⟨f,tmps,assign,body,aP,kr.mono ?_⟩;rintro e w'⟨b,QT,rfl,hj,hk,gu,ta,vA,zj⟩;have JZ:∀k,X k->k<w.heap.size/\¬(cx.dP k/\Mem cx.I0 k)/\¬S k/\¬Gv k:=λk hk=>⟨hS k ((h2 k).2 (.inr hk)),YL k hk,λhs=>h3 k hs hk,λhg=>(hGv k hg).2.1 ((h2 k).2 (.inr hk))⟩;have U7:∀B off v,I0 B off=some v->¬cx.dP B->¬Gv B:=λB off v hv hB hg=>by
  have h:I0 B off=none:=(hGv B hg).2.2 off;rw[h]at hv;cases hv
 refine⟨b,λk=>QT k\/X k,rfl,⟨QT,hj,λk=>Iff.rfl,?_,h4,h5.trans (hk.mono JZ),?_⟩,hk.mono λk bF=>⟨bF.1,λ⟨ho,c,hc⟩=>bF.2.1 ⟨ho,c,uv _ _ _ hc⟩,λhs=>bF.2.2.1 ((h2 k).2 (.inl hs)),bF.2.2.2⟩,?_,?_,?_,zj⟩
 .intro k bF hx
  rcases gu k bF with h|h|h
  .exact h3 k h hx
  .have:=(JZ k hx).1;omega
  exact(JZ k hx).2.2.2 h
 .intro B off v hv hB hs
  rcases gu B hs with h|h|h
  .exact h6 B off v hv hB h
  .have:=cy (gT B off v hv);omega
  exact U7 B off v hv hB h
 .rintro B(hB|hB)
  .rcases gu B hB with h|h|h
   .exact .inl ((h2 B).2 (.inl h))
   .exact .inr (.inl h)
   exact .inr (.inr h)
  exact .inl ((h2 B).2 (.inr hB))
 .rintro B(hB|hB)
  .exact ta B hB
  exact Nat.lt_of_lt_of_le (JZ B hB).1 hk.size
 refine⟨λB off v hv=>?_,gT.ex⟩;by_cases hB:cx.dP B
 .exact vA B off v (by rw[<-hold B off hB];exact hv)
 have h7:=gT B off v hv;rw[hk.cell ⟨cy h7,λho=>hB ho.1,h6 B off v hv hB,U7 B off v hv hB⟩];exact h7
omit [aM]in
theorem p4{F:Fence}(hR:∀l,F.round=some l->∃r,w.heap[l]?=some (.loop r))(fn:FuncId)(tmps:Array Value)(ps:Array Tmp)(assign body:Code):
    ∃l mark w1 D,(Instr.enterLoop fn tmps ps assign body F.round).run P w=.ok (l,mark) w1/\aB (·<w.heap.size) w w1/\w.heap.size<=l/\
     w1.heap[l]?=some (.loop {state:=.ready,pending:=none,fn,tmps,params:=ps,assign,body,defers:=D})/\
     (mark.Pairwise λd d'=>d.target≠d'.target)/\∀d∈mark,∃R,d={target:=.collected R,args:=#[]}/\w1.heap[R]?=some (.deferred (some []))/\w.heap.size<=R:=by
  cases hF:F.round with
  |none=>
   refine⟨_,_,_,w.heap.size,run_enterLoop_outer fn tmps ps assign body,?_,Nat.le_succ _,?_,List.pairwise_singleton _ _,?_⟩
   .exact(aB.alloc w _).trans ((aB.alloc _ _).mono λB hB=>by simp;omega)
   .have:=World.alloc_heap_new (w.alloc (.deferred (some []))) (.loop {state:=.ready,pending:=none,fn,tmps,params:=ps,assign,body,defers:=w.heap.size})
    rwa[World.size_alloc]at this
   intro d hd;simp at hd;refine⟨w.heap.size,hd,?_,Nat.le_refl _⟩;exact(Below.heap_alloc _ _ _ (by simp)).trans (World.alloc_heap_new w _)
  |some l=>
   obtain⟨r,hr⟩:=hR l hF;refine⟨_,_,_,r.defers,run_enterLoop_inner hr fn tmps ps assign body,aB.alloc w _,Nat.le_refl _,World.alloc_heap_new w _,.nil,λd hd=>by simp at hd⟩
end
end Go.V
namespace Go.V
open Go.RowKit
section
variable{P:Program}[aM]{sh:er}{ish:Nat->Bool}{T:Nat->Option TI}{cx:Cx}{V:Nat->Prop}{U:St}{β:BE}{I:aW}{S:Nat->Prop}{N:Nat}{a:Act}{w:World}
def M7[aM](P:Program)(sh:er)(ish:Nat->Bool)(T:Nat->Option TI)(N:Nat)(c:Code):Prop:=
 ∀(lo:Nat)(U:St)(Q:Ex->St->Prop)(cx:Cx)(F:Fence)(n:Nat)(a:Act)(w:World),W T (CD P sh) (nc P ish) lo c U Q->FW F->cx.Ok->qQ F cx->bB P cx->cx.lo<=lo->aac cx U N a w->c.wpIn F n P (qP cx N Q) a w
omit [aM]in
theorem Ga(nb:Nat)(β:BE):(eY nb β).le β:=λi b h=>by
 unfold eY at h;split at h
 .exact⟨b,h,.inl rfl⟩
 cases h
omit [aM]in
theorem zx{nb:Nat}{β:BE}{i:Nat}{b:BI}(h:eY nb β i=some b):i<nb:=by
 unfold eY at h;split at h
 .assumption
 cases h
theorem bf.Gb(ak:cx.Ok)(h:bf cx (λ_=>True) U β I S N a w){I1:aW}{S':Nat->Prop}(hd:Rb cx β I S a I1 S'){l:Nat}{r:Loop}(hl:w.heap[l]?=some (.loop r))(M8:¬S l)
    {X:Nat->Prop}(hX:∀k,X k↔((k<w.heap.size/\¬S' k/\¬Mem I1 k)\/k=l\/∃d∈a.defers,d.target=.collected k)){G:Value->D->Prop}(hG:∀v d,G v d->Rel I β v d){nb:Nat}
    {tm:List (Nat×D)}{tmps:Array Value}(dQ:tmps.size=N)(fZ:∀t d,look tm t=some d->∃v,tmps[t]?=some v/\Rel I β v d):
    bf (cx.inRound X w I G nb (eY nb β)) (λ_=>True) ⟨tm,U.boxes,U.y⟩ β I (λk=>S k\/X k) N {tmps:=tmps,defers:=[]} w:=by
  have Kz:=bo hl;have KA:∀{B off:Nat}{v:Value},I B off=some v->¬X B:=λ{B off v} hv hx=>by
   have hc:=h.agree B off v hv;rcases(hX B).1 hx with h1|h1|⟨d,h1,h2⟩
   .exact h1.2.1 (hd.im B off v hv h1.2.2)
   .exact BS hl hc h1
   obtain⟨R,e,h3,_⟩:=h.marks d h1 (λhD=>ak.d _ hD _ h2);rw[e]at h2;cases h2;exact se h3 hc rfl
  have Vq:∀{i b R},β i=some b->b.R=some R->¬X R:=λ{i b R} hb hR hx=>by
   obtain⟨_,_,h2⟩:=h.bx i b hb;obtain⟨_,eX,hh⟩:=h2.lt hR;rcases(hX R).1 hx with h1|h1|⟨d,h1,h3⟩
   .exact h1.2.1 (hd.bx i b R hb hR)
   .rw[h1,hl]at hh;cases hh;exact Bool.noConfusion eX
   obtain⟨R',e,h4,_⟩:=h.marks d h1 (λhD=>ak.d _ hD _ h3);rw[e]at h3;cases h3;rw[hh]at h4;cases h4;exact Bool.noConfusion eX
  have TW:∀k,S k->¬X k:=λk hk hx=>by
   rcases(hX k).1 hx with h1|h1|⟨d,h1,h3⟩
   .exact h1.2.1 (hd.ss k hk)
   .exact M8 (h1▸hk)
   obtain⟨R',e,_,_,h4⟩:=h.marks d h1 (λhD=>ak.d _ hD _ h3);rw[e]at h3;cases h3;exact h4 hk
  have Z7:∀k,X k->k<w.heap.size:=λk hk=>by
   rcases(hX k).1 hk with h1|h1|⟨d,h1,h3⟩
   .exact h1.1
   .exact h1▸Kz
   obtain⟨R',e,h4,_⟩:=h.marks d h1 (λhD=>ak.d _ hD _ h3);rw[e]at h3;cases h3;exact bo h4
  refine{h with tm:=λt d _ hl=>fZ t d hl,sz:=dQ,own:=?_,I0:=aW.le_refl _,fV:=λ_ _ _=>rfl,j:=⟨S,h.j,λk=>Iff.rfl,TW,Z7,aB.refl _ _,?_⟩,sb:=?_,sI:=?_,nt:=?_,gh:=hG,qw:=Ga nb β,ep:=λ_ h=>h.elim,dn:=λ_ h=>h.elim,marks:=(λd hd=>by cases hd),nd:=.nil,bx:=h.bx,clear:=h.clear}
  .intro i b R hb hR
   exact⟨(h.own i b R hb hR).1,λhs=>hs.elim (h.own i b R hb hR).2 (Vq hb hR)⟩
  .intro B off v hv hB
   exact h.sI B off v hv hB
  .rintro B(hB|hB)
   .exact h.sb B hB
   exact Z7 B hB
  .intro B off v hv hB hs
   exact hs.elim (h.sI B off v hv hB) (KA hv)
  rintro B((hB|hB)|hB)
  .exact h.nt B (.inl hB)
  .rintro⟨c,hc⟩;exact KA hc hB
  exact h.nt B (.inr hB)
theorem bf.busy{X:Nat->Prop}{wX:World}{I0:aW}{G:Value->D->Prop}{nb:Nat}{bb:BE}(ak:cx.Ok)(h:bf (cx.inRound X wX I0 G nb bb) V U β I S N a w){l:Nat}(hX:X l)(hn:¬cx.dP l)(o:Obj):
    bf (cx.inRound X (w.putObj l o) I0 G nb bb) V U β I S N a (w.putObj l o):=by
  obtain⟨S₀,h1,h2,h3,h4,h5,h6⟩:=h.j;have eh:∀{k},¬S k->k≠l:=λhk e=>hk ((h2 _).2 (.inr (e▸hX)));have ca:∀{B off v},I B off=some v->B≠l:=λ{B off v} hv e=>by
   by_cases hB:cx.dP B
   .exact hn (e▸hB)
   exact h.sI B off v hv hB ((h2 B).2 (.inr (e▸hX)))
  have k:=jo w l o;refine{h with agree:=⟨λB off v hv=>?_,h.agree.ex⟩,bx:=λi b hb=>?_,fr:=ak.fr _ _ h.fr (k.mono λB hB e=>hn (e▸hB.1)),n0:=λB hB=>Nat.lt_of_lt_of_le (h.n0 B hB) k.size,j:=?_,sb:=λB hB=>Nat.lt_of_lt_of_le (h.sb B hB) k.size,marks:=?_}
  .rw[k.cell (ca hv)];exact h.agree B off v hv
  .obtain⟨box,h7,h8⟩:=h.bx i b hb
   refine⟨box,h7,h8.mono I.le_refl (BE.le_refl β) λR hR=>k.block R ?_⟩;rcases hR with hR|hR
   .exact eh (h.own i b R hb hR).2
   cases box with
   |aJ=>obtain⟨bm,h9,tp⟩:=hR;exact eh (h.own _ bm R h9 tp).2
   |_=>exact hR.elim
  .exact⟨S₀,ak.j _ _ _ _ h1 (k.mono λB hB e=>h3 B hB (e▸hX)),h2,h3,λj hj=>Nat.lt_of_lt_of_le (Nat.lt_of_lt_of_le (h4 j hj) h5.size) k.size,aB.refl _ _,h6⟩
  intro d hd hD;obtain⟨R,e,h7,h8,h9⟩:=h.marks d hd hD;exact⟨R,e,(k.block R (eh h9)).trans h7,h8,h9⟩
theorem bf.HR{X:Nat->Prop}{wX:World}{I1:aW}{G:Value->D->Prop}{nb:Nat}{bb:BE}(Qx:cx.b0.le bb)(ak:cx.Ok){a₂:Act}(h:bf (cx.inRound X wX I1 G nb bb) (λ_=>True) U β I S N a₂ w){l:Nat}(KB:X l)(hn:¬cx.dP l)(o:Obj)
    (uv:cx.I0.le I1)(hold:∀B off,cx.dP B->I1 B off=cx.I0 B off)(hG:∀v d,cx.G v d->G v d){tm:List (Nat×D)}(dQ:a.tmps.size=N)(fZ:∀t d,look tm t=some d->∃v,a.tmps[t]?=some v/\G v d)
    (PF:a.defers.Pairwise λd d'=>d.target≠d'.target)(YM:∀d,cx.sV d->d∈a.defers)(hm:∀d∈a.defers,¬cx.sV d->∃R,d={target:=.collected R,args:=#[]}/\wX.heap[R]?=some (.deferred (some []))/\¬cx.dP R/\X R/\R≠l):
    ∃S₂,bf cx (λ_=>True) ⟨tm,U.boxes,U.y⟩ β I S₂ N a (w.putObj l o)/\¬S₂ l/\(∀k,S k↔(S₂ k\/X k))/\(∀k,S₂ k->¬X k)/\aB X wX w:=by
  obtain⟨S₀,h1,h2,h3,h4,h5,h6⟩:=h.j;have eh:∀{k},¬S k->k≠l:=λhk e=>hk ((h2 _).2 (.inr (e▸KB)));have ca:∀{B off v},I B off=some v->B≠l:=λ{B off v} hv e=>by
   by_cases hB:cx.dP B
   .exact hn (e▸hB)
   exact h.sI B off v hv hB ((h2 B).2 (.inr (e▸KB)))
  have k:=jo w l o;refine⟨S₀,{h with tm:=?_,sz:=dQ,agree:=⟨λB off v hv=>?_,h.agree.ex⟩,bx:=λi b hb=>?_,own:=?_,clear:=h.clear,fr:=ak.fr _ _ h.fr (k.mono λB hB e=>hn (e▸hB.1)),n0:=λB hB=>Nat.lt_of_lt_of_le (h.n0 B hB) k.size,I0:=aW.le_trans uv h.I0,fV:=?_,j:=ak.j _ _ _ _ h1 (k.mono λB hB e=>h3 B hB (e▸KB)),sb:=?_,sI:=?_,nt:=λB hB=>h.nt B (hB.imp (λhs=>(h2 B).2 (.inl hs)) id),gh:=λv d hg=>h.gh v d (hG v d hg),qw:=BE.le_trans Qx h.qw,nd:=PF,ep:=YM,dn:=ak.d,marks:=?_},λhs=>h3 l hs KB,h2,h3,h5⟩
  .intro t d _ hl
   obtain⟨v,hv,hg⟩:=fZ t d hl;exact⟨v,hv,h.gh v d hg⟩
  .rw[k.cell (ca hv)];exact h.agree B off v hv
  .obtain⟨box,h7,h8⟩:=h.bx i b hb
   refine⟨box,h7,h8.mono I.le_refl (BE.le_refl β) λR hR=>k.block R ?_⟩;rcases hR with hR|hR
   .exact eh (h.own i b R hb hR).2
   cases box with
   |aJ=>obtain⟨bm,h9,tp⟩:=hR;exact eh (h.own _ bm R h9 tp).2
   |_=>exact hR.elim
  .intro i b R hb hR
   exact⟨(h.own i b R hb hR).1,λhs=>(h.own i b R hb hR).2 ((h2 R).2 (.inl hs))⟩
  .intro B off hB
   exact(h.fV B off hB).trans (hold B off hB)
  .intro B hB
   exact Nat.lt_of_lt_of_le (h.sb B ((h2 B).2 (.inl hB))) k.size
  .intro B off v hv hB hs
   exact h.sI B off v hv hB ((h2 B).2 (.inl hs))
  intro d hd hD;obtain⟨R,e,h7,h8,h9,tp⟩:=hm d hd hD;exact⟨R,e,(k.block R tp).trans ((h5.block R h9).trans h7),h8,λhs=>h3 R hs h9⟩
omit [aM]in
theorem bf.Vr(h:bf cx V U β I S N a w){R:Nat}{es:Array MapEntry}{clock:Nat}{ks us:List D}(hR:w.heap[R]?=some (.map es clock))(hc:∀e∈es.toList,e.born<clock)(hm:fo I es.toList ks us)(ho:¬cx.dP R)(hS:¬S R)
    (hb:∀i b,β i=some b->b.R≠some R)(hI:∀off,I R off=none)(hn:β U.boxes.length=none):
    bf cx V ⟨U.tmps,U.boxes++[.map false ks us],U.y⟩ (λi=>if i=U.boxes.length then some ⟨some R,true,0,0,0,0,0⟩else β i) I S N a w/\β.le (λi=>if i=U.boxes.length then some ⟨some R,true,0,0,0,0,0⟩else β i):=by
  have hle:β.le (λi=>if i=U.boxes.length then some ⟨some R,true,0,0,0,0,0⟩else β i):=by
   intro i b' hb;have:i≠U.boxes.length:=λe=>by subst e;rw[hn]at hb;cases hb
   exact⟨b',by simp[this,hb],.inl rfl⟩
  have bG:∀{i:Nat}{b':BI},(if i=U.boxes.length then some ⟨some R,true,0,0,0,0,0⟩else β i)=some b'->(i=U.boxes.length/\b'=⟨some R,true,0,0,0,0,0⟩)\/(i≠U.boxes.length/\β i=some b'):=by
   intro i b' hb;by_cases hi:i=U.boxes.length
   .rw[if_pos hi]at hb;cases hb;exact .inl ⟨hi,rfl⟩
   rw[if_neg hi]at hb;exact .inr ⟨hi,hb⟩
  have hlen:∀{i b},β i=some b->i<U.boxes.length:=λ{i b} hb=>by
   obtain⟨box,h1,_⟩:=h.bx i b hb;exact(List.getElem?_eq_some_iff.1 h1).1
  refine⟨{h with tm:=?_,bx:=?_,apart:=?_,own:=?_,clear:=?_,nt:=?_,j:=h.j,gh:=λv d hg=>(h.gh v d hg).mono I.le_refl hle,qw:=BE.le_trans h.qw hle},hle⟩
  .intro t e hV he
   obtain⟨u,hu,Nz⟩:=h.tm t e hV he;exact⟨u,hu,Nz.mono I.le_refl hle⟩
  .intro i b' hb
   rcases bG hb with⟨rfl,rfl⟩|⟨_,hb⟩
   .exact⟨.map false ks us,by simp,rfl,R,es,clock,rfl,hR,hc,hm⟩
   obtain⟨box,h1,h2⟩:=h.bx i b' hb;exact⟨box,(List.getElem?_append_left (hlen hb)).trans h1,h2.mono I.le_refl hle λR _=>rfl⟩
  .intro i j b1 b2 R' h1 h2 Bk AL
   rcases bG h1 with⟨e1,Hf⟩|⟨hi,g1⟩<;>rcases bG h2 with⟨e2,JA⟩|⟨hj,g2⟩
   .rw[e1,e2]
   .subst Hf;cases Bk
    exact absurd AL (hb _ _ g2)
   .subst JA;cases AL
    exact absurd Bk (hb _ _ g1)
   exact h.apart i j b1 b2 R' g1 g2 Bk AL
  .intro i b' R' eW qD
   rcases bG eW with⟨rfl,rfl⟩|⟨_,eW⟩
   .cases qD
    exact⟨ho,hS⟩
   exact h.own i b' R' eW qD
  .intro i b' R' box eW qD aN hf off
   rcases bG eW with⟨rfl,rfl⟩|⟨_,eW⟩
   .cases qD
    exact hI off
   exact h.clear i b' R' box eW qD ((List.getElem?_append_left (hlen eW)).symm.trans aN) hf off
  rintro B(hB|⟨i,b',eW,qD⟩)
  .exact h.nt B (.inl hB)
  rcases bG eW with⟨rfl,rfl⟩|⟨_,eW⟩
  .cases qD
   rintro⟨c,hc⟩;rw[hI]at hc;cases hc
  exact h.nt B (.inr ⟨i,b',eW,qD⟩)
omit [aM]in
theorem o9.len{dP S:Nat->Prop}{I0:aW}{vs:List Value}{x:List D}{G:Nat->Prop}(h:o9 dP S I0 I w vs x G):vs.length=x.length:=by
 cases h with
 |plain vs x h _=>exact h.1
 |DQ=>rfl
omit [aM]in
theorem Er{ps:List Nat}{x:List D}{tm:List (Nat×D)}{bs:List af}{y:eG}{I:aW}{β:BE}{vs:List Value}(h:bn I β vs x):Jn ps x tm bs y=⟨dL ps x tm,bs,y⟩:=by
 unfold Jn;split
 .obtain⟨v,oz,_,h1,_⟩:=h.cons_inv
  cases h1
 rfl
omit [aM]in
theorem HS{x:List D}{I:aW}{β:BE}{vs:List Value}(h:bn I β vs x)(hy:O7 x=true):bT x=true:=by
 unfold O7 at hy;split at hy
 .obtain⟨v,oz,_,h1,_⟩:=h.cons_inv
  cases h1
 exact hy
omit [aM]in
theorem fo.fX{I I':aW}{es:List MapEntry}{ks us:List D}(h:fo I es ks us)(hk:bT ks=true)(hu:bT us=true):fo I' es ks us:=
 ⟨h.born,h.kl,h.vl,λi e d he hd=>(h.k i e d he hd).fX (cZ hk hd),λi e d he hd=>(h.v i e d he hd).fX (cZ hu hd)⟩
def RJ0(bK:BE)(cx:Cx)(U:St)(N:Nat)(xs:List (List D))(Inv:Nat->List af->eG->Prop)(Q:Ex->St->Prop)(rec:LoopState->Option Code->Loop)(l:Nat)(I1:aW)(a:Act)(y':eG)(S':Nat->Prop)(w:World):Prop:=
 ∃bs y β I S st pe,I1.le I/\bf cx (λ_=>True) ⟨U.tmps,bs,y⟩ β I S N a w/\(∀i,i<bs.length->(β i).isSome=true)/\bK.le β/\¬S l/\Rb cx β I S a I1 S'/\S' l/\w.heap[l]?=some (.loop (rec st pe))/\
  ((∃i,y'=.rem l (xs.drop i)/\i<=xs.length/\Inv i bs y/\st=.ready/\pe=none)\/
   (y'=.gk/\st=.done/\∃c,pe=some c/\((c=.ret/\Q .ret ⟨U.tmps,bs,y⟩)\/∃id,c=.exit id/\Q (.exit id) ⟨U.tmps,bs,y⟩)))
def RJ(bK:BE)(cx:Cx)(U:St)(N:Nat)(xs:List (List D))(Inv:Nat->List af->eG->Prop)(Q:Ex->St->Prop)(rec:LoopState->Option Code->Loop)(l:Nat)(I1:aW)(a:Act)(y':eG)(S':Nat->Prop)(w:World):Prop:=
 ∃w0,RJ0 bK cx U N xs Inv Q rec l I1 a y' S' w0/\aB S' w0 w
omit [aM]in
theorem RJ.aE{bK:BE}{xs:List (List D)}{Inv:Nat->List af->eG->Prop}{Q:Ex->St->Prop}{rec:LoopState->Option Code->Loop}{l:Nat}{I1:aW}{y:eG}{S':Nat->Prop}{w w':World}
    (h:RJ bK cx U N xs Inv Q rec l I1 a y S' w)(k:aB S' w w'):RJ bK cx U N xs Inv Q rec l I1 a y S' w':=let⟨w0,h1,h2⟩:=h;⟨w0,h1,h2.trans k⟩
theorem RJ.now{bK:BE}{xs:List (List D)}{Inv:Nat->List af->eG->Prop}{Q:Ex->St->Prop}{rec:LoopState->Option Code->Loop}{l:Nat}{I1:aW}(ak:cx.Ok){y:eG}{S':Nat->Prop}{w:World}
    (h:RJ bK cx U N xs Inv Q rec l I1 a y S' w)(ha:bc I1 w):RJ0 bK cx U N xs Inv Q rec l I1 a y S' w:=by
  obtain⟨w0,⟨bs,y,β,I,S,st,pe,h1,h2,h3,hk,h4,h5,h6,h7,h8⟩,k⟩:=h;exact⟨bs,y,β,I,S,st,pe,h1,h2.F9 ak h5 k h1 ha,h3,hk,h4,h5,h6,(k.block l h6).trans h7,h8⟩
open Classical in
noncomputable def eb(Z:Nat->Prop)(Ip I:aW):aW:=λB off=>if Z B then Ip B off else I B off
omit [aM]in
theorem dO{Z:Nat->Prop}{Ip I:aW}{B:Nat}(h:Z B)(off:Nat):eb Z Ip I B off=Ip B off:=if_pos h
omit [aM]in
theorem bh{Z:Nat->Prop}{Ip I:aW}{B:Nat}(h:¬Z B)(off:Nat):eb Z Ip I B off=I B off:=if_neg h
omit [aM]in
theorem qT{Z:Nat->Prop}{Ip I:aW}(h:∀k off,Z k->I k off=none):I.le (eb Z Ip I):=λB off v hv=>by
 rw[bh λhz=>by rw[h B off hz]at hv;cases hv];exact hv
noncomputable def Cx.plus(cx:Cx)(Z:Nat->Prop)(Ip:aW)(wP:World):Cx where
 dP:=λk=>cx.dP k\/Z k
 Fr:=λw=>cx.Fr w/\aB Z wP w
 J:=λy S w=>cx.J y S w/\∀k,Z k->¬S k
 I0:=eb Z Ip cx.I0
 G:=cx.G
 lo:=cx.lo
 b0:=cx.b0
 sV:=cx.sV
section
variable{Z:Nat->Prop}{Ip:aW}{wP:World}
theorem Cx.NN(ak:cx.Ok)(Jh:∀k,Z k->¬cx.dP k)(Ji:∀k off,Z k->cx.I0 k off=none)(Vt:∀k,Z k->¬Mem Ip k):(cx.plus Z Ip wP).Ok where
 gl:=aW.le_trans ak.gl (qT Ji)
 fr:=λw w'⟨h1,h2⟩ k=>⟨ak.fr _ _ h1 (k.mono λB hB=>⟨.inl hB.1,λ⟨c,hc⟩=>hB.2 ⟨c,(bh (λhz=>Jh B hz hB.1) _).symm.trans hc⟩⟩),
  h2.trans (k.mono λB hB=>⟨.inr hB,λ⟨c,hc⟩=>Vt B hB ⟨c,(dO hB _).symm.trans hc⟩⟩)⟩
 j:=λ_ _ _ _⟨h1,h2⟩ k=>⟨ak.j _ _ _ _ h1 k,h2⟩
 g:=ak.g
 b:=ak.b
 d:=ak.d
omit [aM]in
theorem Cx.Es(hy:bB P cx)(Jh:∀k,Z k->¬cx.dP k)(Ji:∀k off,Z k->cx.I0 k off=none):bB P (cx.plus Z Ip wP):=by
 rintro l x r S w I vs G⟨h1,h2⟩⟨Bm,qn⟩ gT AN hS vz aq;have hG:=aq.out;have hle:cx.I0.le (eb Z Ip cx.I0):=qT Ji;obtain⟨f,tmps,assign,body,aP,kr⟩:=hy l x r S w I vs G h1 Bm (gT.of_le hle) (λk hk=>AN k (.inl hk)) hS vz (aq.sub (λB h=>.inl h) (λB h=>h) hle λB off v h=>by
  rcases h with⟨ho|hz,hv⟩|⟨ho,hs⟩
  .exact .inl ⟨ho,(bh (λhz=>Jh B hz ho) off).symm.trans hv⟩
  .exact .inr ⟨Jh B hz,h2 B hz⟩
  exact .inr ⟨λh=>ho (.inl h),hs⟩)
 refine⟨f,tmps,assign,body,aP,kr.mono ?_⟩;rintro e w'⟨b,QT,rfl,hj,hk,gu,ta,vA,zj⟩;have Vu:∀k,Z k->k<w.heap.size/\¬(cx.dP k/\Mem cx.I0 k)/\¬S k/\¬G k:=λk hz=>⟨AN k (.inr hz),λho=>Jh k hz ho.1,h2 k hz,λhg=>(hG k hg).1 (.inr hz)⟩;refine⟨b,QT,rfl,⟨hj,λk hz hs=>?_⟩,hk.mono λk bF=>⟨bF.1,λ⟨ho,c,hc⟩=>bF.2.1 ⟨.inl ho,c,hle _ _ _ hc⟩,bF.2.2⟩,gu,ta,?_,zj,qn.trans (hk.mono Vu)⟩
 .rcases gu k hs with h|h|h
  .exact(Vu k hz).2.2.1 h
  .have:=(Vu k hz).1;omega
  exact(Vu k hz).2.2.2 h
 refine⟨λB off v hv=>?_,gT.ex⟩;by_cases hz:Z B
 .rw[hk.cell (Vu B hz)];exact gT B off v hv
 exact vA B off v ((bh hz off).symm.trans hv)
omit [aM]in
theorem bf.aak(h:bf cx V U β I S N a w)(hIp:bc Ip w)(Rc:∀k,Z k->k<w.heap.size)(Ji:∀k off,Z k->I k off=none)(YN:∀k,Z k->¬S k)(Vv:∀i b R,β i=some b->b.R=some R->¬Z R)(YO:∀d∈a.defers,∀R,d.target=.collected R->¬Z R):
    bf (cx.plus Z Ip w) V U β (eb Z Ip I) S N a w:=
  have hle:I.le (eb Z Ip I):=qT Ji
  {tm:=λt d hV hl=>let⟨v,h1,h2⟩:=h.tm t d hV hl;⟨v,h1,h2.mono hle (BE.le_refl β)⟩
   sz:=h.sz
   agree:=⟨λB off v hv=>by
    by_cases hz:Z B
    .exact hIp B off v ((dO hz off).symm.trans hv)
    .exact h.agree B off v ((bh hz off).symm.trans hv),λB c h1 off v h2=>by
    by_cases hz:Z B
    .exact hIp.ex B c ((dO hz _).symm.trans h1) off v ((dO hz _).symm.trans h2)
    exact h.agree.ex B c ((bh hz _).symm.trans h1) off v ((bh hz _).symm.trans h2)⟩
   bx:=λi b hb=>let⟨box,h1,h2⟩:=h.bx i b hb;⟨box,h1,h2.mono hle (BE.le_refl β) λ_ _=>rfl⟩
   apart:=h.apart
   own:=λi b R hb hR=>⟨λho=>ho.elim (h.own i b R hb hR).1 (Vv i b R hb hR),(h.own i b R hb hR).2⟩
   clear:=λi b R box hb hR aN hf off=>(bh (Vv i b R hb hR) off).trans (h.clear i b R box hb hR aN hf off)
   fr:=⟨h.fr,aB.refl _ _⟩
   n0:=λk hk=>hk.elim (h.n0 k) (Rc k)
   I0:=λB off v hv=>by
    by_cases hz:Z B
    .exact(dO hz off).trans ((dO hz off).symm.trans hv)
    exact(bh hz off).trans (h.I0 B off v ((bh hz off).symm.trans hv))
   fV:=λB off hB=>by
    by_cases hz:Z B
    .exact(dO hz off).trans (dO hz off).symm
    exact(bh hz off).trans ((h.fV B off (hB.resolve_right hz)).trans (bh hz off).symm)
   j:=⟨h.j,YN⟩
   sb:=h.sb
   sI:=λB off v hv hB=>h.sI B off v ((bh (λhz=>hB (.inr hz)) off).symm.trans hv) λho=>hB (.inl ho)
   nt:=λB hB⟨c,hc⟩=>by
    have hz:¬Z B:=λhz=>hB.elim (YN B hz) λ⟨i,b,hb,hR⟩=>Vv i b B hb hR hz;exact h.nt B hB ⟨c,(bh hz _).symm.trans hc⟩
   gh:=λv d hg=>(h.gh v d hg).mono hle (BE.le_refl β)
   qw:=h.qw
   nd:=h.nd
   ep:=h.ep
   dn:=h.dn
   marks:=λd hd hD=>let⟨R,e,h1,h2,h3⟩:=h.marks d hd hD;⟨R,e,h1,λho=>ho.elim h2 (YO d hd R (by rw[e])),h3⟩}
omit [aM]in
theorem bf.aal(h:bf (cx.plus Z Ip wP) V U β I S N a w)(Jh:∀k,Z k->¬cx.dP k)(Ji:∀k off,Z k->cx.I0 k off=none){bs:List af}
    (fZ:∀t d,look U.tmps t=some d->∃v,a.tmps[t]?=some v/\Rel (eb Z (λ_ _=>none) I) β v d)(T7:∀v d,cx.G v d->Rel (eb Z (λ_ _=>none) I) β v d)
    (fp:∀(i:Nat)(b:BI)(box:af),β i=some b->U.boxes[i]?=some box->bA I β w b box->∃box',bs[i]?=some box'/\(box'.fz=false->box.fz=false)/\bA (eb Z (λ_ _=>none) I) β w b box'):
    bf cx V ⟨U.tmps,bs,U.y⟩ β (eb Z (λ_ _=>none) I) S N a w:=
  have dv:∀{B off v},eb Z (λ_ _=>none) I B off=some v->¬Z B/\I B off=some v:=λ{B off v} hv=>by
   by_cases hz:Z B
   .rw[dO hz]at hv;cases hv
   exact⟨hz,(bh hz off).symm.trans hv⟩
  {tm:=λt d _ hl=>fZ t d hl
   sz:=h.sz
   agree:=⟨λB off v hv=>h.agree B off v (dv hv).2,λB c h1 off v h2=>h.agree.ex B c (dv h1).2 off v (dv h2).2⟩
   bx:=λi b hb=>let⟨box,h1,h2⟩:=h.bx i b hb;let⟨box',h3,_,h4⟩:=fp i b box hb h1 h2;⟨box',h3,h4⟩
   apart:=h.apart
   own:=λi b R hb hR=>⟨λho=>(h.own i b R hb hR).1 (.inl ho),(h.own i b R hb hR).2⟩
   clear:=λi b R box hb hR aN hf off=>by
    obtain⟨D0,h1,h2⟩:=h.bx i b hb;obtain⟨box',h3,h4,_⟩:=fp i b D0 hb h1 h2;have aN:bs[i]?=some box:=aN;rw[h3]at aN;cases aN;have hn:=h.clear i b R D0 hb hR h1 (h4 hf) off;cases hv:eb Z (λ_ _=>none) I R off with
    |none=>rfl
    |some v=>rw[(dv hv).2]at hn;cases hn
   fr:=h.fr.1
   n0:=λk hk=>h.n0 k (.inl hk)
   I0:=λB off v hv=>by
    have hz:¬Z B:=λhz=>by rw[Ji B off hz]at hv;cases hv
    exact(bh hz off).trans (h.I0 B off v ((bh hz off).trans hv))
   fV:=λB off hB=>(bh (λhz=>Jh B hz hB) off).trans ((h.fV B off (.inl hB)).trans (bh (λhz=>Jh B hz hB) off))
   j:=h.j.1
   sb:=h.sb
   sI:=λB off v hv hB=>h.sI B off v (dv hv).2 λho=>ho.elim hB (dv hv).1
   nt:=λB hB⟨c,hc⟩=>h.nt B hB ⟨c,(dv hc).2⟩
   gh:=T7
   qw:=h.qw
   nd:=h.nd
   ep:=h.ep
   dn:=h.dn
   marks:=λd hd hD=>let⟨R,e,h1,h2,h3⟩:=h.marks d hd hD;⟨R,e,h1,λho=>h2 (.inl ho),h3⟩}
end
omit [aM]in
theorem Rel.two{I J I':aW}{β γ:BE}{v:Value}{d:D}(h:Rel I β v d):Rel J γ v d->I.le I'->Rel I' γ v d:=by
 have low:∀{v d},Rel I dM v d->I.le I'->Rel I' γ v d:=λh hI=>h.lift hI
 induction h with
 |eL v=>intros;exact .eL v
 |j7=>intros;exact .j7
 |tt=>intros;exact .tt
 |ff=>intros;exact .ff
 |bool b=>intros;exact .bool b
 |int k n=>intros;exact .int k n
 |str s=>intros;exact .str s
 |agg cs ds hl h1 _ ih=>intro h2 hI;cases h2 with|agg _ _ _ _ h3=>exact .agg cs ds hl h1 λi v d hv hd=>ih i v d hv hd (h3 i v d hv hd) hI
 |b9 cs ds hl _ ih=>intro h2 hI;cases h2 with|b9 _ _ _ h3=>exact .b9 cs ds hl λi v d hv hd=>ih i v d hv hd (h3 i v d hv hd) hI
 |cO=>intros;exact .cO
 |ro B off ds u a1 a2 a3=>intro _ hI;exact low (.ro B off ds u a1 a2 a3) hI
 |dj a cap sz=>intros;exact .dj a cap sz
 |list B off cap sz rows u a1 a2 a3 a4 a5=>intro _ hI;exact low (.list B off cap sz rows u a1 a2 a3 a4 a5) hI
 |ao a=>intros;exact .ao a
 |bR fn vs us ds es hl hm _ _ ih G7=>intro h2 hI;cases h2 with|bR _ _ _ _ _ _ _ h3 h4=>exact .bR fn vs us ds es hl hm (λi v d hv hd=>ih i v d hv hd (h3 i v d hv hd) hI) λi v d hv hd=>G7 i v d hv hd (h4 i v d hv hd) hI
 |a7=>intros;exact .a7
 |j8 l=>intros;exact .j8 l
 |fh=>intros;exact .fh
 |dI=>intros;exact .dI
 |gp g off=>intros;exact .gp g off
 |dY R c h=>intro _ hI;exact low (.dY R c h) hI
 |nk R es ks vs a1 a2 a3 a4 a5 a6=>intro _ hI;exact low (.nk R es ks vs a1 a2 a3 a4 a5 a6) hI
 |loc i off b R hb hf hR=>intro h2 _;generalize Value.pointer (some ⟨R,b.o+off,none⟩)=u at h2;cases h2 with|loc _ _ b' R' c1 c2 c3=>exact .loc i off b' R' c1 c2 c3
 |bH i off b R hb hf hR=>intro h2 _;generalize Value.pointer (some ⟨R,b.o+off,none⟩)=u at h2;cases h2 with|bH _ _ b' R' c1 c2 c3=>exact .bH i off b' R' c1 c2 c3
 |bM i g r off b R hb hf hR hg=>intro h2 _;generalize Value.pointer (some ⟨R,b.o+(r*b.sz+off),none⟩)=u at h2;cases h2 with
  |bM _ _ _ _ b' R' c1 c2 c3 c4=>exact .bM i g r off b' R' c1 c2 c3 c4
  |dT a _ _ _ _ b' c1 c2 c3=>exact .dT a i g r off b' c1 c2 c3
 |dT a i g r off b hb hf hg=>intro h2 _;generalize Value.pointer (some a)=u at h2;cases h2 with
  |bM _ _ _ _ b' R' c1 c2 c3 c4=>exact .bM i g r off b' R' c1 c2 c3 c4
  |dT a _ _ _ _ b' c1 c2 c3=>exact .dT a i g r off b' c1 c2 c3
 |sl a c i g off len b hb hf hg hc hl hn ha=>intro h2 _;cases h2 with
  |sl _ _ _ _ _ _ b' c1 c2 c3 c4 c5 c6 c7=>exact .sl a c i g off len b' c1 c2 c3 c4 c5 c6 c7
  |cJ _ _ _ _ _ _ b' c1 c2 c3=>exact .cJ a c i g off len b' c1 c2 c3
 |cJ a c i g off len b hb hf hg=>intro h2 _;cases h2 with
  |sl _ _ _ _ _ _ b' c1 c2 c3 c4 c5 c6 c7=>exact .sl a c i g off len b' c1 c2 c3 c4 c5 c6 c7
  |cJ _ _ _ _ _ _ b' c1 c2 c3=>exact .cJ a c i g off len b' c1 c2 c3
 |cn i b R hb hf hR=>intro h2 _;cases h2 with|cn _ b' _ c1 c2 c3=>exact .cn i b' R c1 c2 c3
 |iY i b R hb hf hR=>intro h2 _;generalize Value.pointer (some ⟨R,0,none⟩)=u at h2;cases h2 with|iY _ b' R' c1 c2 c3=>exact .iY i b' R' c1 c2 c3
 |gj a c i off sz len b R hb hf hR hl ha=>intro h2 _;cases h2 with|gj _ _ _ _ _ _ b' R' c1 c2 c3 c4 c5=>exact .gj a c i off sz len b' R' c1 c2 c3 c4 c5
omit [aM]in
theorem Rel.xP{I I':aW}{β:BE}{v:Value}{d:D}(h:Rel I β v d):Rel I' β v (xP d):=by
 unfold Go.V.xP;cases hf:O8 d with
 |false=>exact .eL v
 |true=>
  cases d
  case loc=>cases h;exact .loc _ _ _ _ ‹_› ‹_› ‹_›
  case bH=>cases h;exact .bH _ _ _ _ ‹_› ‹_› ‹_›
  case bM=>cases h<;>first|exact .bM _ _ _ _ _ _ ‹_› ‹_› ‹_› ‹_›|exact .dT _ _ _ _ _ _ ‹_› ‹_› ‹_›
  case sl=>cases h<;>first|exact .sl _ _ _ _ _ _ _ ‹_› ‹_› ‹_› ‹_› ‹_› ‹_› ‹_›|exact .cJ _ _ _ _ _ _ _ ‹_› ‹_› ‹_›
  case gj=>cases h;exact .gj _ _ _ _ _ _ _ _ ‹_› ‹_› ‹_› ‹_› ‹_›
  case cn=>cases h;exact .cn _ _ _ ‹_› ‹_› ‹_›
  case iY=>cases h;exact .iY _ _ _ ‹_› ‹_› ‹_›
  case j8=>cases h;exact .j8 _
  case gp=>cases h;exact .gp _ _
  all_goals exact h.fX hf
omit [aM]in
theorem Gc{cs:List D}{i:Nat}{d:D}(h:(cs.map xP)[i]?=some d):∃e,cs[i]?=some e/\d=xP e:=by
 rw[List.getElem?_map]at h;cases he:cs[i]? with
 |none=>rw[he]at h;cases h
 |some e=>rw[he]at h;cases h;exact⟨e,rfl,rfl⟩
omit [aM]in
theorem fo.fg{I I':aW}{es:List MapEntry}{ks us:List D}(h:fo I es ks us):fo I' es (ks.map xP) (us.map xP):=
 ⟨h.born,by rw[List.length_map];exact h.kl,by rw[List.length_map];exact h.vl,λi e d he hd=>by obtain⟨d',h1,rfl⟩:=Gc hd;exact(h.k i e d' he h1).xP,λi e d he hd=>by obtain⟨d',h1,rfl⟩:=Gc hd;exact(h.v i e d' he h1).xP⟩
omit [aM]in
theorem bA.TT{I I':aW}{β:BE}{w:World}{b:BI}{box:af}(h:bA I β w b box):bA I' β w b (TT box):=by
 cases box with
 |flat fz cells=>
  obtain⟨hf,R,c,t,hR,hh,⟨hl,hr⟩,h1⟩:=h;have e:(cells.map Go.V.xP).length=cells.length:=List.length_map _;refine⟨hf,R,c,t,hR,hh,⟨?_,λi v d hv hd=>?_⟩,?_⟩
  .rw[e];exact hl
  .obtain⟨d',h2,rfl⟩:=Gc hd
   rw[e]at hv;exact(hr i v d' hv h2).xP
  rw[e];exact h1
 |rows fz g sz rs=>
  obtain⟨hf,hg,hs,hn,aI,ia,h⟩:=h;have cM:∀{r:Nat}{row:List D},(rs.map (·.map Go.V.xP))[r]?=some row->∃ib,rs[r]?=some ib/\row=ib.map Go.V.xP:=λ{r row} h=>by
   rw[List.getElem?_map]at h;cases he:rs[r]? with
   |none=>rw[he]at h;cases h
   |some e=>rw[he]at h;cases h;exact⟨e,rfl,rfl⟩
  refine⟨hf,hg,hs,by rw[List.length_map];exact hn,λr row hr=>?_,by rw[List.length_map];exact ia,?_⟩
  .obtain⟨ib,h2,rfl⟩:=cM hr
   rw[List.length_map];exact aI r ib h2
  cases hR:b.R with
  |none=>rw[hR]at h;exact h
  |some R=>
   rw[hR]at h;obtain⟨c,t,hh,hc,hd⟩:=h;refine⟨c,t,hh,hc,λr row j d h1 h2=>?_⟩;obtain⟨ib,h3,rfl⟩:=cM h1;obtain⟨d',h4,rfl⟩:=Gc h2;obtain⟨v,h5,h6,h7⟩:=hd r ib j d' h3 h4;exact⟨v,h5,h6.xP,h7⟩
 |map fz ks vs=>
  obtain⟨hf,R,es,clock,hR,hh,hc,hm⟩:=h;exact⟨hf,R,es,clock,hR,hh,hc,hm.fg⟩
 |aA fz s pos=>exact h
 |aJ fz i ks vs seen=>
  obtain⟨hf,R,bm,Rm,es,clock,since,c0,sn,hR,oE,Pf,A7,h1,h2,h3,h4,Qt,h5,h6,h7,h8⟩:=h;exact⟨hf,R,bm,Rm,es,clock,since,c0,sn,hR,oE,Pf,A7,h1,h2,h3,h4,Qt,h5,h6.fg,h7,h8⟩
omit [aM]in
theorem NO{I I':aW}{β:BE}{v:Value}{d:D}(h:Rel I dM v d)(hd:Uz d=true)(hI:∀B off u,u.oneCell'=true->I B off=some u->I' B off=some u):Rel I' β v d:=by
 have one:∀{v:Value}{d:D},Rel I dM v d->Qp d=true->Rel I' β v d:=λ{v d} h hd=>by
  cases d
  case list sz rows=>
   cases h with
   |dj a cap=>exact .dj a cap sz
   |list B off cap _ _ u a1 a2 a3 a4 a5=>exact .list B off cap sz rows u a1 a2 (λr j hr hj=>hI _ _ _ (a4 r j hr hj) (a3 r j hr hj)) a4 λr row j d hr hj=>(a5 r row j d hr hj).fX (cZ (List.all_eq_true.1 hd row (List.mem_of_getElem? hr)) hj)
  all_goals exact h.fX hd
 cases d
 case agg cs=>cases h with|agg vs _ hl h1 h=>exact .agg vs cs hl h1 λi v d hv gq=>one (h i v d hv gq) (List.all_eq_true.1 hd d (List.mem_of_getElem? gq))
 all_goals exact one h hd
omit [aM]in
theorem aB.or{A B:Nat->Prop}{w w':World}(h:aB A w w')(k:aB B w w'):aB (λk=>A k\/B k) w w':=⟨h.os,h.tape,h.output,h.size,λi hi=>hi.elim (h.block i) (k.block i)⟩
omit [aM]in
theorem bA.kept{I I1:aW}{β:BE}{w:World}{b:BI}{box:af}{cs:List D}{R:Nat}(h:bA I β w b box)(hf:b.flat=true)(hR:b.R=some R)(hc:∀j d,cs[j]?=some d->∃v,I1 R (b.o+j)=some v/\v.oneCell'=true/\Rel I1 dM v d)(h0:0<cs.length)(ha:bc I1 w)
    {I':aW}(hI:I1.le I'):bA I' β w b (.flat true cs):=by
  have ca:∀j d,cs[j]?=some d->∃v,w.cell? ⟨R,b.o+j,none⟩=some v/\v.oneCell'=true/\Rel I1 dM v d:=λj d hd=>by
   obtain⟨v,h1,h2,h3⟩:=hc j d hd;exact⟨v,jX (ha _ _ _ h1) h2,h2,h3⟩
  obtain⟨v0,Ub,_⟩:=ca 0 cs[0] (List.getElem?_eq_getElem h0);have hh:∃c t,w.heap[R]?=some (.cells c t (0,0)):=by
   cases box with
   |flat fz cells=>obtain⟨_,R',c,t,dh,hh,_⟩:=h;rw[hR]at dh;cases dh;exact⟨c,t,hh⟩
   |rows fz g sz rs=>rw[h.1]at hf;cases hf
   |map fz ks vs=>obtain⟨_,R',es,t,dh,hh,_⟩:=h;rw[hR]at dh;cases dh;simp[World.cell?,hh]at Ub
   |aA fz s pos=>
    rcases h with⟨_,_,R',dh,hh⟩|h
    .rw[hR]at dh;cases dh
     rcases ma s pos with e|⟨c,t,e⟩<;>rw[e]at hh
     .simp[World.cell?,hh]at Ub
     exact⟨c,t,hh⟩
    exact h.cells hR
   |aJ fz i ks vs seen=>obtain⟨_,R',bm,Rm,es,clock,since,c0,sn,dh,_,_,_,hh,_⟩:=h;rw[hR]at dh;cases dh;simp[World.cell?,hh]at Ub
  obtain⟨c,t,hh⟩:=hh;have cM:∀j d,cs[j]?=some d->∃v,(c.toList.drop b.o)[j]?=some v/\v.oneCell'=true/\Rel I1 dM v d:=λj d hd=>by
   obtain⟨v,h1,h2,h3⟩:=ca j d hd;rw[bO hh]at h1;exact⟨v,by rw[List.getElem?_drop,Array.getElem?_toList];exact h1,h2,h3⟩
  have hlen:cs.length<=(c.toList.drop b.o).length:=by
   obtain⟨v,h1,_⟩:=cM (cs.length-1) cs[cs.length-1] (List.getElem?_eq_getElem (by omega));have:=(List.getElem?_eq_some_iff.1 h1).1;omega
  have mf:∀{j v},((c.toList.drop b.o).take cs.length)[j]?=some v->(c.toList.drop b.o)[j]?=some v/\j<cs.length:=λ{j v} h=>by
   rw[List.getElem?_take]at h;split at h
   .exact⟨h,by assumption⟩
   cases h
  refine⟨hf,R,c,t,hR,hh,⟨?_,λj v d hv hd=>?_⟩,λv hv=>?_⟩
  .rw[List.length_take,Nat.min_eq_left hlen]
  .obtain⟨u,h1,_,h3⟩:=cM j d hd
   rw[(mf hv).1]at h1;cases h1;exact h3.lift hI
  obtain⟨j,hj⟩:=List.mem_iff_getElem?.1 hv;obtain⟨h1,h2⟩:=mf hj;obtain⟨u,h3,h4,_⟩:=cM j cs[j] (List.getElem?_eq_getElem h2);rw[h1]at h3;cases h3;exact h4
omit [aM]in
theorem zy:∀(kp:List (Nat×List D))(bs:List af),(yY kp bs).length=bs.length
 |[],bs=>List.length_map _
 |(i,cs)::r,bs=>by simp[yY,zy r bs]
omit [aM]in
theorem Gd{bs:List af}{i:Nat}{box:af}(hb:bs[i]?=some box):∀(kp:List (Nat×List D)),(yY kp bs)[i]?=some (TT box)\/∃cs,(i,cs)∈kp/\(yY kp bs)[i]?=some (.flat true cs)
 |[]=>.inl (by simp[yY,hb])
 |(k,cs)::r=>by
  by_cases hk:k=i
  .subst hk
   have:=(List.getElem?_eq_some_iff.1 hb).1;exact .inr ⟨cs,by simp,by simp only[yY];rw[List.getElem?_set_self (by rw[zy];exact this)]⟩
  simp only[yY,List.getElem?_set_ne hk];exact(Gd hb r).imp id λ⟨cs,h1,h2⟩=>⟨cs,List.mem_cons_of_mem _ h1,h2⟩
theorem vQ{ls:Bool}{kp:List (Nat×List D)}{bK:BE}{xs:List (List D)}{Inv:Nat->List af->eG->Prop}{Q:Ex->St->Prop}{l nb:Nat}{I1:aW}{ps:Array Tmp}{as c:Code}{fn:FuncId}{tmps0:Array Value}{Df:Nat}
    (has:M7 P sh ish T N as)(fS:M7 P sh ish T N c)(M9:∀p∈ps.toList,p<N)(ak:cx.Ok)(hy:bB P cx)(cY:cx.lo<=nb)
    (Rd:a.tmps=tmps0)(du:fF nb U.tmps=true)(uv:cx.I0.le I1)(hl:¬cx.dP l)(Re:∀d∈a.defers,d.target≠.collected l)
    (vR:∀i x bs y,xs[i]?=some x->Inv i bs y->yZ ps.toList x U.tmps bs y λσ₀=>W T (CD P sh) (nc P ish) nb as σ₀ λe σ₁=>match e with
        |.normal=>W T (CD P sh) (nc P ish) nb c σ₁ λe σ₂=>match e with
         |.normal=>aS nb ((G5 ls kp σ₂.boxes).take nb)=true/\Inv (i+1) ((G5 ls kp σ₂.boxes).take nb) σ₂.y
         |.exit id=>Q (.exit id) ⟨U.tmps,G5 ls kp σ₂.boxes,σ₂.y⟩
         |.ret=>Q .ret ⟨U.tmps,G5 ls kp σ₂.boxes,σ₂.y⟩
         |.panic _=>False
        |_=>False)
    (p5:∀x,x∈xs->x.length=ps.size/\Zw ls x=true){old0:Nat->Prop}(hmo:∀k,Mem I1 k->old0 k)(hbK:∀i b,bK i=some b->i<nb)(M3:∀p∈kp,∃b R,bK p.1=some b/\b.flat=true/\b.R=some R/\0<p.2.length/\∀j d,p.2[j]?=some d->∃v,I1 R (b.o+j)=some v/\v.oneCell'=true/\Rel I1 dM v d){lo0:Nat}{b00:BE}:
    bB P ⟨old0,λ_=>True,RJ bK cx U N xs Inv Q (λst pe=>{state:=st,pending:=pe,fn:=fn,tmps:=tmps0,params:=ps,assign:=as,body:=c,defers:=Df}) l I1 a,I1,λ_ _=>False,lo0,b00,λ_=>False⟩:=by
  rintro l' x r S' w sf vs Gv hJ _ gT AN NJ vz aq;obtain⟨bs,y,β,I,S,st,pe,h1,hs,cK,aam,M8,ml,KD,Kz,bG⟩:=hJ.now ak gT;rcases bG with⟨i,pZ,hi,hinv,rfl,rfl⟩|⟨pZ,_⟩
  .simp only[eG.rem.injEq]at pZ
   obtain⟨rfl,rU⟩:=pZ;have ui:xs[i]?=some x:=by
    have:(xs.drop i)[0]?=some x:=by rw[<-rU];rfl
    simpa using this
   have hr:xs.drop (i+1)=r:=by
    have:(xs.drop i).drop 1=r:=by rw[<-rU];rfl
    simpa[List.drop_drop,Nat.add_comm]using this
   obtain⟨vn,Uk⟩:=p5 x (List.mem_of_getElem? ui);have aP:=run_yield (P:=P) (args:=vs.toArray) Kz (by simp[aq.len,vn]);refine⟨fn,_,as,c,aP,roundIn_of_wpIn (n:=0) (F:=Fence.wide) trivial ?_⟩;subst Rd;obtain⟨Z,hZ⟩:∃Z:Nat->Prop,Z=λk=>ls=true/\¬old0 k/\¬S' k/\¬Mem sf k/\∃off v,sf k off=some v:=⟨_,rfl⟩;have hZ:∀k,Z k↔(ls=true/\¬old0 k/\¬S' k/\¬Mem sf k/\∃off v,sf k off=some v):=λk=>by rw[hZ]
   have UJ:∀k,Z k->¬Mem I1 k:=λk hz hm=>((hZ k).1 hz).2.1 (hmo k hm);have HT:∀k,Z k->¬S' k:=λk hz=>((hZ k).1 hz).2.2.1;have Vt:∀k,Z k->¬Mem sf k:=λk hz=>((hZ k).1 hz).2.2.2.1;have Rc:∀k,Z k->k<w.heap.size:=λk hz=>let⟨off,v,hv⟩:=((hZ k).1 hz).2.2.2.2;cy (vz k off v hv)
   have Ji:∀k off,Z k->I k off=none:=λk off hz=>by
    cases hv:I k off with
    |none=>rfl
    |some v=>exact(HT k hz (ml.im k off v hv (UJ k hz))).elim
   have Jh:∀k,Z k->¬cx.dP k:=λk hz ho=>HT k hz (ml.lo k ho (UJ k hz));have Rf:∀k off,Z k->cx.I0 k off=none:=λk off hz=>by
    cases hv:cx.I0 k off with
    |none=>rfl
    |some v=>have:=hs.I0 k off v hv;rw[Ji k off hz]at this;cases this
   have YN:∀k,Z k->¬S k:=λk hz h=>HT k hz (ml.ss k h);have Vv:∀i b R,β i=some b->b.R=some R->¬Z R:=λi b R hb hR hz=>HT R hz (ml.bx i b R hb hR);have YO:∀d∈a.defers,∀R,d.target=.collected R->¬Z R:=λd hd R hR hz=>HT R hz (ml.HP d hd R hR);have Ge:=hs.aak vz Rc Ji YN Vv YO;have HU:=Cx.NN (wP:=w) ak Jh Rf Vt;have hyP:=Cx.Es (Ip:=sf) (wP:=w) hy Jh Rf;have hle:I.le (eb Z sf I):=qT Ji;have hM:∀k,Mem (eb Z sf I1) k->Mem I1 k:=λk⟨c,hc⟩=>by
    by_cases hz:Z k
    .exact(Vt k hz ⟨c,(dO hz _).symm.trans hc⟩).elim
    exact⟨c,(bh hz _).symm.trans hc⟩
   have U0:∀k,Mem I1 k->Mem (eb Z sf I1) k:=λk hm=>let⟨c,hc⟩:=hm;⟨c,(bh (λhz=>UJ k hz hm) _).trans hc⟩
   have hlP:¬(cx.plus Z sf w).dP l':=λh=>h.elim hl λhz=>HT l' hz KD;have PG:Rb (cx.plus Z sf w) β (eb Z sf I) S a (eb Z sf I1) (λk=>(S' k\/Gv k)\/Z k):={
    lo:=λk hk hm=>hk.elim (λho=>.inl (.inl (ml.lo k ho λh=>hm (U0 k h)))) .inr
    im:=λB off v hv hm=>by
     by_cases hz:Z B
     .exact .inr hz
     exact .inl (.inl (ml.im B off v ((bh hz off).symm.trans hv) λh=>hm (U0 B h)))
    bx:=λi b R hb hR=>.inl (.inl (ml.bx i b R hb hR))
    ss:=λk hk=>.inl (.inl (ml.ss k hk))
    HP:=λd hd R hR=>.inl (.inl (ml.HP d hd R hR))}
   obtain⟨X,hX⟩:∃X:Nat->Prop,X=λk=>(k<w.heap.size/\¬((S' k\/Gv k)\/Z k)/\¬Mem (eb Z sf I1) k)\/k=l'\/∃d∈a.defers,d.target=.collected k:=⟨_,rfl⟩;have hX:∀k,X k↔((k<w.heap.size/\¬((S' k\/Gv k)\/Z k)/\¬Mem (eb Z sf I1) k)\/k=l'\/∃d∈a.defers,d.target=.collected k):=λk=>by rw[hX]
   have aan:∀k,Gv k->k<w.heap.size:=by
    cases aq with
    |plain _ _ h _=>exactλ_ h=>h.elim
    |DQ R es clock ks us hR=>rintro k rfl;exact bo hR
   obtain⟨G,hG⟩:∃G:Value->D->Prop,G=λv d=>cx.G v d\/∃t,look U.tmps t=some d/\a.tmps[t]?=some v:=⟨_,rfl⟩;have hG:∀v d,G v d↔(cx.G v d\/∃t,look U.tmps t=some d/\a.tmps[t]?=some v):=λv d=>by rw[hG]
   have KB:X l':=(hX l').2 (.inr (.inl rfl));have Vw:∀v d,G v d->en nb d=true:=λv d hg=>by
    rcases(hG v d).1 hg with h|⟨t,h,_⟩
    .exact oK cY (ak.g v d h)
    exact fY du h
   have PH:∀v d,G v d->Rel I β v d:=λv d hg=>by
    rcases(hG v d).1 hg with h|⟨t,h,ht⟩
    .exact hs.gh v d h
    obtain⟨u,hu,Vi⟩:=hs.tm t d trivial h;rw[ht]at hu;cases hu;exact Vi
   have YL:∀k,X k->¬((cx.plus Z sf w).dP k/\Mem (cx.plus Z sf w).I0 k):=λk hk⟨ho,c,hc⟩=>by
    have YP:¬Z k:=λhz=>Vt k hz ⟨c,(dO hz _).symm.trans hc⟩;have hc:cx.I0 k (c+1)=some jh:=(bh YP _).symm.trans hc;have ho:cx.dP k:=ho.resolve_right YP;rcases(hX k).1 hk with h|h|⟨d,h,h'⟩
    .exact h.2.2 (U0 k ⟨c,uv _ _ _ hc⟩)
    .exact hl (h▸ho)
    obtain⟨R',e,_,h4,_⟩:=hs.marks d h (λhD=>ak.d _ hD _ h');rw[e]at h';cases h';exact h4 ho
   have Vx:(Array.zip ps vs.toArray).foldl (λtmps(t,a)=>tmps.setIfInBounds t a) a.tmps=(ps.toList.zip vs).foldl (λtmps(p,v)=>tmps.setIfInBounds p v) a.tmps:=by
    rw[<-Array.foldl_toList];simp
   have dW:aac ((cx.plus Z sf w).inRound X w (eb Z sf I) G nb (eY nb β)) (Jn ps.toList x U.tmps bs y) N {tmps:=(ps.toList.zip vs).foldl (λtmps(p,v)=>tmps.setIfInBounds p v) a.tmps,defers:=[]} w:=by
    cases aq with
    |plain _ _ aq aao=>
     obtain⟨dQ,fZ⟩:=nS (I:=eb Z sf I) (β:=β) ps.toList vs x U.tmps a.tmps aq.1 (λp hp=>by rw[hs.sz];exact M9 p hp)
      (λj v d hv hd=>by
       have hr:=aq.2 j v d hv hd;cases ls with
       |false=>exact hr.fX (cZ (HS aq Uk) hd)
       |true=>
        refine NO hr (List.all_eq_true.1 Uk d (List.mem_of_getElem? hd)) λB off u hu hv=>?_;rcases aao B off u hv with⟨h2,h3⟩|⟨h2,h3⟩
        .exact(bh (λhz=>((hZ B).1 hz).2.1 h2) off).trans (h1 B off u h3)
        refine(dO ((hZ B).2 ⟨rfl,h2,h3,λ⟨c,hc⟩=>?_,off,u,hv⟩) off).trans hv;obtain rfl:=vz.ex B c hc off u hv;rw[hc]at hv;cases hv;cases hu) (λt d ht=>Ge.tm t d trivial ht)
     have bq:=Ge.Gb HU PG Kz M8 hX (λv d hg=>(PH v d hg).mono hle (BE.le_refl β)) (nb:=nb) (dQ.trans hs.sz) fZ;rw[Er aq];exact⟨β,_,_,bq,cK⟩
    |DQ R es clock ks us hR zg hm QX Z9 ho YQ NM=>
     have hZR:¬Z R:=λhz=>by
      have h:=((hZ R).1 hz).1;subst h;cases Uk
     have YR:¬X R:=λhx=>by
      rcases(hX R).1 hx with h|h|⟨d,h,h'⟩
      .exact h.2.1 (.inl (.inr rfl))
      .rw[h,Kz]at hR;cases hR
      obtain⟨R',e,h3,_⟩:=hs.marks d h (λhD=>ak.d _ hD _ h');rw[e]at h';cases h';rw[hR]at h3;cases h3
     have Vy:¬Mem I1 R:=λ⟨c,hc⟩=>by have h:I1 R (c+1)=none:=NM (c+1);rw[h]at hc;cases hc
     have bq:=Ge.Gb HU PG Kz M8 hX (λv d hg=>(PH v d hg).mono hle (BE.le_refl β)) (nb:=nb) (tm:=[]) (tmps:=a.tmps) hs.sz (λt d ht=>by cases ht);have nK:∀j b,β j=some b->j<bs.length:=λj b hb=>by
      obtain⟨box,h3,_⟩:=hs.bx j b hb;exact(List.getElem?_eq_some_iff.1 h3).1
     obtain⟨Vh,HJ⟩:=bq.Vr hR zg (hm.fX QX Z9) (λh=>h.elim (λh=>YQ (ml.lo R h Vy)) hZR) (λh=>h.elim (λh=>YQ (ml.ss R h)) YR) (λj b hb JL=>YQ (ml.bx j b R hb JL)) (λoff=>by
         rw[bh hZR];cases hv:I R off with
         |none=>rfl
         |some v=>exact(YQ (ml.im R off v hv Vy)).elim) (by
         cases hb:β bs.length with
         |none=>rfl
         |some b=>have:=nK _ b hb;omega)
     obtain⟨dQ,fZ⟩:=nS (I:=eb Z sf I) (β:=λi=>if i=bs.length then some ⟨some R,true,0,0,0,0,0⟩else β i) ps.toList [.map (some R)] [.cn bs.length] U.tmps a.tmps rfl (λp hp=>by rw[hs.sz];exact M9 p hp)
      (λj v d hv hd=>by
       cases j with
       |zero=>cases hv;cases hd;exact .cn _ ⟨some R,true,0,0,0,0,0⟩ R (by simp) rfl rfl
       |succ j=>simp at hv) (λt d ht=>by
       obtain⟨v,hv,hr⟩:=hs.tm t d trivial ht;exact⟨v,hv,hr.mono hle HJ⟩)
     refine⟨_,_,_,{Vh with tm:=λt d _ hl=>fZ t d hl,sz:=dQ.trans hs.sz,bx:=Vh.bx,clear:=Vh.clear,j:=Vh.j,ep:=λ_ h=>h.elim,dn:=λ_ h=>h.elim,marks:=(λd hd=>by cases hd),nd:=.nil},λj hj=>?_⟩;have hj:j<(bs++[af.map false ks us]).length:=hj;by_cases ng:j=bs.length
     .simp[ng]
     simp only[ng,if_false];exact cK j (by simp at hj;omega)
   rw[Vx];have hw:=vR i x bs y ui hinv;rw[Nj]at hw;have NP:=has nb _ _ ((cx.plus Z sf w).inRound X w (eb Z sf I) G nb (eY nb β)) (Fence.wide.inRound l') 0 _ w hw (.inr ⟨l',rfl⟩) (Cx.vP HU Ge.I0 Ge.fV Vw λi b h=>zx h) (Cx.inRound_round KB Kz) (Cx.pz hyP Ge.I0 Ge.fV YL) (Nat.le_refl _) dW;refine wpIn_mono NP ?_;intro e a₁ w₃ kC;cases e with
   |normal=>
    obtain⟨σ₁,hW1,β₁,I₁,Sx₁,PI,Vz⟩:=kC;have Uc:aB X w w₃:=by obtain⟨_,_,_,_,_,h5,_⟩:=PI.j;exact h5
    have VA:=(Uc.block l' KB).trans Kz;refine⟨_,run_beginRound VA rfl,?_⟩;have PJ:=PI.busy HU KB hlP (.loop {state:=.busy,pending:=none,fn:=fn,tmps:=a.tmps,params:=ps,assign:=as,body:=c,defers:=Df});obtain⟨w₄,VB⟩:∃w₄,w₄=w₃.putObj l' (.loop {state:=.busy,pending:=none,fn:=fn,tmps:=a.tmps,params:=ps,assign:=as,body:=c,defers:=Df}):=⟨_,rfl⟩;rw[<-VB]at PJ;have VC:w₄.heap[l']?=some (.loop {state:=.busy,pending:=none,fn:=fn,tmps:=a.tmps,params:=ps,assign:=as,body:=c,defers:=Df}):=by rw[VB];exact World.putObj_heap_same (bo VA)
    have KE:=fS nb _ _ ((cx.plus Z sf w).inRound X w₄ (eb Z sf I) G nb (eY nb β)) (Fence.wide.inRound l') 0 a₁ w₄ hW1 (.inr ⟨l',rfl⟩) (Cx.vP HU Ge.I0 Ge.fV Vw λi b h=>zx h) (Cx.inRound_round KB VC) (Cx.pz hyP Ge.I0 Ge.fV YL) (Nat.le_refl _) ⟨β₁,I₁,Sx₁,PJ,Vz⟩;rw[VB]at KE;refine wpIn_mono KE ?_;rw[<-VB];have XN:aB (λk=>k≠l') w₃ w₄:=by rw[VB];exact jo _ _ _
    have fin:∀(jump:Option Code)(σ₂:St)(a₂:Act)(w₅:World),aac ((cx.plus Z sf w).inRound X w₄ (eb Z sf I) G nb (eY nb β)) σ₂ N a₂ w₅->
        ∃w₆,(Instr.endRound l' jump).run P w₅=.ok (.bool jump.isNone) w₆/\
         aB (λk=>k<w.heap.size/\¬(old0 k/\Mem I1 k)/\¬S' k/\¬Gv k) w w₆/\bc I1 w₆/\(∀B,((S' B\/Gv B)\/(w.heap.size<=B/\B<w₆.heap.size))->B<w₆.heap.size)/\
         ∃β₂ I₂ S₂,I1.le I₂/\bf cx (λ_=>True) ⟨U.tmps,G5 ls kp σ₂.boxes,σ₂.y⟩ β₂ I₂ S₂ N a w₆/\(∀i,i<(G5 ls kp σ₂.boxes).length->(β₂ i).isSome=true)/\bK.le β₂/\¬S₂ l'/\
          Rb cx β₂ I₂ S₂ a I1 (λB=>(S' B\/Gv B)\/(w.heap.size<=B/\B<w₆.heap.size))/\
          w₆.heap[l']?=some (.loop {state:=(if jump.isNone then .ready else .done),pending:=jump,fn:=fn,tmps:=a.tmps,params:=ps,assign:=as,body:=c,defers:=Df}):=by
      intro jump σ₂ a₂ w₅ Et;obtain⟨β₂,I₂,Sx₂,lS,vS⟩:=Et;obtain⟨S₂,mL,Eu,hSx,TW,XO⟩:=lS.HR (a:=a) (zm Ge.qw λi b h=>Nat.lt_of_lt_of_le (ak.b i b h) cY) HU KB hlP (.loop {state:=(if jump.isNone then .ready else .done),pending:=jump,fn:=fn,tmps:=a.tmps,params:=ps,assign:=as,body:=c,defers:=Df}) Ge.I0 Ge.fV
       (λv d hg=>(hG v d).2 (.inl hg)) (tm:=U.tmps) hs.sz (λt d ht=>by
        obtain⟨v,hv,_⟩:=hs.tm t d trivial ht;exact⟨v,hv,(hG v d).2 (.inr ⟨t,ht,hv⟩)⟩)
       hs.nd hs.ep
       (λd hd hD=>by
        obtain⟨R,e,h7,h8,_⟩:=hs.marks d hd hD;have YR:X R:=(hX R).2 (.inr (.inr ⟨d,hd,by rw[e]⟩));have hRl:R≠l':=λe'=>Re d hd (by rw[e,e']);exact⟨R,e,(XN.block R hRl).trans ((Uc.block R YR).trans h7),λho=>ho.elim h8 (YO d hd R (by rw[e])),YR,hRl⟩)
      have VD:=(XO.block l' KB).trans VC;have nh:=run_endRound (P:=P) jump VD;obtain⟨w₆,VE⟩:∃w₆,w₆=w₅.putObj l' (.loop {state:=(if jump.isNone then .ready else .done),pending:=jump,fn:=fn,tmps:=a.tmps,params:=ps,assign:=as,body:=c,defers:=Df}):=⟨_,rfl⟩;have hk6:aB (λk=>k≠l') w₅ w₆:=by rw[VE];exact jo _ _ _
      have PK:w.heap.size<=w₆.heap.size:=Nat.le_trans Uc.size (Nat.le_trans XN.size (Nat.le_trans XO.size hk6.size));have aap:w₆.heap.size=w₅.heap.size:=by rw[VE];simp
      rw[<-VE]at mL;have Z6:∀{k},k<w.heap.size->¬X k->¬Mem I1 k->¬Z k->(S' k\/Gv k):=λ{k} h7 h8 hm hz=>Classical.byContradiction λh9=>h8 ((hX k).2 (.inl ⟨h7,λh=>h.elim h9 hz,λh=>hm (hM k h)⟩));have dv:∀{k},k<w₆.heap.size->¬X k->¬Mem I1 k->¬Z k->((S' k\/Gv k)\/(w.heap.size<=k/\k<w₆.heap.size)):=λ{k} h7 h8 hm hz=>by
       rcases Nat.lt_or_ge k w.heap.size with h9|h9
       .exact .inl (Z6 h9 h8 hm hz)
       exact .inr ⟨h9,h7⟩
      have uh:I.le (eb Z (λ_ _=>none) I₂):=λB off v hv=>by
       have hz:¬Z B:=λhz=>by rw[Ji B off hz]at hv;cases hv
       exact(bh hz off).trans (lS.I0 B off v ((bh hz off).trans hv))
      have hlen:(G5 ls kp σ₂.boxes).length=σ₂.boxes.length:=by cases ls<;>simp[G5,zy]
      have BV:bK.le β₂:=BE.le_trans (zm aam hbK) lS.qw;have aaq:bc I w₆:=⟨λB off v hv=>mL.agree B off v (lS.I0 B off v (hle B off v hv)),hs.agree.ex⟩;have jT:=mL.aal Jh Rf (bs:=G5 ls kp σ₂.boxes) (λt d ht=>by
          obtain⟨v,hv,hr⟩:=hs.tm t d trivial ht;obtain⟨u,hu,Vi⟩:=mL.tm t d trivial ht;rw[hv]at hu;cases hu;exact⟨v,hv,hr.two Vi uh⟩) (λv d hg=>(hs.gh v d hg).two (mL.gh v d hg) uh) (λi b box hb aN hr=>by
          have aN:σ₂.boxes[i]?=some box:=aN;cases ls with
          |true=>
           rcases Gd aN kp with h|⟨cs,fS,h⟩
           .exact⟨TT box,h,(by cases box<;>exact id),hr.TT⟩
           refine⟨_,h,(λh=>by cases h),?_⟩;obtain⟨b',R,g1,g2,g3,g4,g5⟩:=M3 _ fS;obtain⟨b'',g6,rfl|⟨g7,_⟩⟩:=BV i b' g1
           .rw[hb]at g6;cases g6
            exact hr.kept g2 g3 g5 g4 (aaq.of_le h1) (aW.le_trans h1 uh)
           rw[g2]at g7;cases g7
          |false=>
           have e:eb Z (λ_ _=>none) I₂=I₂:=by
            funext B off;exact bh (λhz=>Bool.noConfusion ((hZ B).1 hz).1) off
           exact⟨box,aN,id,by rw[e];exact hr⟩)
      have YP:∀{B off v},eb Z (λ_ _=>none) I₂ B off=some v->¬Z B/\I₂ B off=some v:=λ{B off v} hv=>by
       by_cases hz:Z B
       .rw[dO hz]at hv;cases hv
       exact⟨hz,(bh hz off).symm.trans hv⟩
      refine⟨w₆,by rw[VE];exact nh,?_,jT.agree.of_le (aW.le_trans h1 uh),?_,β₂,eb Z (λ_ _=>none) I₂,S₂,aW.le_trans h1 uh,jT,λi hi=>vS i (by rw[hlen]at hi;exact hi),BV,Eu,?_,by rw[VE];exact World.putObj_heap_same (bo VD)⟩
      · have JZ:∀k,(k<w.heap.size/\¬(old0 k/\Mem I1 k)/\¬S' k/\¬Gv k)->(X k/\k≠l')\/Z k:=λk hk=>by
          by_cases hz:Z k
          .exact .inr hz
          exact .inl ⟨(hX k).2 (.inl ⟨hk.1,λh=>h.elim (λh=>h.elim hk.2.2.1 hk.2.2.2) hz,λhm=>hk.2.1 ⟨hmo k (hM k hm),hM k hm⟩⟩),λe=>hk.2.2.1 (e▸KD)⟩
        exact((((Uc.mono λk(hk:X k/\k≠l')=>hk.1).trans (XN.mono λk hk=>hk.2)).trans (XO.mono λk hk=>hk.1)).trans (hk6.mono λk hk=>hk.2)|>.or mL.fr.2).mono JZ
      .rintro B((hB|hB)|hB)
       .exact Nat.lt_of_lt_of_le (NJ B hB) PK
       .exact Nat.lt_of_lt_of_le (aan B hB) PK
       exact hB.2
      have Pr:∀k,(S₂ k\/∃i b,β₂ i=some b/\b.R=some k)->¬Mem I1 k:=λk hk⟨c,hc⟩=>jT.nt k hk ⟨c,uh _ _ _ (h1 _ _ _ hc)⟩;refine{lo:=λk hk hm=>.inl (.inl (ml.lo k hk hm)),im:=λB off v hv hm=>?_,bx:=λj b R hb hR=>?_,ss:=λk hk=>?_,HP:=λd hd R hR=>.inl (.inl (ml.HP d hd R hR))}
      .obtain⟨hz,hv⟩:=YP hv
       have cG:=cy (mL.agree B off v hv);by_cases hB:cx.dP B
       .exact .inl (.inl (ml.lo B hB hm))
       exact dv cG (λhx=>lS.sI B off v hv (λho=>ho.elim hB hz) ((hSx B).2 (.inr hx))) hm hz
      .obtain⟨_,_,h7⟩:=mL.bx j b hb
       obtain⟨_,_,h8⟩:=h7.lt hR;exact dv (bo h8) (λhx=>(lS.own j b R hb hR).2 ((hSx R).2 (.inr hx))) (Pr R (.inr ⟨j,b,hb,hR⟩)) λhz=>(mL.own j b R hb hR).1 (.inr hz)
      exact dv (jT.sb k hk) (λhx=>TW k hk hx) (Pr k (.inl hk)) λhz=>mL.j.2 k hz hk
    intro e a₂ w₅ kC;cases e with
    |normal=>
     obtain⟨σ₂,⟨aar,VF⟩,Et⟩:=kC;obtain⟨w₆,nh,cL,vA,VG,β₂,I₂,S₂,hI,lS,vS,BV,Eu,qU,VH⟩:=fin none σ₂ a₂ w₅ Et;have Ud:i+1<=xs.length:=(List.getElem?_eq_some_iff.1 ui).1;refine⟨_,w₆,nh,true,_,rfl,?_,cL,λB hB=>hB.elim (λh=>h.elim .inl λh=>.inr (.inr h)) λh=>.inr (.inl h.1),VG,vA,trivial⟩;refine⟨w₆,⟨(G5 ls kp σ₂.boxes).take nb,σ₂.y,eY nb β₂,I₂,S₂,.ready,none,hI,lS.cut (U:=⟨U.tmps,G5 ls kp σ₂.boxes,σ₂.y⟩) ak cY (λt d _ ht=>?_) aar,?_,zm BV hbK,Eu,?_,.inl (.inl KD),VH,.inl ⟨i+1,by simp only;rw[hr],Ud,VF,rfl,rfl⟩⟩,aB.refl _ _⟩
     .obtain⟨v,hv,xb⟩:=lS.tm t d trivial ht
      exact⟨v,hv,xb.ue nb (fY du ht)⟩
     .intro j hj
      rw[List.length_take]at hj;unfold eY;rw[if_pos (by omega)];exact vS j (by omega)
     refine⟨qU.lo,qU.im,λj b R hb hR=>?_,qU.ss,qU.HP⟩;unfold eY at hb;split at hb
     .exact qU.bx j b R hb hR
     cases hb
    |exit id=>
     obtain⟨σ₂,hq,Et⟩:=kC;obtain⟨w₆,nh,cL,vA,VG,β₂,I₂,S₂,hI,lS,vS,BV,Eu,qU,VH⟩:=fin (some (.exit id)) σ₂ a₂ w₅ Et;exact⟨_,w₆,nh,false,_,rfl,⟨w₆,⟨G5 ls kp σ₂.boxes,σ₂.y,β₂,I₂,S₂,.done,some (.exit id),hI,lS,vS,BV,Eu,qU,.inl (.inl KD),VH,.inr ⟨rfl,rfl,_,rfl,.inr ⟨id,rfl,hq⟩⟩⟩,aB.refl _ _⟩,cL,λB hB=>hB.elim (λh=>h.elim .inl λh=>.inr (.inr h)) λh=>.inr (.inl h.1),VG,vA,trivial⟩
    |ret=>
     obtain⟨σ₂,hq,Et⟩:=kC;obtain⟨w₆,nh,cL,vA,VG,β₂,I₂,S₂,hI,lS,vS,BV,Eu,qU,VH⟩:=fin (some .ret) σ₂ a₂ w₅ Et;exact⟨_,w₆,nh,false,_,rfl,⟨w₆,⟨G5 ls kp σ₂.boxes,σ₂.y,β₂,I₂,S₂,.done,some .ret,hI,lS,vS,BV,Eu,qU,.inl (.inl KD),VH,.inr ⟨rfl,rfl,_,rfl,.inl ⟨rfl,hq⟩⟩⟩,aB.refl _ _⟩,cL,λB hB=>hB.elim (λh=>h.elim .inl λh=>.inr (.inr h)) λh=>.inr (.inl h.1),VG,vA,trivial⟩
    |goto t=>exact kC.elim
    |panic ch=>obtain⟨_,_,_,h,_⟩:=kC;exact h.elim
    |outgrown=>exact kC.elim
   |exit id=>obtain⟨_,h,_⟩:=kC;exact h.elim
   |ret=>obtain⟨_,h,_⟩:=kC;exact h.elim
   |goto t=>exact kC.elim
   |panic ch=>obtain⟨_,_,_,h,_⟩:=kC;exact h.elim
   |outgrown=>exact kC.elim
  cases pZ
end
end Go.V
namespace Go.V
open Go.RowKit
theorem Gf:∀{p:List Nat}{j k:Nat},iP p=true->p[k]?=some j->rP p j=k
 |[],_,_,_,h=>by cases h
 |i::r,j,k,h,hk=>by
  simp only[iP]at h;cases hc:r.contains i with
  |true=>rw[hc]at h;cases h
  |false=>
   rw[hc]at h;cases k with
   |zero=>simp at hk;subst hk;simp[rP]
   |succ k=>
    simp at hk;have eh:Nat.beq i j=false:=Bool.eq_false_iff.2 λhh=>by
     rw[Nat.eq_of_beq_eq_true hh,List.contains_iff_mem.2 (List.mem_of_getElem? hk)]at hc;cases hc
    simp only[rP,eh];rw[Gf h hk]
theorem nT:∀{p:List Nat}{j:Nat},j∈p->p[rP p j]?=some j
 |[],_,h=>by cases h
 |i::r,j,h=>by
  simp only[rP];cases hb:Nat.beq i j with
  |true=>simp[Nat.eq_of_beq_eq_true hb]
  |false=>
   rcases List.mem_cons.1 h with rfl|h
   .simp at hb
   simpa using nT h
theorem NQ{p:List Nat}{j:Nat}(h:j∈p):rP p j<p.length:=(List.getElem?_eq_some_iff.1 (nT h)).1
theorem BW:∀{p:List Nat}{j:Nat},j∉p->rP p j=p.length
 |[],_,_=>rfl
 |i::r,j,h=>by
  simp only[rP];have hb:Nat.beq i j=false:=Bool.eq_false_iff.2 λhh=>h (by rw[Nat.eq_of_beq_eq_true hh];exact List.mem_cons_self);rw[hb];simp only[List.length_cons];rw[BW λhm=>h (List.mem_cons_of_mem _ hm)]
structure kD(ops nU:Array Oper)(f:Nat->Nat):Prop where
 size:nU.size=ops.size
 lt:∀i,i<ops.size->f i<ops.size
 out:∀i,ops.size<=i->f i=ops.size
 inj:∀i j,i<ops.size->j<ops.size->f i=f j->i=j
 VI:∀k,k<ops.size->∃i,i<ops.size/\f i=k
 get:∀(i:Nat)(o:Oper),ops[i]?=some o->nU[f i]?=some (xN f o)
theorem BY{ops:Array Oper}{p:List Nat}(h:rQ ops.toList.length p=true):kD ops (e7 ops.toList p).toArray (rP p):=by
 unfold rQ at h;simp only[Bool.and_eq_true]at h;obtain⟨hl,hd,ha,hb⟩:=h;have hl:=Nat.eq_of_beq_eq_true hl;have hl:p.length=ops.size:=by simpa using hl
 have cG:∀j,j∈p->j<ops.size:=λj hj=>by
  have:=List.all_eq_true.1 ha j hj;simpa[Nat.blt_eq]using this
 have eX:∀i,i<ops.size->i∈p:=by
  intro i hi;exact List.contains_iff_mem.1 (List.all_eq_true.1 hb i (List.mem_range.2 (by simpa using hi)))
 refine⟨by simp[e7,hl],λi hi=>by rw[<-hl];exact NQ (eX i hi),λi hi=>by rw[<-hl];exact BW λhm=>by have:=cG i hm;omega,?_,?_,?_⟩
 .intro i j hi hj e
  have h1:=nT (eX i hi);have h2:=nT (eX j hj);rw[e,h2]at h1;exact(Option.some.inj h1).symm
 .intro k hk
  have bF:k<p.length:=by omega
  exact⟨p[k],cG _ (List.getElem_mem bF),Gf hd (List.getElem?_eq_getElem bF)⟩
 intro i o ho;have hi:=(Array.getElem?_eq_some_iff.1 ho).1;simp only[e7,List.getElem?_toArray,List.getElem?_map,nT (eX i hi),Option.map_some];have:ops.toList[i]?=some o:=by simpa using ho
 rw[List.getD_eq_getElem?_getD,this];rfl
section
variable{P:Program}{F:Fence}{n:Nat}{Q:Exit->Act->World->Prop}{ops nU:Array Oper}{f:Nat->Nat}
theorem kD.yielded(h:kD ops nU f)(tmps:Array Value)(j:Nat):yielded nU tmps (f j)=yielded ops tmps j:=by
 unfold Go.yielded;rcases Nat.lt_or_ge j ops.size with hj|hj
 .have ho:ops[j]?=some ops[j]:=Array.getElem?_eq_getElem hj
  rw[h.get j _ ho,ho];rfl
 have e1:nU[f j]?=none:=by rw[Array.getElem?_eq_none_iff,h.size,h.out j hj];exact Nat.le_refl _
 have e2:ops[j]?=none:=Array.getElem?_eq_none hj;rw[e1,e2]
theorem kD.wanted(h:kD ops nU f)(o:Oper)(tmps:Array Value):Region.wanted (xN f o) (Go.yielded nU tmps)=Region.wanted o (Go.yielded ops tmps):=by
 unfold Region.wanted xN;cases hg:o.guard with
 |none=>rfl
 |some x=>simp only;rw[h.yielded]
theorem kD.aas(h:kD ops nU f){i:Nat}(hi:i<ops.size){K:Act->World->Prop}{a:Act}{w:World}:wpOpIn F n P nU Q (f i) K a w=wpOpIn F n P ops Q i K a w:=by
 have ho:ops[i]?=some ops[i]:=Array.getElem?_eq_getElem hi;unfold wpOpIn;simp only[h.get i _ ho,ho,h.wanted];rfl
theorem kD.ready(h:kD ops nU f){listed dk:Array Bool}(hl:∀i,i<ops.size->∀d,dk.getD (f i) d=listed.getD i d)(hs:listed.size=ops.size)(fu:dk.size=ops.size){i:Nat}(hi:i<ops.size):
    f i∈Region.ready .any nU dk↔i∈Region.ready .any ops listed:=by
  have cW:∀j d,dk.getD (f j) d=listed.getD j d:=λj d=>by
   rcases Nat.lt_or_ge j ops.size with hj|hj
   .exact hl j hj d
   rw[h.out j hj];have e1:dk.getD ops.size d=d:=by simp[Array.getD,fu]
   have e2:listed.getD j d=d:=by simp[Array.getD,show¬j<listed.size by omega]
   rw[e1,e2]
  rw[mem_ready,mem_ready,cW];have ho:ops[i]?=some ops[i]:=Array.getElem?_eq_getElem hi;rw[h.get i _ ho,ho];constructor
  .rintro⟨h0,o,U5,h1⟩
   cases U5;refine⟨h0,_,rfl,λe he hb=>?_⟩;have:=h1 (Jm f e) (by simp only[xN,List.mem_toArray];exact List.mem_map.2 ⟨e,by simpa using he,rfl⟩) hb
   rwa[show(Jm f e).on=f e.on from rfl,cW]at this
  rintro⟨h0,o,U5,h1⟩;cases U5;refine⟨h0,_,rfl,λe he hb=>?_⟩;simp only[xN,List.mem_toArray,List.mem_map]at he;obtain⟨e',fL,rfl⟩:=he;have fL:e'∈(ops[i]).after:=by simpa using fL
  show dk.getD (f e'.on) false=true;rw[cW];exact h1 e' fL hb
theorem kD.any(h:kD ops nU f):∀(fuel:Nat)(listed dk:Array Bool)(a:Act)(w:World),(∀i,i<ops.size->∀d,dk.getD (f i) d=listed.getD i d)->listed.size=ops.size->dk.size=ops.size->
    wpAnyIn F n P .any nU Q fuel dk a w->wpAnyIn F n P .any ops Q fuel listed a w:=by
  have NR:∀{listed dk:Array Bool},(∀i,i<ops.size->∀d,dk.getD (f i) d=listed.getD i d)->listed.size=ops.size->dk.size=ops.size->(Region.ready .any nU dk=[]↔Region.ready .any ops listed=[]):=by
   intro listed dk hl hs fu;constructor
   .intro h0
    cases hr:Region.ready .any ops listed with
    |nil=>rfl
    |cons x r=>
     have hx:x∈Region.ready .any ops listed:=by rw[hr];simp
     obtain⟨_,o,ho,_⟩:=mem_ready.1 hx;have:=(h.ready hl hs fu (Array.getElem?_eq_some_iff.1 ho).1).2 hx;rw[h0]at this;cases this
   intro h0;cases hr:Region.ready .any nU dk with
   |nil=>rfl
   |cons x r=>
    have hx:x∈Region.ready .any nU dk:=by rw[hr];simp
    obtain⟨_,o,ho,_⟩:=mem_ready.1 hx;obtain⟨i,hi,rfl⟩:=h.VI x (by rw[<-h.size];exact(Array.getElem?_eq_some_iff.1 ho).1);have:=(h.ready hl hs fu hi).1 hx;rw[h0]at this;cases this
  intro fuel
  induction fuel with
  |zero=>
   intro listed dk a w hl hs fu hw;exact⟨(NR hl hs fu).1 hw.1,hw.2⟩
  |succ fuel ih=>
   intro listed dk a w hl hs fu hw;refine⟨λh0=>hw.1 ((NR hl hs fu).2 h0),λi hi=>?_⟩;obtain⟨_,o,ho,_⟩:=mem_ready.1 hi;have dv:=(Array.getElem?_eq_some_iff.1 ho).1;have h1:=hw.2 (f i) ((h.ready hl hs fu dv).2 hi);rw[h.aas dv]at h1;refine wpOpIn_mono (λa w hk=>?_) h1;refine ih _ _ a w (λj hj d=>?_) (by simpa using hs) (by simpa using fu) hk;by_cases ie:j=i
   .subst ie
    have h2:f j<dk.size:=by rw[fu];exact h.lt j hj
    have h3:j<listed.size:=by omega
    simp[Array.getD,h2,h3]
   have eh:f i≠f j:=λe=>ie (h.inj j i hj dv e.symm);rw[getD_set_ne d eh,getD_set_ne d (Ne.symm ie)];exact hl j hj d
end
section
variable{P:Program}[aM]{sh:er}{ish:Nat->Bool}{T:Nat->Option TI}{cx:Cx}{U:St}{N:Nat}{a:Act}{w:World}{ops:Array Oper}
theorem NS(hT:br P T){F:Fence}(hF:FW F)(ak:cx.Ok)(hy:bB P cx){n i:Nat}{o:Oper}(ho:ops[i]?=some o)(hd:∀t,o.dst=some t->t<N){fb:bE->Bool}(cY:∀b y nb,fb (.fO b y nb)=false->cx.lo<=nb){K:St->Prop}{next:Act->World->Prop}{Q:Exit->Act->World->Prop}
    (hn:∀σ' a' w',K σ'->aac cx σ' N a' w'->next a' w')(hs:aac cx U N a w)(hk:aL T (CD P sh) fb ops.toList [o] i U K):wpOpIn F n P ops Q i next a w:=by
  unfold wpOpIn;simp only[ho];have step:∀g,ik T (CD P sh) fb g U o K->o.wpIn F n P a w next Q:=λg h=>lg hT hF ak hy hs hd cY h hn
  have skip:K (U.put o.dst .j7)->(∀f,o.about P w a.eval=some f->F.fn f)/\next (a.put o.dst undef) w:=λh=>⟨λf _=>hF.fn f,hn _ _ _ h (hs.skip hd)⟩
  simp only[aL]at hk;cases hg:o.guard with
  |none=>
   rw[hg]at hk;rw[if_pos (by simp[Region.wanted,hg])];exact step _ hk
  |some jw=>
   obtain⟨j,want⟩:=jw;rw[hg]at hk;simp only at hk;cases hu:V.cq ops.toList U j with
   |true=>
    rw[hu]at hk;rw[if_neg (by simp[Region.wanted,hg,hs.cq hu])];exact skip hk
   |false=>
    rw[hu]at hk;simp only at hk;cases ho:V.guardOf ops.toList U j with
    |none=>rw[ho]at hk;exact hk.elim
    |some b=>
     rw[ho]at hk;have hb:=hs.guardOf ho;cases b<;>cases want<;>simp only at hk
     .rw[if_pos (by simp[Region.wanted,hg,hb])];exact step _ hk
     .rw[if_neg (by simp[Region.wanted,hg,hb])];exact skip hk
     .rw[if_neg (by simp[Region.wanted,hg,hb])];exact skip hk
     rw[if_pos (by simp[Region.wanted,hg,hb])];exact step _ hk
omit [aM]in
theorem B0:∀{l:List Nat}{p:Nat->Prop}{i:Nat},Nh l p->i∈l->p i
 |_::_,_,_,h,hi=>by
  rcases List.mem_cons.1 hi with rfl|hi
  .exact h.1
  exact B0 h.2 hi
omit [aM]in
theorem KF{listed:Array Bool}{done:List Nat}(dQ:listed.size=ops.size)(h:∀i,i<ops.size->listed.getD i true=done.contains i){i:Nat}(hi:i∈Region.ready .any ops listed):i∈kb ops.toList done:=by
 obtain⟨h1,o,ho,h2⟩:=mem_ready.1 hi;have cG:=(Array.getElem?_eq_some_iff.1 ho).1;have hg:ops.toList.getD i default=o:=by
  rw[List.getD_eq_getElem?_getD,show ops.toList[i]?=some o by simpa using ho];rfl
 refine List.mem_filter.2 ⟨List.mem_range.2 (by simpa using cG),?_⟩;rw[Bool.and_eq_true,hg];refine⟨by rw[<-h i cG,h1];rfl,List.all_eq_true.2 λe he=>?_⟩;cases hb:Region.binds .any e with
 |false=>
  unfold Region.binds at hb;cases XP:e.ground<;>rw[XP]at hb<;>first|(simp at hb;done)|simp
 |true=>
  have h3:=h2 e (by simpa using he) hb;have NT:e.on<ops.size:=by
   rcases Nat.lt_or_ge e.on listed.size with h'|h'
   .omega
   simp[Array.getD_eq_getD_getElem?,Array.getElem?_eq_none h']at h3
  have h4:=h e.on NT;rw[dq h3]at h4;rw[<-h4];simp
omit [aM]in
theorem KG{listed:Array Bool}{done:List Nat}(dQ:listed.size=ops.size)(h:∀i,i<ops.size->listed.getD i true=done.contains i)(VJ:∀i,i∈done->i<ops.size){i:Nat}(hi:i∈kb ops.toList done):i∈Region.ready .any ops listed:=by
 obtain⟨h1,h2⟩:=List.mem_filter.1 hi;have cG:i<ops.size:=by simpa using h1
 rw[Bool.and_eq_true]at h2;have hg:ops.toList.getD i default=ops[i]:=by
  rw[List.getD_eq_getElem?_getD,show ops.toList[i]?=some ops[i]by simp[cG]];rfl
 rw[hg]at h2;refine mem_ready.2 ⟨by rw[h i cG];simpa using h2.1,ops[i],Array.getElem?_eq_getElem cG,λe he hb=>?_⟩;have h3:=List.all_eq_true.1 h2.2 e (by simpa using he);have h4:done.contains e.on=true:=by
  unfold Region.binds at hb;cases XP:e.ground<;>rw[XP]at h3 hb<;>first|(simp at hb;done)|simpa using h3
 have NT:=VJ e.on (by simpa using h4);have:=h e.on NT;rw[h4]at this;have fG:e.on<listed.size:=by omega
 simpa[fG]using this
theorem HV(hT:br P T){F:Fence}(hF:FW F)(ak:cx.Ok)(hy:bB P cx)(bZ:∀o∈ops.toList,∀t,o.dst=some t->t<N){n:Nat}{K:St->Prop}{Q:Exit->Act->World->Prop}(hQ:∀σ' a' w',K σ'->aac cx σ' N a' w'->Q .normal a' w'):
    ∀(g f:Nat)(done:List Nat)(listed:Array Bool)(U:St)(a:Act)(w:World),listed.size=ops.size->(∀i,i<ops.size->listed.getD i true=done.contains i)->(∀i,i∈done->i<ops.size)->listed.toList.count false=g->aac cx U N a w->l7 T (CD P sh) ops.toList f done U K->
     wpAnyIn F n P .any ops Q g listed a w:=by
  intro g
  induction g with
  |zero=>
   intro f done listed U a w dQ hl VJ hc hs hk;have NR:Region.ready .any ops listed=[]:=by
    cases Dw:Region.ready .any ops listed with
    |nil=>rfl
    |cons x xs=>
     obtain⟨h0,o,ho,_⟩:=mem_ready.1 (show x∈Region.ready .any ops listed by rw[Dw];simp);rw[mi hc (by have:=(Array.getElem?_eq_some_iff.1 ho).1;omega)]at h0;cases h0
   cases f with
   |zero=>exact hk.elim
   |succ f=>
    simp only[l7]at hk;have gi:kb ops.toList done=[]:=by
     cases gi:kb ops.toList done with
     |nil=>rfl
     |cons x xs=>
      have hx:x∈kb ops.toList done:=by rw[gi];simp
      obtain⟨h1,h2⟩:=List.mem_filter.1 hx;have hx:x<ops.size:=by simpa using h1
      have:=hl x hx;rw[mi hc (by omega)]at this;rw[<-this]at h2;cases h2
    rw[gi]at hk;exact wpAnyIn_done NR (hQ _ _ _ hk hs) 0
  |succ g ih=>
   intro f done listed U a w dQ hl VJ hc hs hk;cases f with
   |zero=>exact hk.elim
   |succ f=>
    simp only[l7]at hk;cases Dw:Region.ready .any ops listed with
    |nil=>
     have gi:kb ops.toList done=[]:=by
      cases gi:kb ops.toList done with
      |nil=>rfl
      |cons x xs=>
       have:=KG dQ hl VJ (show x∈kb ops.toList done by rw[gi];simp);rw[Dw]at this;cases this
     rw[gi]at hk;exact wpAnyIn_done Dw (hQ _ _ _ hk hs) _
    |cons x xs=>
     refine wpAnyIn_all Dw (by simp) λi hi=>?_;rw[<-Dw]at hi;have T5:=KF dQ hl hi;obtain⟨jT,o,ho,_⟩:=mem_ready.1 hi;have cG:=(Array.getElem?_eq_some_iff.1 ho).1;have hg:ops.toList.getD i default=o:=by
      rw[List.getD_eq_getElem?_getD,show ops.toList[i]?=some o by simpa using ho];rfl
     split at hk
     .rename_i h0;rw[h0]at T5;cases T5
     have vN:=B0 hk T5;rw[hg]at vN;refine NS hT hF ak hy ho (bZ o (List.mem_of_getElem? (by simpa using ho))) (λb y nb h=>by cases h) (λσ' a' w' h fu=>?_) hs vN;refine ih f (i::done) _ σ' a' w' (by simpa using dQ) (λj hj=>?_) (λj hj=>(by rcases List.mem_cons.1 hj with rfl|hj;exact cG;exact VJ j hj)) (by have:=count_set (l:=listed) (i:=i) (by omega) jT;omega) fu h;by_cases ie:j=i
     .subst ie
      simp[show j<listed.size by omega]
     rw[getD_set_ne true (Ne.symm ie),hl j hj];simp[ie]
theorem pA{lo:Nat}(cY:cx.lo<=lo)(hT:br P T)(ef:P.follows .mixedOrders=true){F:Fence}(hF:FW F)(ak:cx.Ok)(hy:bB P cx)(bZ:∀o∈ops.toList,∀t,o.dst=some t->t<N)(hs:aac cx U N a w){n id:Nat}{dr:Bool}{K:St->Prop}{Q:Exit->Act->World->Prop}
    (hQ:∀σ' a' w',K σ'->aac cx σ' N a' w'->Q .normal a' w')
    (hk:match dr with
     |false=>aL T (CD P sh) (oX lo) ops.toList ops.toList 0 U K
     |true=>(ly ops.toList=true/\aL T (CD P sh) mZ ops.toList ops.toList 0 U K)\/
      ((∃(m:Nat)(late:List Nat),jy ops.toList m late=true/\aL T (CD P sh) tR ops.toList (ops.toList.take m) 0 U λτ=>cB T (CD P sh) ops.toList U.boxes.length late m (na m late) (ops.toList.drop m) τ K)\/
      ((∃(p:List Nat)(m:Nat)(late:List Nat),(rQ ops.toList.length p&&jy (e7 ops.toList p) m late)=true/\aL T (CD P sh) tR (e7 ops.toList p) ((e7 ops.toList p).take m) 0 U λτ=>cB T (CD P sh) (e7 ops.toList p) U.boxes.length late m (na m late) ((e7 ops.toList p).drop m) τ K)\/
      (∃m:Nat,oA ops.toList m=true/\aL T (CD P sh) mZ ops.toList (ops.toList.take m) 0 U λτ=>aL T (CD P sh) xi ops.toList (ops.toList.drop m) m τ K)\/
      (∃(aE:List Nat)(τ:St),l7 T (CD P sh) ops.toList (ops.toList.length+1) [] U (λσ'=>(⟨il σ'.tmps aE,σ'.boxes,σ'.y⟩:St)=τ)/\K τ)))):(Code.region id ops dr).wpIn F n P Q a w:=by
  cases dr with
  |false=>exact lH (dr:=false) cY hT ef hF ak hy bZ hs hQ hk
  |true=>
   simp only at hk;rcases hk with hk|hk|⟨p,m,late,hl,hk⟩|⟨m,hm,hk⟩|⟨aE,τ,hk,hK⟩
   .exact lH (dr:=true) cY hT ef hF ak hy bZ hs hQ (.inl hk)
   .exact lH (dr:=true) cY hT ef hF ak hy bZ hs hQ (.inr hk)
   .rw[Bool.and_eq_true]at hl
    have hp:=BY hl.1;refine wpIn_region_any ef ?_;have hd:∀o∈(e7 ops.toList p).toArray.toList,∀t,o.dst=some t->t<N:=λo ho t ht=>by
     obtain⟨k,bF⟩:=List.mem_iff_getElem?.1 ho;have bF:(e7 ops.toList p).toArray[k]?=some o:=by simpa using bF
     obtain⟨i,hi,rfl⟩:=hp.VI k (by rw[<-hp.size];exact(Array.getElem?_eq_some_iff.1 bF).1);have hio:ops[i]?=some ops[i]:=Array.getElem?_eq_getElem hi;rw[hp.get i _ hio]at bF;cases bF;exact bZ ops[i] (by simp) t ht
    have main:=tj (n:=n) (ops:=(e7 ops.toList p).toArray) hT hF ak hy hd hs hQ m late hl.2 hk;rw[hp.size]at main;exact hp.any ops.size _ _ a _ (λi hi d=>by simp[Array.getD,hi,hp.lt i hi]) (by simp) (by simp) main
   .exact xw hT ef hF ak hy bZ hs hQ hm hk
   refine wpIn_region_any ef (HV hT hF ak hy bZ (K:=λσ'=>(⟨il σ'.tmps aE,σ'.boxes,σ'.y⟩:St)=τ) (λσ' a' w' h fu=>hQ τ a' w' hK ?_) ops.size _ _ _ U a _ (by simp) (λi hi=>by simp[hi]) (λi hi=>by cases hi) (by simp) (let⟨β,I,S,h1,h2⟩:=hs;⟨β,I,S,h1.aE ak (aB.drew _ w),h2⟩) hk);subst h;obtain⟨β,I,S,fu,ht⟩:=fu;exact⟨β,I,S,{fu with tm:=λt d hV hl=>fu.tm t d hV (iU hl),bx:=fu.bx,clear:=fu.clear,j:=fu.j},ht⟩
end
end Go.V
namespace Go.V
open Go.RowKit
section
variable{P:Program}[aM]{sh:er}{ish:Nat->Bool}{T:Nat->Option TI}{cx:Cx}{U:St}{N:Nat}{a:Act}{w:World}{ops:Array Oper}
omit [aM]in
theorem aac.Gg(hs:aac cx U N a w){dst:Option Nat}(hd:∀t,dst=some t->look U.tmps t=none)(v:Value):aac cx U N (a.put dst v) w:=by
 obtain⟨β,I,S,h,ht⟩:=hs;cases dst with
 |none=>exact⟨β,I,S,h,ht⟩
 |some u=>
  refine⟨β,I,S,{h with tm:=λt d hV hl=>?_,sz:=by simp[Act.put,h.sz],marks:=h.marks,ep:=h.ep,nd:=h.nd},ht⟩;obtain⟨x,hx,hr⟩:=h.tm t d hV hl;have eh:u≠t:=λe=>by rw[e]at hd;rw[hd t rfl]at hl;cases hl
  refine⟨x,?_,hr⟩;show(a.tmps.setIfInBounds u v)[t]?=some x;rw[Array.getElem?_setIfInBounds_ne eh];exact hx
theorem Ev{F:Fence}(hF:FW F)(ak:cx.Ok)(hs:aac cx U N a w){o:Oper}{Q:Ex->St->Prop}{n i:Nat}(ho:ops[i]?=some o)(h:xj (CD P sh) U o Q):wpOpsIn F n P ops (qP cx N Q) [i] a w:=by
 unfold xj at h;obtain⟨β,I,S,bq,ht⟩:=hs;cases hg:o.guard with
 |some g=>rw[hg]at h;exact h.elim
 |none=>
  rw[hg]at h;cases TY:o.op with
  |call c=>
   rw[TY]at h;simp only at h;cases hc:c.callee with
   |value f=>
    rw[hc]at h;simp only at h;split at h
    .rename_i fk fs cs as hf has
     obtain⟨rs,qB,v,⟨vk,aat⟩,hv⟩:=h;obtain⟨vs,us,YF,h1,h2⟩:=(bq.ev (x:=f) (λt e=>trivial) hf).oD;have h3:=bq.jv (λx t hx e=>trivial) has;have gi:=h1.append (h3.append h2);have aq:=ft bq.agree bq.bx bq.Jc gi qB;have gJ:=aat w _ _ (db bq.agree _ β) (aW.le_trans (aW.le_trans ak.gl bq.I0) (dU bq.agree _ _)) aq;have aP:=gI (P:=P) (w:=w) TY hc YF vk;have rY:(vs++c.args.map a.eval)++us=(vs.toList++(c.args.toList.map a.eval++us.toList)).toArray:=by
      apply Array.toList_inj.1;simp
     rw[rY]at aP;simp only[wpOpsIn,ho];rw[if_pos (by simp[Region.wanted,hg])];refine⟨λf _=>hF.fn f,?_⟩;rw[Oper.semAt_eq _ _ _ (by rw[TY];simp),aP];refine⟨λhh=>absurd hh (by rw[hF.depth];simp),(hF.calls gJ).mono ?_⟩;rintro e w'⟨hk,he,gT⟩;have fu:aac cx U N a w':=⟨β,I,S,bq.xT ak hk.plus (gT.of_le (dU bq.agree _ _)),ht⟩;cases v with
     |none=>
      obtain⟨v,rfl⟩:=he;exact⟨U,hv.2,fu.Gg hv.1 v⟩
     |some v=>
      have he:e=.panicked [{v,recovered:=false}]:=he;subst he;exact⟨_,v,rfl,hv,fu⟩
    exact h.elim
   |_=>rw[hc]at h;exact h.elim
  |_=>rw[TY]at h;exact h.elim
theorem HW{lo:Nat}(cY:cx.lo<=lo)(hT:br P T){F:Fence}(hF:FW F)(ak:cx.Ok)(hy:bB P cx)(bZ:∀o∈ops.toList,∀t,o.dst=some t->t<N)(hs:aac cx U N a w){n id:Nat}{Q:Ex->St->Prop}
    (hk:G6 T (CD P sh) (λl U K=>aL T (CD P sh) (oX lo) ops.toList l 0 U K) ops.toList U Q):(Code.region id ops false).wpIn F n P (qP cx N Q) a w:=by
  have gen:∀(pre:List Oper)(o:Oper),ops.toList=pre++[o]->(aL T (CD P sh) (oX lo) ops.toList pre 0 U λτ=>xj (CD P sh) τ o Q)->wpOpsIn F n P ops (qP cx N Q) (List.range ops.size) a w:=by
   intro pre o he hk;have dQ:ops.size=pre.length+1:=by rw[<-Array.length_toList,he];simp
   have:=Ee hT hF ak hy bZ (F4 cY) (n:=n) (Q:=qP cx N Q) (tl:=[pre.length]) (K:=λτ=>xj (CD P sh) τ o Q) (λσ' a' w' hK dW=>Ev hF ak dW (by
    have:ops.toList[pre.length]?=some o:=by rw[he];simp
    simpa using this) hK) pre 0 U a w (λj o' hj=>by
    have:ops.toList[j]?=some o':=by rw[he,List.getElem?_append_left (List.getElem?_eq_some_iff.1 hj).1];exact hj
    simpa using this) hs hk
   rw[dQ,List.range_succ,List.range_eq_range'];exact this
  refine wpIn_region ?_;unfold G6 at hk;split at hk
  .rename_i o1 o2 he
   split at hk
   .rename_i t k m u u' e1 e2 e3 e4 e5
    obtain⟨rfl,⟨ti,kd,YB,VK⟩,hq⟩:=hk;have dQ:ops.size=2:=by rw[<-Array.length_toList,he];rfl
    have h0:ops[0]?=some o1:=by
     have:ops.toList[0]?=some o1:=by rw[he];rfl
     simpa using this
    have h1:ops[1]?=some o2:=by
     have:ops.toList[1]?=some o2:=by rw[he];rfl
     simpa using this
    have aau:P.underlying t=some (.int kd):=by rw[(hT t ti YB).desc,VK]
    have Hu:(execOp a.eval o1).run P w=.ok (.value (.iface t (.int k m))) w:=by
     unfold execOp;simp only[e1];simp only[Instr.makeInterface,Sem.run_bind,run_underlying aau,Result.andThen_ok,Act.eval,Sem.run_pure]
    have hu:u<N:=bZ o1 (by rw[he];simp) u e5;have Ku:u<a.tmps.size:=by obtain⟨β,I,S,h,_⟩:=hs;rw[h.sz];exact hu
    have zs:∀a':Act,a'.eval (.tmp u)=.iface t (.int k m)->(execOp a'.eval o2).run P w=.halt (.panic (.iface t (.int k m))) w:=by
     intro a' ha;unfold execOp;simp only[e2];have hp:(Instr.panic (a'.eval (.tmp u))).run P w=.halt (.panic (.iface t (.int k m))) w:=by rw[ha];simp[go_sem,Instr.panic]
     simp only[Sem.run_bind,hp];rfl
    rw[dQ];show wpOpsIn F n P ops (qP cx N Q) [0,1] a w;simp only[wpOpsIn,h0,h1];rw[if_pos (by simp[Region.wanted,e3])];refine cz hF (by rw[e1];simp) Hu ?_;rw[if_pos (by simp[Region.wanted,e4])];refine⟨λf _=>hF.fn f,?_⟩;rw[Oper.semAt_eq _ _ _ (by rw[e2];simp),zs _ (by rw[e5];simp[Act.eval,Act.put,Ku])];refine⟨_,_,rfl,hq,?_⟩;rw[e5];refine aac.Gg (U:=⟨uZ u U.tmps,U.boxes,U.y⟩) ?_ (λt e=>?_) _
    .obtain⟨β,I,S,h,ht⟩:=hs
     exact⟨β,I,S,{h with tm:=λt d hV hl=>h.tm t d hV (l8 hl).2,bx:=h.bx,clear:=h.clear,j:=h.j},ht⟩
    cases e;cases hl:look (uZ u U.tmps) u with
    |none=>rfl
    |some d=>exact absurd rfl (l8 hl).1
   exact gen [o1] o2 he hk
  rename_i l eh;by_cases he:ops.toList=[]
  .rw[he]at hk
   exact(show False from hk).elim
  have e:=List.dropLast_concat_getLast he;rw[List.getLast?_eq_some_getLast he]at hk;exact gen _ _ e.symm hk
end
end Go.V
namespace Go.V
open Go.RowKit
section
variable{P:Program}[aM]{sh:er}{ish:Nat->Bool}{T:Nat->Option TI}{cx:Cx}{V:Nat->Prop}{U:St}{β:BE}{I:aW}{S:Nat->Prop}{N:Nat}{a:Act}{w:World}
theorem zz{f:Operand}{ps:Array Tmp}{as c:Code}(has:M7 P sh ish T N as)(fS:M7 P sh ish T N c)(M9:∀p∈ps.toList,p<N){lo kf:Nat}{cs:List D}{Q:Ex->St->Prop}{F:Fence}{n:Nat}
    (hW:DJ (nc P ish) kf cs ps.toList lo U Q (λlo U Q=>W T (CD P sh) (nc P ish) lo as U Q) (λlo U Q=>W T (CD P sh) (nc P ish) lo c U Q))(hf:U.ev f=some (.bR (.func kf) [] cs))(hF:FW F)(ak:cx.Ok)(hR:qQ F cx)(hy:bB P cx)(cY:cx.lo<=lo)
    (hs:bf cx (λ_=>True) U β I S N a w)(cK:∀i,i<U.boxes.length->(β i).isSome=true):(Code.rangeFunc f ps as c).wpIn F n P (qP cx N Q) a w:=by
  obtain⟨m,FN,Ja,rfl,aav,aaw,xs,hit,aE,nb,jC,Inv,VL,JC,KH,B1,vR,p5,mP⟩:=hW;obtain⟨du,fp⟩:=KH;have VL:=Nat.le_of_ble_eq_true VL;have lM:cx.lo<=nb:=Nat.le_trans cY (Nat.le_of_ble_eq_true JC);obtain⟨vs,us,hv,h1,h2⟩:=(hs.ev (x:=f) (λt e=>trivial) hf).oD;have oG:vs=#[]:=by have:=h1.cR;exact Array.toList_inj.1 (by simpa using this)
  subst oG;refine wpIn_rangeFunc λfn Ue=>?_;obtain⟨l,mark,w1,Df,VM,xq,Kz,uw,KI,pw⟩:=p4 (P:=P) (λl hl=>hR l _ _ _ hl hs.j) fn a.tmps ps as c;have gu:bf cx (λ_=>True) U β I S N {a with defers:=mark++a.defers} w1:={hs.aE ak xq with
   nd:=List.pairwise_append.2 ⟨KI,hs.nd,λd hd d' gq e=>by
    obtain⟨R,e1,_,h4⟩:=pw d hd;obtain⟨R',e2,h5,_⟩:=hs.marks d' gq (λhD=>ak.d _ hD R (by rw[<-e,e1]));rw[e1,e2]at e;cases e;have:=bo h5;omega⟩
   ep:=λd hd=>List.mem_append_right _ (hs.ep d hd)
   marks:=λd hd hD=>by
    rcases List.mem_append.1 hd with hd|hd
    .obtain⟨R,e,h3,h4⟩:=pw d hd
     exact⟨R,e,h3,λho=>by have:=hs.n0 R ho;omega,λhS=>by have:=hs.sb R hS;omega⟩
    exact(hs.aE ak xq).marks d hd hD}
  have VN:=gu.cut (nb:=nb) ak lM (tm:=(U.clean aE nb).tmps) (λt d _ ht=>by
   obtain⟨v,hv,hr⟩:=gu.tm t d trivial (iU ht);exact⟨v,hv,hr.ue nb (fY du ht)⟩) fp
  obtain⟨β3,qV,KJ,hR3⟩:=VN.qS ak (cF jC) (λi hi=>by
        have hi:i<(U.boxes.take nb).length:=hi;rw[List.length_take]at hi;unfold eY;rw[if_pos (by omega)];exact cK i (by omega))
  have VO:=j0 jC (U.clean aE nb);have YF:St.vec (U.clean aE nb) (cF jC)=⟨(U.clean aE nb).tmps,(St.vec (U.clean aE nb) (cF jC)).boxes,U.y⟩:=by
   revert VO
   generalize St.vec (U.clean aE nb) (cF jC)=τ
   rintro⟨h1,h2⟩;cases τ;simp only at h1 h2;rw[h1,h2];rfl
  have qV:bf cx (λ_=>True) (St.vec (U.clean aE nb) (cF jC)) β3 I S N {a with defers:=mark++a.defers} w1:=qV;rw[YF]at qV;have KJ:∀i,i<(St.vec (U.clean aE nb) (cF jC)).boxes.length->(β3 i).isSome=true:=KJ;have M8:¬S l:=λh=>by have:=hs.sb l h;omega
  have tY:¬cx.dP l:=λho=>by have:=hs.n0 l ho;omega
  obtain⟨Xs,Eb⟩:∃Xs:Nat->Prop,Xs=λR=>∃i b,β (i+m)=some b/\b.R=some R:=⟨_,rfl⟩;have Eb:∀R,Xs R↔∃i b,β (i+m)=some b/\b.R=some R:=λR=>by rw[Eb]
  have KK:∀i:Nat,U.boxes[i+m]?=(Ja[i]?).map (af.eg λi=>i+m):=λi=>by
   rw[<-List.getElem?_map,aav,List.getElem?_drop,Nat.add_comm]
  have uz:∀{R off v},Xs R->I R off=some v->False:=λ{R off v} hx hv=>by
   obtain⟨i,b,hb,hR⟩:=(Eb R).1 hx;obtain⟨box,h3,_⟩:=gu.bx _ b hb;have h4:=KK i;rw[h3]at h4;cases h5:Ja[i]? with
   |none=>rw[h5]at h4;cases h4
   |some b0=>
    rw[h5]at h4;cases h4;rw[gu.clear _ b R _ hb hR h3 (by rw[af.zh];exact qK aaw b0 (List.mem_of_getElem? h5)) off]at hv;cases hv
  have KL:∀{R},Xs R->∃o,w1.heap[R]?=some o/\(∀r,o≠.loop r)/\∀r,o≠.deferred r:=λ{R} hx=>by
   obtain⟨i,b,hb,hR⟩:=(Eb R).1 hx;obtain⟨box,_,h3⟩:=gu.bx _ b hb;obtain⟨_,eX,hh⟩:=h3.lt hR;exact⟨_,hh,λr e=>(by subst e;exact Bool.noConfusion eX),λr e=>(by subst e;exact Bool.noConfusion eX)⟩
  obtain⟨O,hO⟩:∃O:Nat->Prop,O=λk=>k<w1.heap.size/\¬Xs k:=⟨_,rfl⟩;have hO:∀k,O k↔(k<w1.heap.size/\¬Xs k):=λk=>by rw[hO]
  have hOl:O l:=(hO l).2 ⟨bo uw,λhx=>by obtain⟨o,h3,h4,_⟩:=KL hx;rw[uw]at h3;cases h3;exact h4 _ rfl⟩;obtain⟨O',KM⟩:∃O':Nat->Prop,O'=λk=>O k/\¬Mem I k:=⟨_,rfl⟩;have KM:∀k,O' k↔(O k/\¬Mem I k):=λk=>by rw[KM]
  have ml:Rb cx β3 I S {a with defers:=mark++a.defers} I O':=by
   have hd:=qV.dep (aW.le_refl _);refine⟨λk hk hm=>(KM k).2 ⟨(hO k).2 ⟨(hd.lo k hk hm).1,λhx=>?_⟩,hm⟩,λB off v hv hm=>(KM B).2 ⟨(hO B).2 ⟨(hd.im B off v hv hm).1,λhx=>uz hx hv⟩,hm⟩,λi b R hb hR=>(KM R).2 ⟨(hO R).2 ⟨(hd.bx i b R hb hR).1,λhx=>?_⟩,(hd.bx i b R hb hR).2⟩,λk hk=>(KM k).2 ⟨(hO k).2 ⟨(hd.ss k hk).1,λhx=>?_⟩,(hd.ss k hk).2⟩,λd hm R hR=>(KM R).2 ⟨(hO R).2 ⟨(hd.HP d hm R hR).1,λhx=>?_⟩,(hd.HP d hm R hR).2⟩⟩
   .obtain⟨i,b,hb,hR⟩:=(Eb k).1 hx
    exact(gu.own _ b k hb hR).1 hk
   .obtain⟨i',b',eW,dh⟩:=hR3 i b R hb hR
    have bC:i'<nb/\β i'=some b':=by
     unfold eY at eW;split at eW
     .exact⟨by assumption,eW⟩
     cases eW
    obtain⟨k,c,hc,nH⟩:=(Eb R).1 hx;have:=gu.apart i' (k+m) b' c R bC.2 hc dh nH;omega
   .obtain⟨i,b,hb,hR⟩:=(Eb k).1 hx
    exact(gu.own _ b k hb hR).2 hk
   obtain⟨R',e,h3,_⟩:=gu.marks d hm (λhD=>ak.d _ hD _ hR);rw[e]at hR;cases hR;obtain⟨o,h4,_,h5⟩:=KL hx;rw[h3]at h4;cases h4;exact h5 _ rfl
  have hle:I.le I:=aW.le_refl _;refine⟨l,mark,w1,{target:=.fn (.func kf) us,args:=#[.func (.yield l) #[] #[]]},w1,kf,#[.func (.yield l) #[] #[]]++us,w1,VM,?_,?_,?_,λhh=>absurd hh (by rw[hF.depth];simp),?_⟩
  .simp only[resolve,hv]
   simp[go_sem]
  .intro f' _;exact hF.fn f'
  .exact(hit l).1 _ _
  have hp:Hp ⟨O,λ_=>True,RJ dM cx ⟨(U.clean aE nb).tmps,U.boxes,U.y⟩ N xs Inv Q (λst pe=>{state:=st,pending:=pe,fn:=fn,tmps:=a.tmps,params:=ps,assign:=as,body:=c,defers:=Df}) l I {a with defers:=mark++a.defers},I,λ_ _=>False,0,dM,λ_=>False⟩
      Ja (.rem l xs) (λi=>β (i+m)) I O' w1:=by
    refine⟨{tm:=λt d _ hl=>(by cases hl),sz:=rfl,agree:=gu.agree,bx:=λi b hb=>?_,apart:=λi j b c R hb hc hR dh=>?_,own:=λi b R hb hR=>?_,clear:=λi b R box hb hR aN NG off=>?_,fr:=trivial,n0:=λk hk=>((hO k).1 hk).1,I0:=aW.le_refl _,fV:=λ_ _ _=>rfl,j:=?_,sb:=λk hk=>((hO k).1 ((KM k).1 hk).1).1,sI:=λB off v hv hB=>absurd ((hO B).2 ⟨cy (gu.agree B off v hv),λhx=>uz hx hv⟩) hB,nt:=λB hB=>hB.elim (λh=>((KM B).1 h).2) λ⟨i,b,hb,hR⟩=>gu.nt B (.inr ⟨_,b,hb,hR⟩),gh:=λ_ _ h=>h.elim,qw:=λi b hb=>(by cases hb),nd:=.nil,ep:=λ_ h=>h.elim,dn:=λ_ h=>h.elim,marks:=λd hd=>(by cases hd)},λi hi=>?_⟩
    .obtain⟨box,h3,h4⟩:=gu.bx _ b hb
     have h5:=KK i;rw[h3]at h5;cases h6:Ja[i]? with
     |none=>rw[h6]at h5;cases h5
     |some b0=>
      rw[h6]at h5;cases h5;exact⟨b0,rfl,h4.s9 (f:=λi=>i+m) λ_=>rfl⟩
    .have:=gu.apart _ _ b c R hb hc hR dh
     omega
    .have hx:Xs R:=(Eb R).2 ⟨i,b,hb,hR⟩
     exact⟨λho=>((hO R).1 ho).2 hx,λho=>((hO R).1 ((KM R).1 ho).1).2 hx⟩
    .cases hv:I R off with
     |none=>rfl
     |some u=>exact(uz ((Eb R).2 ⟨i,b,hb,hR⟩) hv).elim
    .exact⟨w1,⟨_,U.y,β3,I,S,.ready,none,aW.le_refl _,qV,KJ,nA _,M8,ml,(KM l).2 ⟨hOl,gu.agree.cells uw (λ_ _ e=>by cases e)⟩,uw,.inl ⟨0,rfl,Nat.zero_le _,B1,rfl,rfl⟩⟩,aB.refl _ _⟩
    have h3:=KK i;have h4:Ja[i]?=some (Ja[i]'hi):=List.getElem?_eq_getElem hi;rw[h4]at h3;exact cK _ (List.getElem?_eq_some_iff.1 h3).1
  have aq:bn I (λi=>β (i+m)) us.toList FN:=h2.s9 λ_=>rfl;have hyX:=vQ (ls:=false) (kp:=[]) (bK:=dM) (a:={a with defers:=mark++a.defers}) (U:=⟨(U.clean aE nb).tmps,U.boxes,U.y⟩) (nb:=nb+jC.length) (xs:=xs) (Inv:=Inv) (Q:=Q) (l:=l) (fn:=fn) (Df:=Df) (tmps0:=a.tmps) has fS M9 ak hy (Nat.le_trans lM (Nat.le_add_right _ _)) rfl (lk (Nat.le_add_right _ _) du) hs.I0 tY (λd hd e=>by
            obtain⟨R,e',h3,_⟩:=gu.marks d hd (λhD=>ak.d _ hD _ e);rw[e']at e;cases e;rw[h3]at uw;cases uw) vR p5 (old0:=O) (λk⟨c,hc⟩=>(hO k).2 ⟨cy (gu.agree _ _ _ hc),λhx=>uz hx hc⟩) (λ_ _ h=>by cases h) (λ_ h=>by cases h) (lo0:=0) (b00:=dM)
  have aax:Cx.Ok ⟨O,λ_=>True,RJ dM cx ⟨(U.clean aE nb).tmps,U.boxes,U.y⟩ N xs Inv Q (λst pe=>{state:=st,pending:=pe,fn:=fn,tmps:=a.tmps,params:=ps,assign:=as,body:=c,defers:=Df}) l I {a with defers:=mark++a.defers},I,λ_ _=>False,0,dM,λ_=>False⟩:=
   ⟨aW.le_trans ak.gl hs.I0,λ_ _ _ _=>trivial,λ_ _ _ _ h k=>h.aE k,λ_ _ h=>h.elim,λ_ _ h=>(by cases h),λ_ h=>h.elim⟩
  have gJ:=(hit l).2 _ w1 _ I O' (Value.func (.yield l) #[] #[]::us.toList) aax hyX (Nat.zero_le _) hp (bn.cons (.j8 l) aq);have rY:(#[Value.func (.yield l) #[] #[]]++us:Array Value)=(Value.func (.yield l) #[] #[]::us.toList).toArray:=by apply Array.toList_inj.1;simp
  rw[rY];refine(hF.calls gJ).mono ?_;rintro e w'⟨v,d',bu,y',β',I',S',rfl,pZ,⟨Y4,_⟩,_⟩;obtain⟨bs,y,β',I',S₀,st,pe,h3,h4,h5,_,h6,h7,h8,h9,bG⟩:=RJ.now ak Y4.j (Y4.agree.of_le Y4.I0);have nh:=run_endLoop (P:=P) h9 (by rcases bG with⟨_,_,_,_,rfl,_⟩|⟨_,rfl,_⟩<;>simp);have zA:=h4.zw ak h9 h6 tY (.loop {state:=.exhausted,pending:=pe,fn:=fn,tmps:=a.tmps,params:=ps,assign:=as,body:=c,defers:=Df});refine⟨pe,_,nh,?_⟩;rcases bG with⟨i,uf,hi,hinv,rfl,rfl⟩|⟨uf,rfl,c',rfl,hq⟩
  · have rU:xs.drop i=[]:=by
      rcases pZ with⟨l',h⟩|h
      .have uf:y'=_:=uf
       rw[uf]at h;exact(eG.rem.inj h).2
      have uf:y'=_:=uf;rw[uf]at h;cases h
    have:i=xs.length:=by simp at rU;omega
    subst this;exact⟨⟨(U.clean aE nb).tmps,bs,y⟩,mP bs y hinv,β',I',S₀,zA,h5⟩
  .rcases hq with⟨rfl,hq⟩|⟨id,rfl,hq⟩
   .exact wpIn_ret ⟨⟨(U.clean aE nb).tmps,bs,y⟩,hq,β',I',S₀,zA,h5⟩
   exact wpIn_exit ⟨⟨(U.clean aE nb).tmps,bs,y⟩,hq,β',I',S₀,zA,h5⟩
omit [aM]in
theorem xZ{nb:Nat}{bs:List af}:∀{kp:List (Nat×List D)},FM nb bs kp->∀p∈kp,bs[p.1]?=some (.flat true p.2)/\cu p.2=true/\0<p.2.length/\p.1<nb
 |[],_,_,h=>by cases h
 |(i,cs)::r,hk,p,h=>by
  rcases List.mem_cons.1 h with rfl|h
  .exact hk.1
  exact xZ hk.2 p h
theorem zB{f:Operand}{ps:Array Tmp}{as c:Code}(has:M7 P sh ish T N as)(fS:M7 P sh ish T N c)(M9:∀p∈ps.toList,p<N){lo kf:Nat}{cs:List D}{Q:Ex->St->Prop}{F:Fence}{n:Nat}
    (hW:DK (nc P ish) kf cs ps.toList lo U Q (λlo U Q=>W T (CD P sh) (nc P ish) lo as U Q) (λlo U Q=>W T (CD P sh) (nc P ish) lo c U Q))(hf:U.ev f=some (.bR (.func kf) [] cs))(hF:FW F)(ak:cx.Ok)(hR:qQ F cx)(hy:bB P cx)(cY:cx.lo<=lo)
    (hs:bf cx (λ_=>True) U β I S N a w)(cK:∀i,i<U.boxes.length->(β i).isSome=true):(Code.rangeFunc f ps as c).wpIn F n P (qP cx N Q) a w:=by
  obtain⟨rs,qB,xs,⟨vk,hit⟩,kp,nb,jC,Inv,Nk,O9,JC,du,rfl,fp,rfl,VP,B1,vR,p5,mP⟩:=hW;have lM:cx.lo<=nb:=Nat.le_trans cY (Nat.le_of_ble_eq_true JC);obtain⟨vs,us,hv,h1,h2⟩:=(hs.ev (x:=f) (λt e=>trivial) hf).oD;have oG:vs=#[]:=by have:=h1.cR;exact Array.toList_inj.1 (by simpa using this)
  subst oG;refine wpIn_rangeFunc λfn Ue=>?_;obtain⟨l,mark,w1,Df,VM,xq,Kz,uw,KI,pw⟩:=p4 (P:=P) (λl hl=>hR l _ _ _ hl hs.j) fn a.tmps ps as c;have gu:bf cx (λ_=>True) U β I S N {a with defers:=mark++a.defers} w1:={hs.aE ak xq with
   nd:=List.pairwise_append.2 ⟨KI,hs.nd,λd hd d' gq e=>by
    obtain⟨R,e1,_,h4⟩:=pw d hd;obtain⟨R',e2,h5,_⟩:=hs.marks d' gq (λhD=>ak.d _ hD R (by rw[<-e,e1]));rw[e1,e2]at e;cases e;have:=bo h5;omega⟩
   ep:=λd hd=>List.mem_append_right _ (hs.ep d hd)
   marks:=λd hd hD=>by
    rcases List.mem_append.1 hd with hd|hd
    .obtain⟨R,e,h3,h4⟩:=pw d hd
     exact⟨R,e,h3,λho=>by have:=hs.n0 R ho;omega,λhS=>by have:=hs.sb R hS;omega⟩
    exact(hs.aE ak xq).marks d hd hD}
  have ta:=gu.share (cs.flatMap (aF U.boxes fuel));have aq:bn (bQ (cs.flatMap (aF U.boxes fuel)) β w1 I) dM us.toList rs:=ft gu.agree gu.bx gu.Jc h2 qB;have VN:=ta.cut (U:=⟨U.tmps,au U.boxes 0 (cs.flatMap (aF U.boxes fuel)),U.y⟩) ak lM (tm:=U.tmps) (λt d _ ht=>by
   obtain⟨v,hv,hr⟩:=ta.tm t d trivial ht;exact⟨v,hv,hr.ue nb (fY du ht)⟩) fp
  obtain⟨β3,qV,KJ⟩:=VN.vec ak (cF jC) (λi hi=>by
        have hi:i<((au U.boxes 0 (cs.flatMap (aF U.boxes fuel))).take nb).length:=hi;rw[List.length_take,aO]at hi;unfold eY;rw[if_pos (by omega)];exact cK i (by omega))
  have VO:=j0 jC ⟨U.tmps,(au U.boxes 0 (cs.flatMap (aF U.boxes fuel))).take nb,U.y⟩;rw[show St.vec ⟨U.tmps,(au U.boxes 0 (cs.flatMap (aF U.boxes fuel))).take nb,U.y⟩ (cF jC)=⟨U.tmps,(St.vec ⟨U.tmps,(au U.boxes 0 (cs.flatMap (aF U.boxes fuel))).take nb,U.y⟩ (cF jC)).boxes,U.y⟩by
   revert VO
   generalize St.vec ⟨U.tmps,(au U.boxes 0 (cs.flatMap (aF U.boxes fuel))).take nb,U.y⟩ (cF jC)=τ
   rintro⟨h1,h2⟩;cases τ;simp only at h1 h2;rw[h1,h2]]at qV
  have zA:=qV.share (kp.map (·.1));obtain⟨I4,YS⟩:∃J,bQ (kp.map (·.1)) β3 w1 (bQ (cs.flatMap (aF U.boxes fuel)) β w1 I)=J:=⟨_,rfl⟩;have Rh:(bQ (cs.flatMap (aF U.boxes fuel)) β w1 I).le I4:=by rw[<-YS];exact dU qV.agree _ _
  have M3:∀p∈kp,∃b R,eY (nb+jC.length) β3 p.1=some b/\b.flat=true/\b.R=some R/\0<p.2.length/\∀j d,p.2[j]?=some d->∃v,I4 R (b.o+j)=some v/\v.oneCell'=true/\Rel I4 dM v d:=λp hp=>by
   obtain⟨g1,g2,g3,g0⟩:=xZ VP p hp;have hi:=(List.getElem?_eq_some_iff.1 g1).1;have hb:=KJ p.1 (by rw[aO]at hi;exact hi);cases hc:β3 p.1 with
   |none=>rw[hc]at hb;cases hb
   |some b=>
    obtain⟨box,g4,g5⟩:=zA.bx p.1 b hc;have g4:(au _ 0 (kp.map (·.1)))[p.1]?=some box:=g4;rw[g1]at g4;cases g4;obtain⟨hf,R,c,t,hR,hh,vc⟩:=g5;refine⟨b,R,by unfold eY;rw[if_pos (by omega)];exact hc,hf,hR,g3,λj d hd=>?_⟩;obtain⟨v,hv,hr,h1⟩:=vc.get hd;have ca:c[b.o+j]?=some v:=by
     rw[<-Array.getElem?_toList];exact vb hv
    have eh:v≠jh:=λe=>by subst e;cases h1
    rw[YS]at hr;exact⟨v,by rw[<-YS];exact nF (List.mem_map.2 ⟨p,hp,rfl⟩) hc hR (iq hh ca h1) eh (qV.Jc p.1 b hc R hR),h1,hr.gr (gW g2 hd)⟩
  rw[YS]at zA;have M8:¬S l:=λh=>by have:=hs.sb l h;omega
  have tY:¬cx.dP l:=λho=>by have:=hs.n0 l ho;omega
  have hle:I.le (bQ (cs.flatMap (aF U.boxes fuel)) β w1 I):=dU gu.agree _ _;refine⟨l,mark,w1,{target:=.fn (.func kf) us,args:=#[.func (.yield l) #[] #[]]},w1,kf,#[.func (.yield l) #[] #[]]++us,w1,VM,?_,?_,?_,λhh=>absurd hh (by rw[hF.depth];simp),?_⟩
  .simp only[resolve,hv]
   simp[go_sem]
  .intro f' _;exact hF.fn f'
  .exact vk _ _
  have gJ:=hit w1 _ us.toList l (RJ (eY (nb+jC.length) β3) cx U N xs Inv Q (λst pe=>{state:=st,pending:=pe,fn:=fn,tmps:=a.tmps,params:=ps,assign:=as,body:=c,defers:=Df}) l I4 {a with defers:=mark++a.defers}) (λk=>k<w1.heap.size/\¬Mem I4 k)
    zA.agree (aW.le_trans (aW.le_trans ak.gl hs.I0) (aW.le_trans hle Rh)) (aq.mono Rh (BE.le_refl _)) (λy S w w' h k=>h.aE k)
    (vQ (ls:=true) (kp:=kp) (bK:=eY (nb+jC.length) β3) (a:={a with defers:=mark++a.defers}) (nb:=nb+jC.length) has fS M9 ak hy (Nat.le_trans lM (Nat.le_add_right _ _)) rfl (lk (Nat.le_add_right _ _) du) (aW.le_trans hs.I0 (aW.le_trans hle Rh)) tY (λd hd e=>by
     obtain⟨R,e',h3,_⟩:=gu.marks d hd (λhD=>ak.d _ hD _ e);rw[e']at e;cases e;rw[h3]at uw;cases uw) vR p5 (λk⟨c,hc⟩=>cy (zA.agree _ _ _ hc)) (λ_ _ h=>zx h) M3)
    ⟨w1,⟨_,U.y,β3,_,S,.ready,none,aW.le_refl _,zA,λi hi=>KJ i (by rw[aO]at hi;exact hi),Ga _ _,M8,zA.dep (aW.le_refl _),⟨bo uw,zA.agree.cells uw (λ_ _ e=>by cases e)⟩,uw,.inl ⟨0,rfl,Nat.zero_le _,B1,rfl,rfl⟩⟩,aB.refl _ _⟩ (λB hB=>hB.1) (λB hB=>hB.2)
  have rY:(#[Value.func (.yield l) #[] #[]]++us:Array Value)=(Value.func (.yield l) #[] #[]::us.toList).toArray:=by apply Array.toList_inj.1;simp
  rw[rY];refine(hF.calls gJ).mono ?_;rintro e w'⟨v,y',S',rfl,hJ,pZ,NJ,Ri⟩;obtain⟨bs,y,β',I',S₀,st,pe,h3,h4,h5,_,h6,h7,h8,h9,bG⟩:=hJ.now ak Ri;have nh:=run_endLoop (P:=P) h9 (by rcases bG with⟨_,_,_,_,rfl,_⟩|⟨_,rfl,_⟩<;>simp);have zA:=h4.zw ak h9 h6 tY (.loop {state:=.exhausted,pending:=pe,fn:=fn,tmps:=a.tmps,params:=ps,assign:=as,body:=c,defers:=Df});refine⟨pe,_,nh,?_⟩;rcases bG with⟨i,uf,hi,hinv,rfl,rfl⟩|⟨uf,rfl,c',rfl,hq⟩
  · have rU:xs.drop i=[]:=by
      rcases pZ with⟨l',h⟩|h
      .rw[uf]at h;exact(eG.rem.inj h).2
      rw[uf]at h;cases h
    have:i=xs.length:=by simp at rU;omega
    subst this;exact⟨⟨U.tmps,bs,y⟩,mP bs y hinv,β',I',S₀,zA,h5⟩
  .rcases hq with⟨rfl,hq⟩|⟨id,rfl,hq⟩
   .exact wpIn_ret ⟨⟨U.tmps,bs,y⟩,hq,β',I',S₀,zA,h5⟩
   exact wpIn_exit ⟨⟨U.tmps,bs,y⟩,hq,β',I',S₀,zA,h5⟩
theorem B2{f:Operand}{ps:Array Tmp}{as c:Code}(has:M7 P sh ish T N as)(fS:M7 P sh ish T N c)(M9:∀p∈ps.toList,p<N):M7 P sh ish T N (.rangeFunc f ps as c):=by
 intro lo U Q cx F n a w hW hF ak hR hy cY dW;obtain⟨β,I,S,hs,cK⟩:=dW;simp only[W]at hW;cases hf:U.ev f with
 |none=>rw[hf]at hW;exact hW.elim
 |some df=>
  rw[hf]at hW;cases df with
  |bR fnv fs cs=>
   cases fnv with
   |func kf=>
    simp only at hW;obtain⟨rfl,hW⟩:=hW;cases MV:ish kf with
    |true=>
     simp only[MV]at hW;exact zz has fS M9 hW hf hF ak hR hy cY hs cK
    |false=>
    simp only[MV]at hW;cases zd:ish (kf+4096)with
    |true=>
     simp only[zd]at hW;exact zB has fS M9 hW hf hF ak hR hy cY hs cK
    |false=>
    simp only[zd]at hW;obtain⟨rs,qB,xs,⟨vk,hit⟩,nb,jC,Inv,JC,du,fp,B1,vR,p5,mP⟩:=hW;have lM:cx.lo<=nb:=Nat.le_trans cY (Nat.le_of_ble_eq_true JC);obtain⟨vs,us,hv,h1,h2⟩:=(hs.ev (x:=f) (λt e=>trivial) hf).oD;have oG:vs=#[]:=by have:=h1.cR;exact Array.toList_inj.1 (by simpa using this)
    subst oG;refine wpIn_rangeFunc λfn Ue=>?_;obtain⟨l,mark,w1,Df,VM,xq,Kz,uw,KI,pw⟩:=p4 (P:=P) (λl hl=>hR l _ _ _ hl hs.j) fn a.tmps ps as c;have gu:bf cx (λ_=>True) U β I S N {a with defers:=mark++a.defers} w1:={hs.aE ak xq with
     nd:=List.pairwise_append.2 ⟨KI,hs.nd,λd hd d' gq e=>by
      obtain⟨R,e1,_,h4⟩:=pw d hd;obtain⟨R',e2,h5,_⟩:=hs.marks d' gq (λhD=>ak.d _ hD R (by rw[<-e,e1]));rw[e1,e2]at e;cases e;have:=bo h5;omega⟩
     ep:=λd hd=>List.mem_append_right _ (hs.ep d hd)
     marks:=λd hd hD=>by
      rcases List.mem_append.1 hd with hd|hd
      .obtain⟨R,e,h3,h4⟩:=pw d hd
       exact⟨R,e,h3,λho=>by have:=hs.n0 R ho;omega,λhS=>by have:=hs.sb R hS;omega⟩
      exact(hs.aE ak xq).marks d hd hD}
    have ta:=gu.share (cs.flatMap (aF U.boxes fuel));have aq:bn (bQ (cs.flatMap (aF U.boxes fuel)) β w1 I) dM us.toList rs:=ft gu.agree gu.bx gu.Jc h2 qB;have VN:=ta.cut (U:=⟨U.tmps,au U.boxes 0 (cs.flatMap (aF U.boxes fuel)),U.y⟩) ak lM (tm:=U.tmps) (λt d _ ht=>by
     obtain⟨v,hv,hr⟩:=ta.tm t d trivial ht;exact⟨v,hv,hr.ue nb (fY du ht)⟩) fp
    obtain⟨β3,qV,KJ⟩:=VN.vec ak (cF jC) (λi hi=>by
          have hi:i<((au U.boxes 0 (cs.flatMap (aF U.boxes fuel))).take nb).length:=hi;rw[List.length_take,aO]at hi;unfold eY;rw[if_pos (by omega)];exact cK i (by omega))
    have VO:=j0 jC ⟨U.tmps,(au U.boxes 0 (cs.flatMap (aF U.boxes fuel))).take nb,U.y⟩;rw[show St.vec ⟨U.tmps,(au U.boxes 0 (cs.flatMap (aF U.boxes fuel))).take nb,U.y⟩ (cF jC)=⟨U.tmps,(St.vec ⟨U.tmps,(au U.boxes 0 (cs.flatMap (aF U.boxes fuel))).take nb,U.y⟩ (cF jC)).boxes,U.y⟩by
     revert VO
     generalize St.vec ⟨U.tmps,(au U.boxes 0 (cs.flatMap (aF U.boxes fuel))).take nb,U.y⟩ (cF jC)=τ
     rintro⟨h1,h2⟩;cases τ;simp only at h1 h2;rw[h1,h2]]at qV
    have M8:¬S l:=λh=>by have:=hs.sb l h;omega
    have tY:¬cx.dP l:=λho=>by have:=hs.n0 l ho;omega
    have hle:I.le (bQ (cs.flatMap (aF U.boxes fuel)) β w1 I):=dU gu.agree _ _;refine⟨l,mark,w1,{target:=.fn (.func kf) us,args:=#[.func (.yield l) #[] #[]]},w1,kf,#[.func (.yield l) #[] #[]]++us,w1,VM,?_,?_,?_,λhh=>absurd hh (by rw[hF.depth];simp),?_⟩
    .simp only[resolve,hv]
     simp[go_sem]
    .intro f' _;exact hF.fn f'
    .exact vk _ _
    have gJ:=hit w1 _ us.toList l (RJ dM cx U N xs Inv Q (λst pe=>{state:=st,pending:=pe,fn:=fn,tmps:=a.tmps,params:=ps,assign:=as,body:=c,defers:=Df}) l (bQ (cs.flatMap (aF U.boxes fuel)) β w1 I) {a with defers:=mark++a.defers}) (λk=>k<w1.heap.size/\¬Mem (bQ (cs.flatMap (aF U.boxes fuel)) β w1 I) k)
      ta.agree (aW.le_trans (aW.le_trans ak.gl hs.I0) hle) aq (λy S w w' h k=>h.aE k)
      (vQ (ls:=false) (kp:=[]) (bK:=dM) (a:={a with defers:=mark++a.defers}) (nb:=nb+jC.length) has fS M9 ak hy (Nat.le_trans lM (Nat.le_add_right _ _)) rfl (lk (Nat.le_add_right _ _) du) (aW.le_trans hs.I0 hle) tY (λd hd e=>by
       obtain⟨R,e',h3,_⟩:=gu.marks d hd (λhD=>ak.d _ hD _ e);rw[e']at e;cases e;rw[h3]at uw;cases uw) vR p5 (λk⟨c,hc⟩=>cy (ta.agree _ _ _ hc)) (λ_ _ h=>by cases h) (λ_ h=>by cases h))
      ⟨w1,⟨_,U.y,β3,_,S,.ready,none,aW.le_refl _,qV,KJ,nA _,M8,qV.dep (aW.le_refl _),⟨bo uw,ta.agree.cells uw (λ_ _ e=>by cases e)⟩,uw,.inl ⟨0,rfl,Nat.zero_le _,B1,rfl,rfl⟩⟩,aB.refl _ _⟩ (λB hB=>hB.1) (λB hB=>hB.2)
    have rY:(#[Value.func (.yield l) #[] #[]]++us:Array Value)=(Value.func (.yield l) #[] #[]::us.toList).toArray:=by apply Array.toList_inj.1;simp
    rw[rY];refine(hF.calls gJ).mono ?_;rintro e w'⟨v,y',S',rfl,hJ,pZ,NJ,Ri⟩;obtain⟨bs,y,β',I',S₀,st,pe,h3,h4,h5,_,h6,h7,h8,h9,bG⟩:=hJ.now ak Ri;have nh:=run_endLoop (P:=P) h9 (by rcases bG with⟨_,_,_,_,rfl,_⟩|⟨_,rfl,_⟩<;>simp);have zA:=h4.zw ak h9 h6 tY (.loop {state:=.exhausted,pending:=pe,fn:=fn,tmps:=a.tmps,params:=ps,assign:=as,body:=c,defers:=Df});refine⟨pe,_,nh,?_⟩;rcases bG with⟨i,uf,hi,hinv,rfl,rfl⟩|⟨uf,rfl,c',rfl,hq⟩
    · have rU:xs.drop i=[]:=by
        rcases pZ with⟨l',h⟩|h
        .rw[uf]at h;exact(eG.rem.inj h).2
        rw[uf]at h;cases h
      have:i=xs.length:=by simp at rU;omega
      subst this;exact⟨⟨U.tmps,bs,y⟩,mP bs y hinv,β',I',S₀,zA,h5⟩
    .rcases hq with⟨rfl,hq⟩|⟨id,rfl,hq⟩
     .exact wpIn_ret ⟨⟨U.tmps,bs,y⟩,hq,β',I',S₀,zA,h5⟩
     exact wpIn_exit ⟨⟨U.tmps,bs,y⟩,hq,β',I',S₀,zA,h5⟩
   |_=>exact hW.elim
  |_=>exact hW.elim
omit [aM]in
theorem aac.ev{x:Operand}{d:D}(h:aac cx U N a w)(hd:U.ev x=some d):∃β I,Rel I β (a.eval x) d:=by
 obtain⟨β,I,S,hs,_⟩:=h;exact⟨β,I,hs.ev (λt e=>trivial) hd⟩
theorem qW(hT:br P T)(ef:P.follows .mixedOrders=true):∀(c:Code),bounded N c=true->M7 P sh ish T N c:=by
 intro c
 induction c with
 |skip=>intro _ lo U Q cx F n a w hW _ _ _ _ _ dW;exact wpIn_skip ⟨U,hW,dW⟩
 |region id ops dr=>
  intro hb lo U Q cx F n a w hW hF ak hR hy cY dW;have bZ:∀o∈ops.toList,∀t,o.dst=some t->t<N:=λo ho t ht=>by
   simp only[bounded,List.all_eq_true]at hb;have:=hb o ho;rw[ht]at this;exact cX this
  cases dr with
  |true=>exact pA (dr:=true) cY hT ef hF ak hy bZ dW (K:=λσ'=>Q .normal σ') (λσ' a' w' hK oZ=>⟨σ',hK,oZ⟩) hW
  |false=>
   simp only[W]at hW;cases hp:panics (CD P sh) ops.toList with
   |true=>rw[hp]at hW;exact HW cY hT hF ak hy bZ dW hW
   |false=>rw[hp]at hW;exact pA (dr:=false) cY hT ef hF ak hy bZ dW (K:=λσ'=>Q .normal σ') (λσ' a' w' hK oZ=>⟨σ',hK,oZ⟩) hW
 |seq x y Jb PL=>
  intro hb lo U Q cx F n a w hW hF ak hR hy cY dW;simp only[bounded]at hb;cases fp:bounded N x with
  |false=>rw[fp]at hb;cases hb
  |true=>
   rw[fp]at hb;refine wpIn_seq (wpIn_mono (Jb fp lo U _ cx F n a w hW hF ak hR hy cY dW) ?_);intro e a' w' hq;cases e with
   |normal=>obtain⟨σ',h1,h2⟩:=hq;exact PL hb lo σ' Q cx F n a' w' h1 hF ak hR hy cY h2
   |exit id=>exact hq
   |ret=>exact hq
   |goto l=>exact hq
   |panic ch=>exact hq
   |outgrown=>exact hq
 |cond x y z PL ihz=>
  intro hb lo U Q cx F n a w hW hF ak hR hy cY dW;simp only[bounded]at hb;cases gy:bounded N y with
  |false=>rw[gy]at hb;cases hb
  |true=>
   rw[gy]at hb;simp only[W]at hW;cases hx:U.ev x with
   |none=>rw[hx]at hW;exact hW.elim
   |some d=>
    rw[hx]at hW;obtain⟨β,I,hr⟩:=dW.ev hx;cases d with
    |tt=>exact wpIn_cond_true hr.y4 (PL gy lo U Q cx F n a w hW hF ak hR hy cY dW)
    |ff=>exact wpIn_cond_false hr.y5 (ihz hb lo U Q cx F n a w hW hF ak hR hy cY dW)
    |bool t=>exact wpIn_cond_split hr.nB (λht=>PL gy lo U Q cx F n a w (hW.1 ht) hF ak hR hy cY dW) (λht=>ihz hb lo U Q cx F n a w (hW.2 ht) hF ak hR hy cY dW)
    |_=>exact hW.elim
 |block id x ih=>
  intro hb lo U Q cx F n a w hW hF ak hR hy cY dW;refine wpIn_block (wpIn_mono (ih hb lo U _ cx F n a w hW hF ak hR hy cY dW) ?_);intro e a' w' hq;cases e with
  |normal=>exact hq
  |exit DL=>
   obtain⟨σ',h1,h2⟩:=hq;simp only at h1;show if DL=id then _ else _
   cases YT:Nat.beq DL id with
   |true=>rw[YT]at h1;rw[if_pos (Nat.eq_of_beq_eq_true YT)];exact⟨σ',h1,h2⟩
   |false=>rw[YT]at h1;rw[if_neg (λe=>by subst e;simp at YT)];exact⟨σ',h1,h2⟩
  |ret=>exact hq
  |goto l=>exact hq
  |panic ch=>exact hq
  |outgrown=>exact hq
 |loop x ih=>
  intro hb lo U Q cx F n a w hW hF ak hR hy cY dW;obtain⟨aE,nb,vs,Inv,μ,JC,KH,hinv,kr⟩:=hW;have lM:cx.lo<=nb:=Nat.le_trans cY (Nat.le_of_ble_eq_true JC);refine zv (λk a w=>∃σ',Inv σ'/\μ σ'=k/\aac cx σ' N a w) ⟨(U.cl lo vs aE nb).vec vs,hinv,rfl,(aac.cl ak cY lM KH dW).vec ak vs⟩ ?_;rintro k a w⟨σ',hi,rfl,oZ⟩;refine wpIn_mono (ih hb lo σ' _ cx F n a w (kr σ' hi) hF ak hR hy cY oZ) ?_;intro e a' w' hq;cases e with
  |normal=>
   obtain⟨uu,⟨h1,h2,h3⟩,h4⟩:=hq;exact⟨_,h3,_,h2,rfl,aac.cl ak cY (Nat.le_trans lM (Nat.le_add_right _ _)) h1 h4⟩
  |exit id=>exact hq
  |ret=>exact hq
  |goto l=>exact hq
  |panic ch=>exact hq
  |outgrown=>exact hq
 |rangeFunc f ps as x ql Jb=>
  intro hb;simp only[bounded]at hb;cases h1:bounded N as with
  |false=>rw[h1]at hb;cases hb
  |true=>
   cases h2:bounded N x with
   |false=>rw[h1,h2]at hb;cases hb
   |true=>
    rw[h1,h2]at hb;simp only[List.all_eq_true]at hb;exact B2 (ql h1) (Jb h2) λp hp=>cX (hb p hp)
 |exit id=>intro _ lo U Q cx F n a w hW _ _ _ _ _ dW;exact wpIn_exit ⟨U,hW,dW⟩
 |scope x ih=>
  intro hb lo U Q cx F n a w hW hF ak hR hy cY dW;exact o0 (ih hb lo U Q cx F n a w hW hF ak hR hy cY dW) λl a w h=>h
 |label l=>intro _ lo U Q cx F n a w hW _ _ _ _ _ dW;exact wpIn_label ⟨U,hW,dW⟩
 |goto l=>intro _ lo U Q cx F n a w hW;exact hW.elim
 |ret=>intro _ lo U Q cx F n a w hW _ _ _ _ _ dW;exact wpIn_ret ⟨U,hW,dW⟩
 |refuse o7=>intro _ lo U Q cx F n a w hW;exact hW.elim
end
end Go.V
namespace Go.V
open Go.RowKit
section
variable{P:Program}[aM]{sh:er}{ish:Nat->Bool}{T:Nat->Option TI}{cx:Cx}{V:Nat->Prop}{U:St}{β:BE}{I:aW}{S:Nat->Prop}{N:Nat}{a:Act}{w:World}
omit [aM]in
theorem p6:∀(ds:List D)(i t:Nat)(d:D),look (kZ ds i) t=some d->i<=t/\ds[t-i]?=some d
 |[],_,_,_,h=>by cases h
 |e::r,i,t,d,h=>by
  simp only[kZ,look]at h;cases hb:Nat.beq i t with
  |true=>
   rw[hb]at h;cases h;obtain rfl:=Nat.eq_of_beq_eq_true hb;simp
  |false=>
   rw[hb]at h;obtain⟨h1,h2⟩:=p6 r (i+1) t d h;refine⟨by omega,?_⟩;rw[show t-i=(t-(i+1))+1 by omega];simpa using h2
omit [aM]in
theorem bf.start{vs:List Value}{args:List D}{y:eG}(hn:∀k,cx.dP k↔k<w.heap.size)(hI:cx.I0=I)(Bm:cx.Fr w)(hj:cx.J y S w)(hg:∀v d,¬cx.G v d)(A8:cx.b0=dM)(hD:∀d,¬cx.sV d)(gT:bc I w)(hS:∀B,S B->B<w.heap.size)(Zb:∀B,S B->¬Mem I B)(aq:bn I dM vs args)(hN:args.length<=N):
    aac cx ⟨kZ args 0,[],y⟩ N {tmps:=vs.toArray++Array.replicate (N-vs.toArray.size) undef,defers:=[]} w:=by
  refine⟨dM,I,S,{tm:=?_,sz:=?_,agree:=gT,bx:=?_,apart:=?_,own:=?_,clear:=?_,fr:=Bm,n0:=λk hk=>(hn k).1 hk,I0:=hI▸aW.le_refl _,fV:=λ_ _ _=>by rw[hI],j:=hj,sb:=hS,sI:=?_,nt:=λB hB=>hB.elim (Zb B) (λ⟨i,b,h,_⟩=>by cases h),gh:=λv d h=>(hg v d h).elim,qw:=A8▸BE.le_refl _,nd:=.nil,ep:=λd h=>(hD d h).elim,dn:=λd h=>(hD d h).elim,marks:=λd hd=>(by cases hd)},λi hi=>absurd hi (by simp)⟩
  .intro t d _ hl
   obtain⟨_,h2⟩:=p6 args 0 t d hl;rw[Nat.sub_zero]at h2;have ht:t<vs.length:=by rw[aq.1];exact(List.getElem?_eq_some_iff.1 h2).1
   exact⟨vs[t],by rw[Array.getElem?_append_left (by simpa using ht)];simp[ht],aq.2 t _ d (List.getElem?_eq_getElem ht) h2⟩
  .have:=aq.1
   simp;omega
  .intro i b h;cases h
  .intro i j b c R h;cases h
  .intro i b R h;cases h
  .intro i b R box h;cases h
  intro B off v hv hB;exact(hB ((hn B).2 (cy (gT B off v hv)))).elim
omit [aM]in
theorem gv{F:Fence}{n:Nat}{fn:Func}{tmps:Array Value}{R:Ending->World->Prop}:∀(ds:List Deferred)(w:World),(ds.Pairwise λd d'=>d.target≠d'.target)->
    (∀d∈ds,∃R,d={target:=.collected R,args:=#[]}/\w.heap[R]?=some (.deferred (some [])))->(∀w',aB (λk=>∀d∈ds,d.target≠.collected k) w w'->LeavesIn F n P fn tmps R [] .returning w')->LeavesInM F n P fn tmps R ds .returning w
  |[],w,_,_,h=>h w (aB.refl _ w)
  |d::ds,w,hp,hm,h=>by
   obtain⟨hd,hp⟩:=List.pairwise_cons.1 hp;obtain⟨b,e,hb⟩:=hm d (by simp);refine⟨by simp,.inl ⟨b,_,by rw[e],run_takeDeferred hb,gv ds _ hp (λd' gq=>?_) λw' k=>h w' ?_⟩⟩
   .obtain⟨b',e',eW⟩:=hm d' (by simp[gq])
    refine⟨b',e',?_⟩;rw[World.putObj_heap_other (λe2=>hd d' gq (by rw[e,e',e2]))];exact eW
   exact((jo w b _).mono λk hk e2=>hk d (by simp) (by rw[e,e2])).trans (k.mono λk hk d' gq=>hk d' (by simp[gq]))
def nV(tmps:Array Value):ResultVar->Sem Value
 |.tmp t=>pure (tmps.getD t undef)
 |.cell p t=>do loadVar t (<-asAddr (tmps.getD p undef))
omit [aM]in
theorem Ew(hT:br P T)(hs:bf cx (λ_=>True) U β I S N a w){r:ResultVar}{d:D}(h:DM T U r=some d):
    ∃v,(nV a.tmps r).run P w=.ok v w/\Rel I β v d:=by
  cases r with
  |tmp t=>
   obtain⟨v,hv,hr⟩:=hs.tm t d trivial h;exact⟨v,by simp[nV,Array.getD_eq_getD_getElem?,hv],hr⟩
  |cell p t=>
   simp only[DM]at h;cases ht:T t with
   |none=>rw[ht]at h;cases h
   |some ti=>
    cases hp:look U.tmps p with
    |none=>rw[ht,hp]at h;cases h
    |some dp=>
     rw[ht,hp]at h;cases dp with
     |loc i off=>
      obtain⟨pv,Rj,YM⟩:=hs.tm p _ trivial hp;have hl:fy ti U.boxes (.loc i off) (λe=>e=.val d):=by
       simp only[fy];simp only at h;cases hb:U.boxes[i]? with
       |none=>rw[hb]at h;cases h
       |some box=>
        rw[hb]at h;cases box with
        |rows=>cases h
        |map=>cases h
        |aA=>cases h
        |aJ=>cases h
        |flat fz cells=>
         simp only at h⊢;cases ha:ti.agg with
         |true=>rw[ha]at h;simp only[ax]at h⊢;rw[h]
         |false=>rw[ha]at h;simp only at h⊢;rw[h]
      obtain⟨v,d',aP,he,aq⟩:=sW (hT _ _ ht) hs YM hl;cases he;obtain⟨R,o',rfl⟩:=YM.y6;refine⟨v,?_,aq⟩;simp only[nV,Array.getD_eq_getD_getElem?,Rj,Option.getD_some,asAddr];simpa[Instr.loadAt,Instr.sureAddr]using aP
     |_=>cases h
omit [aM]in
theorem p7(hT:br P T)(hs:bf cx (λ_=>True) U β I S N a w):∀{rs:List ResultVar}{ds:List D},A3 T U rs=some ds->
    ∃vs,(rs.mapM (m:=Sem) (nV a.tmps)).run P w=.ok vs w/\bn I β vs ds
  |[],ds,h=>by cases h;exact⟨[],by simp,.nil⟩
  |r::rs,ds,h=>by
   simp only[A3]at h;cases h1:DM T U r with
   |none=>rw[h1]at h;cases h
   |some d=>
    rw[h1]at h;cases h2:A3 T U rs with
    |none=>rw[h2]at h;cases h
    |some l=>
     rw[h2]at h;cases h;obtain⟨v,hv,hr⟩:=Ew hT hs h1;obtain⟨vs,oG,gi⟩:=p7 hT hs h2;refine⟨v::vs,?_,bn.cons hr gi⟩;rw[List.mapM_cons];simp only[Sem.run_bind,hv,Result.andThen_ok,oG,Sem.run_pure]
omit [aM]in
theorem lI(hT:br P T)(hs:bf cx (λ_=>True) U β I S N a w){fn:Func}{d:D}(h:resultD T fn U=some d):
    ∃v L,(results fn a.tmps).run P w=.ok v w/\Rel (bQ L β w I) dM v d:=by
  unfold resultD at h;cases hl:A3 T U fn.results.toList with
  |none=>rw[hl]at h;cases h
  |some l=>
   rw[hl]at h;obtain⟨vs,oG,gi⟩:=p7 hT hs hl;have hm:(fn.results.mapM (m:=Sem) (nV a.tmps)).run P w=.ok vs.toArray w:=by
    rw[Array.mapM_eq_mapM_toList];simp only[Sem.run_map,oG];rfl
   have main:∀{v:Value}{e:D},Rel I β v e->reify U.boxes fuel e=some d->∃L,Rel (bQ L β w I) dM v d:=λhr he=>
    ⟨_,jk hs.agree hs.bx hs.Jc (aF U.boxes fuel _) fuel hr he λi hi=>hi⟩
   have dZ:(results fn a.tmps).run P w=.ok (if h:vs.toArray.size=1 then vs.toArray[0]else .tuple vs.toArray) w:=by
    have e:results fn a.tmps=(do let vs<-fn.results.mapM (m:=Sem) (nV a.tmps);pure (if h:vs.size=1 then vs[0]else .tuple vs)):=by
     unfold results;congr 1
    rw[e,Sem.run_bind,hm];simp only[Result.andThen_ok,Sem.run_pure]
   cases l with
   |nil=>
    have:=gi.cR;subst this;obtain⟨L,hL⟩:=main (Rel.ji (I:=I) (β:=β) bn.nil) h;exact⟨_,L,dZ,by simpa using hL⟩
   |cons e l=>
    cases l with
    |nil=>
     obtain⟨v,rfl,hv⟩:=gi.k7;obtain⟨L,hL⟩:=main hv h;exact⟨_,L,dZ,by simpa using hL⟩
    |cons e' l=>
     obtain⟨L,hL⟩:=main (Rel.ji gi) h;refine⟨_,L,dZ,?_⟩;have:¬vs.toArray.size=1:=by have:=gi.1;simp at this⊢;omega
     rw[dif_neg this];exact hL
theorem bf.left(ak:cx.Ok)(h:bf cx V U β I S N a w)(hD:∀d,¬cx.sV d){w':World}(k:aB (λk=>∀d∈a.defers,d.target≠.collected k) w w'):bf cx V U β I S N {a with defers:=[]} w':=by
 have h0:bf cx V U β I S N {a with defers:=[]} w:={h with tm:=h.tm,sz:=h.sz,nd:=.nil,ep:=λd hd=>(hD d hd).elim,marks:=(λd hd=>by cases hd)};refine h0.F9 ak (I1:=λ_ _=>none) {lo:=?_,im:=?_,bx:=?_,ss:=?_,HP:=λd hd=>(by cases hd)} k (λ_ _ _ h=>by cases h) ⟨λ_ _ _ h=>(by cases h),λ_ _ h=>(by cases h)⟩
 .intro k hk _ d hd e
  obtain⟨R,e1,_,h3,_⟩:=h.marks d hd (hD d);rw[e1]at e;cases e;exact h3 hk
 .intro B off v hv _ d hd e
  obtain⟨R,e1,h2,_⟩:=h.marks d hd (hD d);rw[e1]at e;cases e;exact se h2 (h.agree B off v hv) rfl
 .intro i b R hb hR d hd e
  obtain⟨R',e1,h2,_⟩:=h.marks d hd (hD d);rw[e1]at e;cases e;obtain⟨_,_,h3⟩:=h.bx i b hb;obtain⟨_,eX,hh⟩:=h3.lt hR;rw[hh]at h2;cases h2;exact Bool.noConfusion eX
 intro k hk d hd e;obtain⟨R,e1,_,_,h4⟩:=h.marks d hd (hD d);rw[e1]at e;cases e;exact h4 hk
omit [aM]in
theorem Wk.aay{x y:D}(h:Wk x y):∀{r s:List D},x=.b9 r->y=.b9 s->r.length=s.length:=by
 induction h with
 |refl d=>intro r s h1 h2;rw[h1]at h2;cases h2;rfl
 |nil a b=>intro r s h1;cases h1
 |rows sz rows=>intro r s h1;cases h1
 |eL d=>intro r s _ h2;cases h2
 |Qs=>intro r s h1 h2;cases h1;cases h2;rfl
 |u6 h1 h2 ih1 Zg=>intro r s e1 e2;cases e1;cases e2;simp[Zg rfl rfl]
omit [aM]in
theorem Wk.rel{x y:D}(h:Wk x y):∀{I:aW}{β:BE}{v:Value},Rel I β v x->Rel I β v y:=by
 induction h with
 |refl d=>intro I β v h;exact h
 |nil a b=>
  intro I β v h;cases h with
  |dj a cap _=>exact .dj a cap b
  |list B off cap sz rows u hc aI hI h1 h=>exact .dj _ _ b
 |rows sz rows=>
  intro I β v h;cases h with
  |dj a cap _=>exact .dj a cap _
  |list B off cap sz rows u hc aI hI h1 h=>
   have e:rows.length=(rows.map (·.map Jr)).length:=by simp
   rw[e];refine .list B off cap sz _ u (by simpa using hc) (λr row hr=>?_) (λr j hr hj=>hI r j (by simpa using hr) hj) (λr j hr hj=>h1 r j (by simpa using hr) hj) λr row j d hr hd=>?_
   .rw[List.getElem?_map]at hr
    cases e8:rows[r]? with
    |none=>rw[e8]at hr;cases hr
    |some ib=>rw[e8]at hr;cases hr;rw[List.length_map];exact aI r ib e8
   rw[List.getElem?_map]at hr;cases e8:rows[r]? with
   |none=>rw[e8]at hr;cases hr
   |some ib=>
    rw[e8]at hr;cases hr;rw[List.getElem?_map]at hd;cases gq:ib[j]? with
    |none=>rw[gq]at hd;cases hd
    |some d'=>
     rw[gq]at hd;cases hd;have:=h r ib j d' e8 gq;revert this
     generalize u r j=x
     intro this;cases d' with
     |tt=>rw[this.y4];exact .bool true
     |ff=>rw[this.y5];exact .bool false
     |_=>exact this
 |eL d=>intro I β v _;exact .eL v
 |Qs=>intro I β v h;exact h
 |u6 h1 h2 ih1 Zg=>
  intro I β v h;obtain⟨cs,rfl,hl,hr⟩:=h.qv;have hlen:=(Wk.u6 h1 h2).aay rfl rfl;refine .b9 cs _ (hl.trans hlen) λi v d hv hd=>?_;cases i with
  |zero=>
   simp at hd;subst hd;exact ih1 (hr 0 v _ hv rfl)
  |succ i=>
   obtain⟨cv,fS⟩:∃cv:List Value,cs.toList=cv:=⟨_,rfl⟩;rw[fS]at hl hr hv;cases cv with
   |nil=>simp at hl
   |cons u us=>
    have eH:Rel I β (.tuple us.toArray) (.b9 _):=.b9 us.toArray _ (by simpa using hl) λk v d hv hd=>hr (k+1) v d (by simpa using hv) (by simpa using hd);obtain⟨xI,e',JG,e8⟩:=(Zg eH).qv;cases e';exact e8 i v d (by simpa using hv) (by simpa using hd)
omit [aM]in
theorem Den.args[aM]{P:Program}{k:FuncId}{args jG:List D}{d:D}(h:Den P k jG d)(hw:Wk (.b9 args) (.b9 jG)):Den P k args d:=
 ⟨h.1,λw I vs ha hg hr=>h.2 w I vs ha hg (by
  have h1:Rel I dM (.tuple vs.toArray) (.b9 args):=Rel.ji hr;obtain⟨cs,e,h2⟩:=(hw.rel h1).qv;cases e;simpa using h2)⟩
theorem zD{d:D}(R:Option D->Prop)(hR:∀x,R x->∃d0,x=some d0/\Wk d0 d)(hT:br P T)(ef:P.follows .mixedOrders=true){f:FuncId}{fn:Func}{c:Code}(hf:P.funcs[f]?=some fn)(hb:fn.body=some c)(he:Enters P f)(ug:bounded fn.ntmps c=true){args:List D}(hn:args.length<=fn.ntmps)
    (h:match fn.body with|some c=>W T (CD P sh) (nc P ish) 0 c ⟨kZ args 0,[],.aQ⟩ (λe U=>match e with|.exit _=>False|.panic _=>False|_=>R (resultD T fn U))|none=>False):Den P f args d:=by
  refine⟨he,λw I vs gT Gh aq=>?_⟩;rw[hb]at h;simp only at h
  let cx:Cx:=⟨(·<w.heap.size),λw'=>dG I w w',λy _ _=>y=.aQ,I,λ_ _=>False,0,dM,λ_=>False⟩
  have hD:∀d,¬cx.sV d:=λ_ h=>h;have ak:cx.Ok:=⟨Gh,λw' NU h1 h2=>h1.trans h2,λ_ _ _ _ h _=>h,λ_ _ h=>h.elim,λ_ _ h=>(by cases h),λ_ h=>h.elim⟩;have hy:bB P cx:=λl x r S w' I' oz G hj=>by cases hj
  have dW:=bf.start (cx:=cx) (S:=λ_=>False) (y:=.aQ) (N:=fn.ntmps) (λ_=>Iff.rfl) rfl (aB.refl _ w) rfl (λ_ _ h=>h) rfl (λ_ h=>h) gT (λ_ h=>h.elim) (λ_ h=>h.elim) aq hn;refine callsIn_wide.1 (callsIn_of_wp_marks (n:=0) hf hb trivial ?_);refine wpIn_mono (qW hT ef c ug 0 _ _ cx Fence.wide 0 _ w h (.inl rfl) ak (λl y S w' hl=>by cases hl) hy (Nat.le_refl _) dW) ?_;have fin:∀U a' w',R (resultD T fn U)->aac cx U fn.ntmps a' w'->LeavesInM Fence.wide 0 P fn a'.tmps (λe w'=>∃v I',e=.returned v/\dG I w w'/\Grow w.heap.size I I'/\bc I' w'/\Rel I' dM v d) a'.defers .returning w':=by
   rintro U a' w' hRr⟨β,I',S,hs,_⟩;obtain⟨d0,dZ,Na⟩:=hR _ hRr;refine gv a'.defers w' hs.nd (λd hd=>let⟨R,h1,h2,_⟩:=hs.marks d hd (hD d);⟨R,h1,h2⟩) λNU k=>?_;have fu:=hs.left ak hD k;obtain⟨v,L,aP,jj⟩:=lI hT fu dZ;refine⟨v,aP,v,_,rfl,fu.fr,⟨aW.le_trans fu.I0 (dU fu.agree L β),λB off hB=>?_⟩,db fu.agree L β,Na.rel jj⟩;unfold bQ;rw[if_neg]
   .exact fu.fV B off hB
   rintro⟨⟨i,b,_,jt,hR⟩,_⟩;have:=(fu.own i b B jt hR).1;exact this hB
  intro e a' w' hq;cases e with
  |normal=>obtain⟨U,h1,h2⟩:=hq;exact fin U a' w' h1 h2
  |ret=>obtain⟨U,h1,h2⟩:=hq;exact fin U a' w' h1 h2
  |exit id=>obtain⟨U,h1,h2⟩:=hq;exact h1.elim
  |goto l=>exact hq.elim
  |panic ch=>obtain⟨_,_,_,h1,_⟩:=hq;exact h1.elim
  |outgrown=>exact hq.elim
theorem tq(hT:br P T)(ef:P.follows .mixedOrders=true){f:FuncId}{fn:Func}{c:Code}(hf:P.funcs[f]?=some fn)(hb:fn.body=some c)(he:Enters P f)(ug:bounded fn.ntmps c=true){args:List D}(hn:args.length<=fn.ntmps){d:D}
    (h:Body T (CD P sh) (nc P ish) fn args d):Den P f args d:=
  zD (λx=>x=some d) (λ_ h=>⟨d,h,.refl d⟩) hT ef hf hb he ug hn (by
   unfold Body at h;rw[hb]at h⊢;simp only[cg,sU]at h;exact h)
theorem qX(hT:br P T)(ef:P.follows .mixedOrders=true){f:FuncId}{fn:Func}{c:Code}(hf:P.funcs[f]?=some fn)(hb:fn.body=some c)(he:Enters P f)(ug:bounded fn.ntmps c=true){args:List D}(hn:args.length+1<=fn.ntmps)
    {xs:List (List D)}(h:nz T (CD P sh) (nc P ish) fn args xs):jR P f args xs:=by
  refine⟨he,λw I vs l J S gT Gh aq NV hy hj hS Zb=>?_⟩;unfold nz at h;rw[hb]at h;have h:=h l;rw[cg,sU]at h
  let cx:Cx:=⟨(·<w.heap.size),λ_=>True,J,I,λ_ _=>False,0,dM,λ_=>False⟩
  have hD:∀d,¬cx.sV d:=λ_ h=>h;have ak:cx.Ok:=⟨Gh,λ_ _ _ _=>trivial,NV,λ_ _ h=>h.elim,λ_ _ h=>(by cases h),λ_ h=>h.elim⟩;have dW:=bf.start (cx:=cx) (S:=S) (y:=.rem l xs) (N:=fn.ntmps) (args:=.j8 l::args) (vs:=.func (.yield l) #[] #[]::vs) (λ_=>Iff.rfl) rfl trivial hj (λ_ _ h=>h) rfl (λ_ h=>h) gT hS Zb (bn.cons (.j8 l) aq) (by simpa using hn);refine callsIn_wide.1 (callsIn_of_wp_marks (n:=0) hf hb trivial ?_);refine wpIn_mono (qW hT ef c ug 0 _ _ cx Fence.wide 0 _ w h (.inl rfl) ak (λl y S w' hl=>by cases hl) hy (Nat.le_refl _) dW) ?_;have fin:∀U a' w',fn.results.toList.length=0->((∃l',U.y=.rem l' [])\/U.y=.gk)->aac cx U fn.ntmps a' w'->LeavesInM Fence.wide 0 P fn a'.tmps (λe w'=>∃v y S',e=.returned v/\J y S' w'/\((∃l',y=.rem l' [])\/y=.gk)/\(∀B,S' B->B<w'.heap.size)/\bc I w') a'.defers .returning w':=by
   rintro U a' w' dZ pZ⟨β,I',S',hs,_⟩;refine gv a'.defers w' hs.nd (λd hd=>let⟨R,h1,h2,_⟩:=hs.marks d hd (hD d);⟨R,h1,h2⟩) λNU k=>?_;have fu:=hs.left ak hD k;have Rg:fn.results=#[]:=Array.toList_inj.1 (by simpa using List.eq_nil_of_length_eq_zero dZ);exact⟨.tuple #[],by simp[results,Rg],_,U.y,S',rfl,fu.j,pZ,fu.sb,fu.agree.of_le fu.I0⟩
  intro e a' w' hq;cases e with
  |normal=>
   obtain⟨U,h1,h2⟩:=hq;cases pZ:U.y with
   |aQ=>rw[pZ]at h1;exact h1.elim
   |gk=>rw[pZ]at h1;exact fin U a' w' h1 (.inr pZ) h2
   |rem l' ys=>
    rw[pZ]at h1;cases ys with
    |nil=>exact fin U a' w' h1 (.inl ⟨l',pZ⟩) h2
    |cons y ys=>exact h1.elim
  |ret=>
   obtain⟨U,h1,h2⟩:=hq;cases pZ:U.y with
   |aQ=>rw[pZ]at h1;exact h1.elim
   |gk=>rw[pZ]at h1;exact fin U a' w' h1 (.inr pZ) h2
   |rem l' ys=>
    rw[pZ]at h1;cases ys with
    |nil=>exact fin U a' w' h1 (.inl ⟨l',pZ⟩) h2
    |cons y ys=>exact h1.elim
  |exit id=>obtain⟨U,h1,h2⟩:=hq;exact h1.elim
  |goto l=>exact hq.elim
  |panic ch=>obtain⟨_,_,_,h1,_⟩:=hq;exact h1.elim
  |outgrown=>exact hq.elim
omit [aM]in
theorem vT(hT:br P T)(hs:bf cx (λ_=>True) U β I S N a w){fn:Func}{d:D}(h:oC T fn U=some d):
    ∃v,(results fn a.tmps).run P w=.ok v w/\Rel I β v d:=by
  unfold oC at h;cases hl:A3 T U fn.results.toList with
  |none=>rw[hl]at h;cases h
  |some l=>
   rw[hl]at h;obtain⟨vs,oG,gi⟩:=p7 hT hs hl;have hm:(fn.results.mapM (m:=Sem) (nV a.tmps)).run P w=.ok vs.toArray w:=by
    rw[Array.mapM_eq_mapM_toList];simp only[Sem.run_map,oG];rfl
   have dZ:(results fn a.tmps).run P w=.ok (if h:vs.toArray.size=1 then vs.toArray[0]else .tuple vs.toArray) w:=by
    have e:results fn a.tmps=(do let vs<-fn.results.mapM (m:=Sem) (nV a.tmps);pure (if h:vs.size=1 then vs[0]else .tuple vs)):=by
     unfold results;congr 1
    rw[e,Sem.run_bind,hm];simp only[Result.andThen_ok,Sem.run_pure]
   cases l with
   |nil=>
    have:=gi.cR;subst this;cases h;exact⟨_,dZ,by simpa using Rel.ji (I:=I) (β:=β) bn.nil⟩
   |cons e l=>
    cases l with
    |nil=>
     obtain⟨v,rfl,hv⟩:=gi.k7;cases h;exact⟨_,dZ,by simpa using hv⟩
    |cons e' l=>
     cases h;refine⟨_,dZ,?_⟩;have:¬vs.toArray.size=1:=by have:=gi.1;simp at this⊢;omega
     rw[dif_neg this];exact Rel.ji gi
theorem qY(hT:br P T)(ef:P.follows .mixedOrders=true){f:FuncId}{fn:Func}{c:Code}(hf:P.funcs[f]?=some fn)(hb:fn.body=some c)(he:Enters P f)(ug:bounded fn.ntmps c=true){args:List D}(hn:args.length<=fn.ntmps)
    {bs:List af}{y:eG}{Q:D->List af->eG->Prop}(h:A4 T (CD P sh) (nc P ish) fn args bs y Q):lA P f args bs y Q:=by
  refine⟨he,λcx w β I S vs ak hy cY hH aq=>?_⟩;obtain⟨bq,cK⟩:=hH;have hD:∀d,¬cx.sV d:=λd h=>by have:=bq.ep d h;cases this
  unfold A4 at h;rw[hb]at h;simp only[cg,sU]at h;have dW:aac cx ⟨kZ args 0,bs,y⟩ fn.ntmps {tmps:=vs.toArray++Array.replicate (fn.ntmps-vs.toArray.size) undef,defers:=[]} w:=by
   refine⟨β,I,S,{bq with tm:=?_,sz:=?_},cK⟩
   .intro t d _ hl
    obtain⟨_,h2⟩:=p6 args 0 t d hl;rw[Nat.sub_zero]at h2;have ht:t<vs.length:=by rw[aq.1];exact(List.getElem?_eq_some_iff.1 h2).1
    exact⟨vs[t],by rw[Array.getElem?_append_left (by simpa using ht)];simp[ht],aq.2 t _ d (List.getElem?_eq_getElem ht) h2⟩
   have:=aq.1;simp;omega
  refine callsIn_wide.1 (callsIn_of_wp_marks (n:=0) hf hb trivial ?_);refine wpIn_mono (qW hT ef c ug bs.length _ _ cx Fence.wide 0 _ w h (.inl rfl) ak (λl y S w' hl=>by cases hl) hy cY dW) ?_;have fin:∀U a' w',(∃d,oC T fn U=some d/\Q d U.boxes U.y)->aac cx U fn.ntmps a' w'->LeavesInM Fence.wide 0 P fn a'.tmps (λe w'=>∃v d bu y' β' I' S',e=.returned v/\Q d bu y'/\Hp cx bu y' β' I' S' w'/\Rel I' β' v d) a'.defers .returning w':=by
   rintro U a' w'⟨d,dZ,hq⟩⟨β',I',S',hs,ht⟩;refine gv a'.defers w' hs.nd (λd hd=>let⟨R,h1,h2,_⟩:=hs.marks d hd (hD d);⟨R,h1,h2⟩) λNU k=>?_;have fu:=hs.left ak hD k;obtain⟨v,aP,jj⟩:=vT hT fu dZ;exact⟨v,aP,v,d,U.boxes,U.y,β',I',S',rfl,hq,⟨{fu with tm:=λt d _ hl=>(by cases hl),sz:=rfl,nd:=.nil,ep:=λd hd=>(hD d hd).elim,marks:=λd hd=>(by cases hd)},ht⟩,jj⟩
  intro e a' w' hq;cases e with
  |normal=>obtain⟨U,h1,h2⟩:=hq;exact fin U a' w' h1 h2
  |ret=>obtain⟨U,h1,h2⟩:=hq;exact fin U a' w' h1 h2
  |exit id=>obtain⟨U,h1,h2⟩:=hq;exact h1.elim
  |goto l=>exact hq.elim
  |panic ch=>obtain⟨_,_,_,h1,_⟩:=hq;exact h1.elim
  |outgrown=>exact hq.elim
omit [aM]in
theorem HX{rs:List (List D)}(h:rs.all bT=true){r:Nat}{row:List D}(hr:rs[r]?=some row){j:Nat}{d:D}(hd:row[j]?=some d):plain d=true:=
 cZ (List.all_eq_true.1 h row (List.mem_of_getElem? hr)) hd
theorem si{f:FuncId}{args:List D}{b:af}(iS:jg b=true\/uQ b=true)(h:lA P f args [] .aQ λd bs _=>(∃i,bs[i]?=some b/\d=xf b i)\/(d=.ao/\∃sz,b=.rows false 0 sz [])):Qu P f args b:=by
 refine⟨h.1,λw I vs gT Gh aq=>?_⟩
 let cx:Cx:=⟨(·<w.heap.size),λw'=>dG I w w',λy _ _=>y=.aQ,I,λ_ _=>False,0,dM,λ_=>False⟩
 have ak:cx.Ok:=⟨Gh,λw' NU h1 h2=>h1.trans h2,λ_ _ _ _ h _=>h,λ_ _ h=>h.elim,λ_ _ h=>(by cases h),λ_ h=>h.elim⟩;have hy:bB P cx:=λl x r S w' I' oz G hj=>by cases hj
 have hp:Hp cx [] .aQ dM I (λ_=>False) w:=by
  refine⟨{tm:=λt d _ hl=>(by cases hl),sz:=rfl,agree:=gT,bx:=?_,apart:=?_,own:=?_,clear:=?_,fr:=aB.refl _ w,n0:=λk hk=>hk,I0:=aW.le_refl _,fV:=λ_ _ _=>rfl,j:=rfl,sb:=λ_ h=>h.elim,sI:=?_,nt:=λB hB=>hB.elim (λh=>h.elim) (λ⟨i,b,h,_⟩=>by cases h),gh:=λ_ _ h=>h.elim,qw:=BE.le_refl _,nd:=.nil,ep:=λ_ h=>h.elim,dn:=λ_ h=>h.elim,marks:=λd hd=>(by cases hd)},λi hi=>absurd hi (by simp)⟩
  .intro i b h;cases h
  .intro i j b c R h;cases h
  .intro i b R h;cases h
  .intro i b R box h;cases h
  intro B off v hv hB;exact(hB (cy (gT B off v hv))).elim
 refine(h.2 cx w dM I _ vs ak hy (Nat.le_refl _) hp aq).mono ?_;rintro e w'⟨v,d,bu,y',β',I',S',rfl,hq,⟨hs,cK⟩,hv⟩;have FT:Grow w.heap.size I I':=⟨hs.I0,λB off hB=>hs.fV B off hB⟩;rcases hq with⟨i,jt,rfl⟩|⟨rfl,sz,rfl⟩
 rotate_left
 .cases hv with
  |ao A=>
   refine⟨_,⟨none,false,0,sz,0,0,0⟩,I',rfl,hs.fr,FT,hs.agree,λR hR=>(by cases hR),λI2 β2 _=>⟨rfl,rfl,rfl,rfl,λr row hr=>by simp at hr,Nat.le_refl _,rfl⟩,λI2 β2 j hj=>?_⟩;exact .sl A 0 j 0 0 0 ⟨none,false,0,sz,0,0,0⟩ hj rfl rfl rfl (Nat.le_refl _) (Nat.le_refl _) (λh=>absurd h (by decide))
 obtain⟨bi,hβ⟩:=Option.isSome_iff_exists.1 (cK i (List.getElem?_eq_some_iff.1 jt).1);obtain⟨box,qm,cV⟩:=hs.bx i bi hβ;rw[jt]at qm;cases qm;have ph:b.fz=false:=by
  rcases iS with h|h
  .unfold jg at h;split at h<;>first|rfl|cases h
  unfold uQ at h;split at h<;>first|rfl|cases h
 refine⟨v,bi,I',rfl,hs.fr,FT,hs.agree,λR hR=>⟨Nat.le_of_not_lt (hs.own i bi R hβ hR).1,hs.clear i bi R b hβ hR jt ph⟩,λI2 β2 h2=>?_,λI2 β2 j hj=>?_⟩
 .rcases h2 with iS|hle
  .unfold jg at iS
   split at iS
   .rename_i ks us
    split at iS
    .obtain⟨h1,R,es,clock,h2,h3,h4,h5⟩:=cV
     exact⟨h1,R,es,clock,h2,h3,h4,h5.fX (by assumption) iS⟩
    cases iS
   .rename_i g sz rs
    obtain⟨h1,h2,h3,h4,h5,h6,h7⟩:=cV;refine⟨h1,h2,h3,h4,h5,h6,?_⟩;cases hR:bi.R with
    |none=>rw[hR]at h7;exact h7
    |some R=>
     rw[hR]at h7;obtain⟨c,t,h8,h9,tp⟩:=h7;exact⟨c,t,h8,h9,λr row j d hr hd=>let⟨v,JX,M1,Zh⟩:=tp r row j d hr hd;⟨v,JX,M1.fX (HX iS hr hd),Zh⟩⟩
   cases iS
  cases b with
  |map fz ks us=>
   obtain⟨h1,R,es,clock,h2,h3,h4,h5⟩:=cV;exact⟨h1,R,es,clock,h2,h3,h4,h5.mono hle⟩
  |rows fz g sz rs=>
   obtain⟨h1,h2,h3,h4,h5,h6,h7⟩:=cV;refine⟨h1,h2,h3,h4,h5,h6,?_⟩;cases hR:bi.R with
   |none=>rw[hR]at h7;exact h7
   |some R=>
    rw[hR]at h7;obtain⟨c,t,h8,h9,tp⟩:=h7;exact⟨c,t,h8,h9,λr row j d hr hd=>let⟨v,JX,M1,Zh⟩:=tp r row j d hr hd;⟨v,JX,M1.mono hle (BE.le_refl _),Zh⟩⟩
  |_=>rcases iS with h|h<;>cases h
 have hm:(∃ks us,b=.map false ks us)\/∃g sz rs,b=.rows false g sz rs:=by
   rcases iS with h|h
   .unfold jg at h
    split at h
    .exact .inl ⟨_,_,rfl⟩
    .exact .inr ⟨_,_,_,rfl⟩
    cases h
   unfold uQ at h;split at h
   .exact .inr ⟨_,_,_,rfl⟩
   cases h
 rcases hm with⟨ks,us,rfl⟩|⟨g,sz,rs,rfl⟩
 .simp only[xf]at hv⊢
  cases hv with
  |cn _ b R h1 h2 h3=>
   rw[hβ]at h1;cases h1;exact .cn _ bi R hj h2 h3
 obtain⟨_,hg,_⟩:=cV;simp only[xf]at hv⊢;cases hv with
 |sl a c _ _ _ _ b h1 h2 h3 h4 h5 h6 h7=>
  rw[hβ]at h1;cases h1;exact .sl a c _ _ _ _ bi hj h2 h3 h4 h5 h6 h7
 |cJ a c _ _ _ _ b h1 h2 h3=>
  rw[hβ]at h1;cases h1;omega
end
end Go.V
