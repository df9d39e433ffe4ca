/- A region in whatever order, some of whose first operations may come behind some of its last ones; Code, walked by W: what it needs of the state; A nil slice is told as an empty slice in a box of its own; A range over an iterator: what lies round a round; Code, walked by W: sound; A region in whatever order, its operations told in another order than in the text; Regions whose last operation may panic: sound; W is sound: code, and functions; The contract of a function, and of an iterator, from its body walked by W. No condition. -/
import Derived.Test.YtfdflbdnjimfaaaPackUG
import Derived.Test.YtfdflbdnjimfaaaPackUF

namespace Go.V
open Go.RowKit

structure LateOK (ops:Array Oper) (m:Nat) (late:List Nat):Prop extends DrawB ops m where
 tail:∀ (i:Nat) (o:Oper) (j:Nat),m≤i→ops[i]?=some o→j<i→j∈late∨Behind ops o j
 plain:∀ (i:Nat) (o:Oper),m≤i→ops[i]?=some o→o.guard=none∧tailOp o=true∧isGuard ops.toList i=false
 reads:∀ (i:Nat) (o:Oper) (j:Nat) (oj:Oper) (t:Nat),m≤i→ops[i]?=some o→j<i→(j<m∨j∈late)→ops[j]?=some oj→oj.dst=some t→(Operand.tmp t∈o.op.operands.toList→Behind ops o j)∧o.dst≠some t
 late:∀ (j:Nat),j∈late→∀ oj,ops[j]?=some oj→oj.guard=none∧(j<m→lateOp oj=true∧(emptyMk oj.op=true→∀ s os,s<j→ops[s]?=some os→oneBox os=true))∧(m≤j→m<j∧valOp oj=true∧∀ i∈late,i≤j→∀ oi,ops[i]?=some oi→∀ t,oj.dst=some t→Operand.tmp t ∉ oi.op.operands.toList)

theorem okLate_spec {ops:Array Oper} {m:Nat} {late:List Nat} (h:okLate ops.toList m late=true):LateOK ops m late:=by
 have hle:(ops.toList.takeWhile mildA).length≤ops.size:=by
  have:=List.takeWhile_prefix (p:=mildA) (l:=ops.toList) |>.length_le
  simpa using this
 have hget:∀ {i o},ops[i]?=some o→ops.toList.getD i default=o:=fun {i o} ho=>by
  have:ops.toList[i]?=some o:=by simpa using ho
  rw [List.getD_eq_getElem?_getD,this];rfl
 unfold okLate at h
 simp only [Bool.and_eq_true] at h
 obtain ⟨⟨⟨hm,h1⟩,h2⟩,h3⟩:=h
 have hm:=Nat.le_of_ble_eq_true hm
 have h1:=List.all_eq_true.1 h1
 have h2:=List.all_eq_true.1 h2
 have h3:=List.all_eq_true.1 h3
 have hlt:∀ {i o},ops[i]?=some o→i∈List.range ops.toList.length:=fun {i o} ho=>by
  have:=(Array.getElem?_eq_some_iff.1 ho).1;rw [List.mem_range];simpa using this
 have hb:∀ (i:Nat) (o:Oper),ops[i]?=some o→(∀ e∈o.after.toList,Region.binds .any e=true→e.on<i)∧(∀ g want,o.guard=some (g,want)→g<i∧i<m) ∧
     (m≤i→tailOp o=true∧isGuard ops.toList i=false∧(∀ j,j<i→j∈late∨∃ s,s≤i∧j<s∧hasEdge (ops.toList.getD s default) j=true∧(s=i∨s ∉ late)) ∧
      ∀ (j:Nat) (oj:Oper) (t:Nat),j<i→(j<m∨j∈late)→ops[j]?=some oj→oj.dst=some t→(Operand.tmp t∈o.op.operands.toList→j∈late→hasEdge o j=true)∧o.dst≠some t):=by
   intro i o ho
   have:=h1 i (hlt ho)
   rw [hget ho] at this
   simp only [Bool.and_eq_true,Bool.or_eq_true] at this
   obtain ⟨⟨a1,a2⟩,a3⟩:=this
   refine ⟨fun e he hbd=>?_,fun g want hg=>?_,fun hmi=>?_⟩
   ·have:=List.all_eq_true.1 a1 e he
    rw [Bool.or_eq_true] at this
    rcases this with h | h
    ·exact Nat.blt_eq ▸ h
    ·exfalso
     unfold bindsB at h
     unfold Region.binds at hbd
     cases hg:e.ground <;> rw [hg] at h hbd <;> first | (simp at h;done) | (simp at hbd;done)
   ·rw [hg] at a2
    simp only [Bool.and_eq_true] at a2
    exact ⟨Nat.blt_eq ▸ a2.1,Nat.blt_eq ▸ a2.2⟩
   ·rcases a3 with a3 | ⟨⟨⟨b1,b2⟩,b3⟩,b4⟩
    ·have:i<m:=Nat.blt_eq ▸ a3
     omega
    ·refine ⟨b1,by simpa using b2,fun j hj=>?_,fun j oj t hji hj hoj hd=>?_⟩
     ·have:=List.all_eq_true.1 b3 j (List.mem_range.2 hj)
      rw [Bool.or_eq_true] at this
      rcases this with h | h
      ·exact .inl (by simpa using h)
      ·obtain ⟨s,hs,h⟩:=List.any_eq_true.1 h
       rw [List.mem_range] at hs
       simp only [Bool.and_eq_true,Bool.or_eq_true] at h
       refine .inr ⟨s,by omega,Nat.blt_eq ▸ h.1,h.2.1,?_⟩
       rcases h.2.2 with h5 | h5
       ·exact .inl (Nat.eq_of_beq_eq_true h5)
       ·exact .inr (by simpa using h5)
     ·have:=List.all_eq_true.1 b4 j (List.mem_range.2 hji)
      rw [hget hoj,hd] at this
      simp only [Bool.and_eq_true,Bool.or_eq_true] at this
      have this:=this.resolve_left fun h=>by
       rcases hj with h1 | h1
       ·have:=Nat.le_of_ble_eq_true h.1;omega
       ·have h2:=h.2
        rw [List.contains_iff_mem.2 h1] at h2;cases h2
      refine ⟨fun hin hl=>?_,fun e=>?_⟩
      ·rcases this.1 with (h | h) | h
       ·exfalso
        have:(tmpsOf o).contains t=true:=by
         rw [List.contains_iff_mem]
         exact List.mem_filterMap.2 ⟨.tmp t,hin,rfl⟩
        rw [this] at h;cases h
       ·have:late.contains j=true:=by simpa using hl
        rw [this] at h;cases h
       ·exact h
      ·have h:=this.2
       rw [e] at h
       simp at h
 have hedge:∀ (i:Nat) (o:Oper) (e:Edge),ops[i]?=some o→e∈o.after.toList→Region.binds .any e=true→e.on<i:=fun i o e ho he hbd=>(hb i o ho).1 e he hbd
 have hbehind:∀ (i:Nat) (o:Oper),m≤i→ops[i]?=some o→∀ (d j:Nat),j<i→i - j≤d→j∈late∨Behind ops o j:=by
  intro i o hmi ho d
  induction d with
  | zero=>intro j hj hd;omega
  | succ d ih =>
   intro j hj hd
   rcases ((hb i o ho).2.2 hmi).2.2.1 j hj with h | ⟨s,h1,h2,h3,h4⟩
   ·exact .inl h
   ·have hsn:s<ops.size:=by have:=(Array.getElem?_eq_some_iff.1 ho).1;omega
    have hos:ops[s]?=some ops[s]:=Array.getElem?_eq_getElem hsn
    rw [hget hos] at h3
    rcases Nat.lt_or_ge s i with hlt | hge
    ·rcases ih s hlt (by omega) with h5 | h5
     ·exact absurd h5 (h4.resolve_left (by omega))
     ·exact .inr (h5.snoc hos (hasEdge_spec h3))
    ·have:s=i:=by omega
     subst this
     rw [ho] at hos
     cases hos
     exact .inr (.edge (hasEdge_spec h3))
 refine ⟨⟨Nat.le_trans hm hle,fun i o hi ho=>mildA_or (takeWhile_getP (Nat.lt_of_lt_of_le hi hm) (by simpa using ho)),hedge,fun i o g want ho hg=>((hb i o ho).2.1 g want hg).1,?_,?_⟩,fun i o j hmi ho hj=>hbehind i o hmi ho i j hj (by omega),?_,?_,?_⟩
 ·intro i j oi oj t hi hj hoi hoj hd
  have:=h2 i (List.mem_range.2 hi)
  simp only [Bool.and_eq_true] at this
  have:=List.all_eq_true.1 this.1 j (List.mem_range.2 hj)
  rw [hget hoi,hget hoj,hd] at this
  simp only [Bool.and_eq_true,Bool.or_eq_true,Bool.not_eq_true'] at this
  obtain ⟨h3,h4⟩:=this
  refine ⟨fun hin=>?_,?_⟩
  ·rcases h3 with h3 | h3
   ·exfalso
    have:(tmpsOf oi).contains t=true:=by
     rw [List.contains_iff_mem]
     exact List.mem_filterMap.2 ⟨.tmp t,hin,rfl⟩
    rw [this] at h3;cases h3
   ·exact ⟨Nat.blt_eq ▸ h3.1,hasEdge_spec h3.2⟩
  ·rcases h4 with h4 | h4
   ·exact .inl (Nat.eq_of_beq_eq_true h4)
   ·refine .inr fun e=>?_
    rw [e] at h4
    simp at h4
 ·intro i oi g want hi hoi hg
  have:=h2 i (List.mem_range.2 hi)
  simp only [Bool.and_eq_true] at this
  have:=this.2
  rw [hget hoi,hg] at this
  exact hasEdge_spec this
 ·intro i o hmi ho
  obtain ⟨a1,a2,a3⟩:=hb i o ho
  refine ⟨?_,(a3 hmi).1,(a3 hmi).2.1⟩
  cases hg:o.guard with
  | none=>rfl
  | some x=>have:=(a2 x.1 x.2 hg).2;omega
 ·intro i o j oj t hmi ho hji hj hoj hd
  obtain ⟨_,_,a3⟩:=hb i o ho
  obtain ⟨b1,b2⟩:=(a3 hmi).2.2.2 j oj t hji hj hoj hd
  refine ⟨fun hin=>?_,b2⟩
  rcases hbehind i o hmi ho i j (by omega) (by omega) with h | h
  ·exact .edge (hasEdge_spec (b1 hin h))
  ·exact h
 ·intro j hj oj hoj
  have:=h3 j hj
  rw [hget hoj] at this
  simp only [Bool.and_eq_true] at this
  obtain ⟨h4,h5⟩:=this
  refine ⟨?_,fun hjm=>?_,fun hmj=>?_⟩
  ·cases hg:oj.guard with
   | none=>rfl
   | some x=>rw [hg] at h4;cases h4
  ·have hb:Nat.blt j m=true:=Nat.blt_eq.symm ▸ hjm
   rw [hb] at h5
   simp only [Bool.and_eq_true] at h5
   refine ⟨h5.1,fun hem s os hsj hos=>?_⟩
   have h6:=h5.2
   rw [hem] at h6
   have h7:=List.all_eq_true.1 h6 s (List.mem_range.2 hsj)
   rw [hget hos] at h7
   exact h7
  ·have hb:Nat.blt j m=false:=Bool.eq_false_iff.2 fun h=>by have:j<m:=Nat.blt_eq ▸ h;omega
   rw [hb] at h5
   simp only [Bool.and_eq_true] at h5
   refine ⟨Nat.blt_eq ▸ h5.1,h5.2.1,fun i hi hij oi hoi t hdt hin=>?_⟩
   have h6:=List.all_eq_true.1 h5.2.2 i hi
   rw [hget hoi,hdt,Bool.or_eq_true] at h6
   rcases h6 with h6 | h6
   ·have:j<i:=Nat.blt_eq ▸ h6
    omega
   · have:(tmpsOf oi).contains t=true:=by
       rw [List.contains_iff_mem]
       exact List.mem_filterMap.2 ⟨.tmp t,hin,rfl⟩
     have h6:(!(tmpsOf oi).contains t)=true:=h6
     rw [this] at h6;cases h6

section
variable {P:Program} [Glb] {sh:Kinds} {ish:Nat→Bool} {T:Nat→Option TI} {C:Ctr} {cx:Cx} {σ:St} {N:Nat} {a:Act} {w:World} {ops:Array Oper} {m:Nat}

omit [Glb] in
theorem val_of {σ:St} {o:Oper} {k:Eff→Prop} (hv:valOp o=true) (hk:opE T C σ o k):∃ d,k (.val d):=by
 unfold opE at hk
 cases ho:o.op with
 | move x | assign x =>
  simp only [ho] at hk
  split at hk
  ·first | exact ⟨_,hk⟩ | (simp only [forceA_eq] at hk;exact ⟨_,hk⟩) | (simp only [litN_eq] at hk;exact ⟨_,hk⟩)
  ·exact hk.elim
 | build t ps =>
  simp only [ho] at hk
  split at hk
  ·split at hk
   ·simp only [forceL_eq] at hk;exact ⟨_,hk⟩
   ·exact hk.elim
  ·exact hk.elim
 | indexAddr t x i =>
  simp only [ho] at hk
  split at hk
  ·split at hk
   ·unfold indexAddrE at hk
    split at hk
    ·split at hk
     ·obtain ⟨_,hk⟩:=hk
      split at hk
      ·split at hk
       ·simp only [litN_eq] at hk;exact ⟨_,hk⟩
       ·obtain ⟨_,_,hk⟩:=hk;exact ⟨_,hk⟩
      ·obtain ⟨_,_,hk⟩:=hk;exact ⟨_,hk⟩
      ·split at hk
       ·exact ⟨_,hk⟩
       ·exact hk.elim
      ·obtain ⟨_,_,hk⟩:=hk;exact ⟨_,hk⟩
      ·obtain ⟨_,_,hk⟩:=hk;exact ⟨_,hk⟩
      ·exact hk.elim
     ·split at hk
      ·obtain ⟨_,hk⟩:=iff'_true hk
       obtain ⟨_,_,_,hk⟩:=hk
       exact ⟨_,hk⟩
      ·split at hk
       ·obtain ⟨_,hk⟩:=iff'_true hk
        obtain ⟨_,_,_,_,hk⟩:=hk
        exact ⟨_,hk⟩
       ·exact hk.elim
      ·obtain ⟨_,hk⟩:=iff'_true hk
       obtain ⟨_,_,_,_,hk⟩:=hk
       exact ⟨_,hk⟩
      ·exact hk.elim
     ·exact hk.elim
    ·exact hk.elim
   ·exact hk.elim
  ·exact hk.elim
 | fieldAddr t x f =>
  simp only [ho] at hk
  split at hk
  ·split at hk
   ·obtain ⟨_,hk⟩:=iff'_true hk
    unfold fieldAddrE at hk
    split at hk <;> first | exact hk.elim | first | exact ⟨_,hk⟩ | (simp only [forceA_eq] at hk;exact ⟨_,hk⟩) | (simp only [litN_eq] at hk;exact ⟨_,hk⟩) | (simp only [litN_eq] at hk;first | exact ⟨_,hk⟩ | (simp only [forceA_eq] at hk;exact ⟨_,hk⟩) | (simp only [litN_eq] at hk;exact ⟨_,hk⟩))
   ·exact hk.elim
  ·exact hk.elim
 | field t x f =>
  simp only [ho] at hk
  split at hk
  ·split at hk
   ·split at hk
    ·split at hk
     ·first | exact ⟨_,hk⟩ | (simp only [forceA_eq] at hk;exact ⟨_,hk⟩) | (simp only [litN_eq] at hk;exact ⟨_,hk⟩)
     ·exact hk.elim
    ·split at hk
     ·first | exact ⟨_,hk⟩ | (simp only [forceA_eq] at hk;exact ⟨_,hk⟩) | (simp only [litN_eq] at hk;exact ⟨_,hk⟩)
     ·exact hk.elim
   ·exact hk.elim
  ·exact hk.elim
 | extract t i =>
  simp only [ho] at hk
  split at hk
  ·split at hk
   ·first | exact ⟨_,hk⟩ | (simp only [forceA_eq] at hk;exact ⟨_,hk⟩) | (simp only [litN_eq] at hk;exact ⟨_,hk⟩)
   ·exact hk.elim
  ·exact hk.elim
 | load t x =>
  simp only [ho] at hk
  split at hk
  ·split at hk
   ·obtain ⟨_,_,_,hk⟩:=hk;exact ⟨_,hk⟩
   ·exact hk.elim
  ·unfold loadE at hk
   split at hk
   ·split at hk
    ·split at hk
     ·split at hk
      ·first | exact ⟨_,hk⟩ | (simp only [forceA_eq] at hk;exact ⟨_,hk⟩) | (simp only [litN_eq] at hk;exact ⟨_,hk⟩)
      ·exact hk.elim
     ·split at hk
      ·first | exact ⟨_,hk⟩ | (simp only [forceA_eq] at hk;exact ⟨_,hk⟩) | (simp only [litN_eq] at hk;exact ⟨_,hk⟩)
      ·exact hk.elim
    ·exact hk.elim
   ·split at hk
    ·split at hk
     ·obtain ⟨_,_,_,hk⟩:=hk;first | exact ⟨_,hk⟩ | (simp only [forceA_eq] at hk;exact ⟨_,hk⟩) | (simp only [litN_eq] at hk;exact ⟨_,hk⟩)
     ·obtain ⟨_,_,hk⟩:=hk;first | exact ⟨_,hk⟩ | (simp only [forceA_eq] at hk;exact ⟨_,hk⟩) | (simp only [litN_eq] at hk;exact ⟨_,hk⟩)
    ·exact hk.elim
   ·split at hk
    ·split at hk
     ·first | exact ⟨_,hk⟩ | (simp only [forceA_eq] at hk;exact ⟨_,hk⟩) | (simp only [litN_eq] at hk;exact ⟨_,hk⟩)
     ·exact hk.elim
    ·split at hk
     ·first | exact ⟨_,hk⟩ | (simp only [forceA_eq] at hk;exact ⟨_,hk⟩) | (simp only [litN_eq] at hk;exact ⟨_,hk⟩)
     ·exact hk.elim
   ·split at hk
    ·obtain ⟨_,_,_,hk⟩:=iff'_true hk
     split at hk
     ·split at hk
      ·first | exact ⟨_,hk⟩ | (simp only [forceA_eq] at hk;exact ⟨_,hk⟩) | (simp only [litN_eq] at hk;exact ⟨_,hk⟩)
      ·exact hk.elim
     ·split at hk
      ·first | exact ⟨_,hk⟩ | (simp only [forceA_eq] at hk;exact ⟨_,hk⟩) | (simp only [litN_eq] at hk;exact ⟨_,hk⟩)
      ·exact hk.elim
    ·exact hk.elim
   ·exact hk.elim
  ·exact hk.elim
 | binOp op t x y u =>
  simp only [ho] at hk
  split at hk
  ·split at hk
   ·exact ⟨_,hk false (fun h=>by cases h)⟩
   ·exact hk.elim
  ·unfold binE at hk
   split at hk
   ·split at hk
    all_goals first
     | (obtain ⟨_,hk⟩:=iff'_true hk;first | exact ⟨_,hk⟩ | (obtain ⟨_,_,hk⟩:=hk;exact ⟨_,hk⟩) | (obtain ⟨_,_,_,hk⟩:=hk;exact ⟨_,hk⟩))
     | (obtain ⟨_,_,_,hk⟩:=hk;first | exact ⟨_,hk⟩ | (simp only [forceA_eq] at hk;exact ⟨_,hk⟩) | (simp only [litN_eq] at hk;exact ⟨_,hk⟩))
   ·split at hk <;> first | exact hk.elim | exact ⟨_,hk.2⟩ | first | exact ⟨_,hk⟩ | (simp only [forceA_eq] at hk;exact ⟨_,hk⟩) | (simp only [litN_eq] at hk;exact ⟨_,hk⟩) | (simp only [litN_eq] at hk;first | exact ⟨_,hk⟩ | (simp only [forceA_eq] at hk;exact ⟨_,hk⟩) | (simp only [litN_eq] at hk;exact ⟨_,hk⟩))
   ·split at hk <;> first | exact hk.elim | (obtain ⟨_,hk⟩:=iff'_true hk;first | exact ⟨_,hk⟩ | (simp only [forceA_eq] at hk;exact ⟨_,hk⟩) | (simp only [litN_eq] at hk;exact ⟨_,hk⟩))
   ·split at hk <;> first | exact hk.elim | first | exact ⟨_,hk⟩ | (simp only [forceA_eq] at hk;exact ⟨_,hk⟩) | (simp only [litN_eq] at hk;exact ⟨_,hk⟩) | (simp only [litN_eq] at hk;first | exact ⟨_,hk⟩ | (simp only [forceA_eq] at hk;exact ⟨_,hk⟩) | (simp only [litN_eq] at hk;exact ⟨_,hk⟩))
  ·exact hk.elim
 | slice t x lo hi mx =>
  simp only [ho] at hk
  split at hk
  ·split at hk
   ·obtain ⟨e,h1,⟨d,rfl⟩,_⟩:=sliceE_wit hk
    exact ⟨d,h1⟩
   ·unfold sliceSE at hk
    split at hk
    ·exact ⟨_,hk.2⟩
    ·exact hk.elim
  ·exact hk.elim
 | convert s d x =>
  simp only [ho] at hk
  split at hk
  ·split at hk
   ·obtain ⟨_,_,hk⟩:=hk;first | exact ⟨_,hk⟩ | (simp only [forceA_eq] at hk;exact ⟨_,hk⟩) | (simp only [litN_eq] at hk;exact ⟨_,hk⟩)
   ·exact hk.elim
  ·exact hk.elim
 | call c =>
  cases hc:c.callee with
  | builtin b =>
   simp only [ho,hc] at hk
   split at hk
   ·exact hk.elim
   ·cases b with
    | len =>
     simp only at hk
     split at hk
     ·split at hk
      ·split at hk
       ·first | exact ⟨_,hk⟩ | (simp only [forceA_eq] at hk;exact ⟨_,hk⟩) | (simp only [litN_eq] at hk;exact ⟨_,hk⟩)
       ·unfold lenE at hk
        split at hk <;> first | exact hk.elim | first | exact ⟨_,hk⟩ | (simp only [forceA_eq] at hk;exact ⟨_,hk⟩) | (simp only [litN_eq] at hk;exact ⟨_,hk⟩) | (simp only [litN_eq] at hk;first | exact ⟨_,hk⟩ | (simp only [forceA_eq] at hk;exact ⟨_,hk⟩) | (simp only [litN_eq] at hk;exact ⟨_,hk⟩))
       ·split at hk
        ·first | exact ⟨_,hk⟩ | (simp only [forceA_eq] at hk;exact ⟨_,hk⟩) | (simp only [litN_eq] at hk;exact ⟨_,hk⟩)
        ·exact hk.elim
       ·exact hk.elim
      ·exact hk.elim
     ·exact hk.elim
    | min =>
     simp only [minE] at hk
     split at hk
     ·obtain ⟨_,hk⟩:=iff'_true hk;first | exact ⟨_,hk⟩ | (simp only [forceA_eq] at hk;exact ⟨_,hk⟩) | (simp only [litN_eq] at hk;exact ⟨_,hk⟩)
     ·obtain ⟨_,hk⟩:=iff'_true hk;first | exact ⟨_,hk⟩ | (simp only [forceA_eq] at hk;exact ⟨_,hk⟩) | (simp only [litN_eq] at hk;exact ⟨_,hk⟩)
     ·exact hk.elim
    | max =>
     simp only [maxE] at hk
     split at hk
     ·obtain ⟨_,hk⟩:=iff'_true hk;first | exact ⟨_,hk⟩ | (simp only [forceA_eq] at hk;exact ⟨_,hk⟩) | (simp only [litN_eq] at hk;exact ⟨_,hk⟩)
     ·exact hk.elim
    | _=>(simp [valOp,ho,hc] at hv)
  | _=>(simp [valOp,ho,hc] at hv)
 | _=>(simp [valOp,ho] at hv)

omit [Glb] in
theorem val_only {σ:St} {o:Oper} {k:Eff→Prop} (hv:valOp o=true) (hy:(∀ b y,¬ k (.yielded b y))∧∀ b y nb,¬ k (.gave b y nb)) (hsr:∀ d bs y,¬ k (.resS d bs y)) (hnf:∀ b mk L,¬ k (.newF b mk L)) (hk:opE T C σ o k) :
    opE T C σ o fun e=>k e∧match e with | .val _=>True | _=>False:=by
  obtain ⟨e,he,_,hw⟩:=opE_wit (valOp_mild hv) hy hsr hnf hk
  obtain ⟨d,hd⟩:=val_of hv (hw σ ⟨fun _ _=>rfl,Bg.refl _⟩ (fun e1=>e1=e) rfl)
  subst hd
  exact hw σ ⟨fun _ _=>rfl,Bg.refl _⟩ _ ⟨he,trivial⟩


omit [Glb] in
theorem still_mem {ops:List Oper} {nb:Nat} {σ:St} {j:Nat}:∀ {l:List Nat},stillAll T C ops nb σ l→j∈l→stillE T C ops nb σ j
 | [],_,h=>by cases h
 | x::r,hs,h=>by
  rcases List.mem_cons.1 h with rfl | h
  ·exact hs.1
  ·exact still_mem hs.2 h

omit [Glb] in
theorem Stp.no_box {ops:List Oper} {o:Oper} {σ σ':St} (h:Stp T C ops o σ σ') (hv:valOp o=true):σ'.boxes.length=σ.boxes.length:=by
 rcases h with ⟨_,rfl⟩ | ⟨_,e,e',_,hp,hw,rfl⟩
 ·rw [put_boxes]
 ·obtain ⟨d,hd⟩:=val_of hv (hw σ ⟨fun _ _=>rfl,Bg.refl _⟩ (fun e1=>e1=e) rfl)
  subst hd
  unfold effSt
  rw [put_boxes]
  cases hp <;> rfl

omit [Glb] in
theorem mem_lateF {o:Oper}:∀ {l:List Nat} {j:Nat},j∈lateF o l↔j∈l∧hasEdge o j=false
 | [],_=>by simp [lateF]
 | i::r,j=>by
  unfold lateF
  cases h:hasEdge o i with
  | true =>
   simp only [List.mem_cons]
   rw [mem_lateF]
   constructor
   ·rintro ⟨h1,h2⟩;exact ⟨.inr h1,h2⟩
   ·rintro ⟨rfl | h1,h2⟩
    ·rw [h] at h2;cases h2
    ·exact ⟨h1,h2⟩
  | false =>
   simp only [List.mem_cons]
   rw [mem_lateF]
   constructor
   ·rintro (rfl | ⟨h1,h2⟩)
    ·exact ⟨.inl rfl,h⟩
    ·exact ⟨.inr h1,h2⟩
   ·rintro ⟨rfl | h1,h2⟩
    ·exact .inl rfl
    ·exact .inr ⟨h1,h2⟩

omit [Glb] in
theorem allocMk_inj {o:Op} {mk:Nat→D} (h:allocMk o=some mk) {a b:Nat} (e:mk a=mk b):a=b:=by
 cases o <;> simp only [allocMk] at h <;> try cases h
 all_goals first
  | (injection e)
  | (split at h
     ·cases h
     ·cases h;injection e)

omit [Glb] in
theorem alloc_mild {o:Oper} {mk:Nat→D} (h:allocMk o.op=some mk):mild o=true:=by
 unfold mild
 cases ho:o.op <;> rw [ho] at h <;> first | rfl | cases h

omit [Glb] in
theorem alloc_of {σ:St} {o:Oper} {k:Eff→Prop} {mk:Nat→D} (h:allocMk o.op=some mk) (hk:opE T C σ o k) :
    ∃ e,k e∧((∃ b,e=.new b mk)∨∃ b L,e=.newF b mk L)∧∀ k':Eff→Prop,k' e→opE T C σ o k':=by
  unfold opE at hk ⊢
  cases ho:o.op with
  | alloc t =>
   simp only [ho] at hk ⊢
   rw [ho] at h
   cases h
   split at hk
   ·rename_i ti hti
    exact ⟨_,hk,.inl ⟨_,rfl⟩,fun k' h'=>h'⟩
   ·exact hk.elim
  | box t x =>
   simp only [ho] at hk ⊢
   rw [ho] at h
   cases h
   split at hk
   ·rename_i d hd
    split at hk
    ·rename_i cs hcs
     exact ⟨_,hk,.inl ⟨_,rfl⟩,fun k' h'=>by first | exact h' | (simp only [hcs];exact h')⟩
    ·exact hk.elim
   ·exact hk.elim
  | buildSlice t len ps =>
   simp only [ho] at hk ⊢
   rw [ho] at h
   simp only [allocMk] at h
   cases hl:Nat.beq len 0 with
   | true=>rw [hl] at h;cases h
   | false =>
    rw [hl] at h
    cases h
    simp only [hl] at hk
    split at hk
    ·split at hk
     ·split at hk
      ·obtain ⟨hs,hk⟩:=iff'_true hk
       exact ⟨_,hk,.inl ⟨_,rfl⟩,fun k' h'=>iff'_mk hs h'⟩
      ·rename_i hrows
       obtain ⟨l',hl',rows,hr2,hk⟩:=hk
       obtain ⟨hs,hk⟩:=iff'_true hk
       exact ⟨_,hk,.inr ⟨_,_,rfl⟩,fun k' h'=>⟨l',hl',rows,hr2,iff'_mk hs h'⟩⟩
     ·exact hk.elim
    ·exact hk.elim
  | _=>(rw [ho] at h;cases h)

omit [Glb] in
theorem empty_mild {o:Oper} (h:emptyMk o.op=true):mild o=true:=by
 unfold mild
 cases ho:o.op <;> rw [ho] at h <;> first | rfl | cases h
omit [Glb] in
theorem empty_val {o:Oper} (h:emptyMk o.op=true):valOp o=false:=by
 unfold valOp
 cases ho:o.op <;> rw [ho] at h <;> first | rfl | cases h
omit [Glb] in
theorem empty_of {σ:St} {o:Oper} {k:Eff→Prop} (h:emptyMk o.op=true) (hk:opE T C σ o k) :
    ∃ e,k e∧((∃ b mk,e=.new b mk∧∀ i,mk i=.nils)∨∃ b mk L,e=.newF b mk L)∧∀ k':Eff→Prop,k' e→opE T C σ o k':=by
  unfold opE at hk ⊢
  cases ho:o.op with
  | buildSlice t len ps =>
   simp only [ho] at hk ⊢
   rw [ho] at h
   have hl:Nat.beq len 0=true:=h
   split at hk
   ·split at hk
    ·split at hk
     ·obtain ⟨hs,hk⟩:=iff'_true hk
      exact ⟨_,hk,.inl ⟨_,_,rfl,fun i=>by rw [hl]⟩,fun k' h'=>iff'_mk hs h'⟩
     ·rename_i hrows
      obtain ⟨l',hl',rows,hr2,hk⟩:=hk
      obtain ⟨hs,hk⟩:=iff'_true hk
      exact ⟨_,hk,.inr ⟨_,_,_,rfl⟩,fun k' h'=>⟨l',hl',rows,hr2,iff'_mk hs h'⟩⟩
    ·exact hk.elim
   ·exact hk.elim
  | _=>(rw [ho] at h;cases h)
omit [Glb] in
theorem Stp.one_box {ops:List Oper} {o:Oper} {σ σ':St} (h:Stp T C ops o σ σ') (hg:o.guard=none) (hv:boxOp o=true):σ'.boxes.length=σ.boxes.length+1:=by
 rcases h with ⟨hw,_⟩ | ⟨_,e,e',hml,hpart,hwi,hσ⟩
 ·exfalso
  unfold wantD at hw
  rw [hg] at hw
  cases hw
 · have key:∃ b mk,e=.new b mk:=by
     unfold boxOp at hv
     cases hmk0:allocMk o.op with
     | some mk0 =>
      obtain ⟨e2,rfl,hshape2,_⟩:=alloc_of hmk0 (hwi σ ⟨fun _ _=>rfl,Bg.refl _⟩ (fun e1=>e1=e) rfl)
      rcases hshape2 with ⟨b1,rfl⟩ | ⟨b1,L1,rfl⟩
      ·exact ⟨_,_,rfl⟩
      ·exact absurd hml id
     | none =>
      rw [hmk0] at hv
      obtain ⟨e2,rfl,hshape2,_⟩:=empty_of hv (hwi σ ⟨fun _ _=>rfl,Bg.refl _⟩ (fun e1=>e1=e) rfl)
      rcases hshape2 with ⟨b1,mk1,rfl,_⟩ | ⟨b1,mk1,L1,rfl⟩
      ·exact ⟨_,_,rfl⟩
      ·exact absurd hml id
   obtain ⟨b1,mk1,rfl⟩:=key
   have he':e'=.new b1 mk1:=by cases hpart;rfl
   subst he'
   have h2:σ'.boxes=σ.boxes++[b1]:=by rw [hσ];unfold effSt;rw [put_boxes];rfl
   rw [h2];simp
omit [Glb] in
theorem Run.cnt {σs:Nat→St} (hr:Run T C ops m σs) (hm:m≤ops.size):∀ i,i≤m→(∀ s os,s<i→ops[s]?=some os→oneBox os=true)→(σs i).boxes.length=(σs 0).boxes.length+cntMk ops.toList i
 | 0,_,_=>rfl
 | i+1,hi,h=>by
  have ih:=Run.cnt hr hm i (by omega) fun s os hs hos=>h s os (by omega) hos
  have ho:ops[i]?=some ops[i]:=Array.getElem?_eq_getElem (by omega)
  have hone:=h i _ (by omega) ho
  have hst:=hr.step i _ (by omega) ho
  have hget:ops.toList.getD i default=ops[i]:=by
   have:ops.toList[i]?=some ops[i]:=by simp
   rw [List.getD_eq_getElem?_getD,this];rfl
  unfold oneBox at hone
  rw [Bool.and_eq_true] at hone
  have hg:ops[i].guard=none:=by
   have h1:=hone.1
   revert h1
   cases ops[i].guard with
   | none=>intro _;rfl
   | some x=>intro h1;cases h1
  simp only [cntMk,hget]
  cases hv:valOp ops[i] with
  | true=>rw [hst.no_box hv,ih]
  | false =>
   have h2:=hone.2
   rw [hv] at h2
   rw [hst.one_box hg h2,ih]
   simp only
   omega

omit [Glb] in
theorem lowL_mem {m:Nat}:∀ {l:List Nat} {j:Nat},j∈lowL m l↔j∈l∧j<m
 | [],_=>by simp [lowL]
 | i::r,j=>by
  unfold lowL
  cases h:Nat.blt i m with
  | true =>
   have:i<m:=Nat.blt_eq ▸ h
   simp only [List.mem_cons]
   rw [lowL_mem]
   constructor
   ·rintro (rfl | ⟨h1,h2⟩)
    ·exact ⟨.inl rfl,this⟩
    ·exact ⟨.inr h1,h2⟩
   ·rintro ⟨rfl | h1,h2⟩
    ·exact .inl rfl
    ·exact .inr ⟨h1,h2⟩
  | false =>
   have:¬ i<m:=fun hh=>by
    have h2:Nat.blt i m=true:=by rw [Nat.blt_eq];exact hh
    rw [h2] at h;cases h
   simp only [List.mem_cons]
   rw [lowL_mem]
   constructor
   ·rintro ⟨h1,h2⟩;exact ⟨.inr h1,h2⟩
   ·rintro ⟨rfl | h1,h2⟩
    ·exact absurd h2 this
    ·exact ⟨h1,h2⟩

def Bl2 (σs:Nat→St) (m:Nat) (listed:Array Bool) (β:BE) (t:Nat):Prop :=
 ∀ b,(β b).isSome=true↔((b<(σs 0).boxes.length∨∃ i,i<m∧listed.getD i true=true∧(σs i).boxes.length≤b∧b<(σs (i+1)).boxes.length)∨((σs m).boxes.length≤b∧b<t))

structure LInv (sh:Kinds) (T:Nat→Option TI) (cx:Cx) (N:Nat) (ops:Array Oper) (m:Nat) (lateL:List Nat) (σs:Nat→St) (listed:Array Bool) (a:Act) (w:World) (β:BE) (I:Imm) (S:Nat→Prop) (k:Nat) (τ:St) (L:List Nat):Prop where
 sub:∀ j,j∈L→j∈lateL∧j<m+k
 l0:k=0→L=lowL m lateL
 sz:listed.size=ops.size
 bnd:m+k≤ops.size
 tail:∀ i,m≤i→i<ops.size→(listed.getD i true=true→i<m+k)∧(i<m+k→i ∉ L→listed.getD i true=true)
 down:∀ (i:Nat) (o:Oper) (e:Edge),ops[i]?=some o→listed.getD i true=true→e∈o.after.toList→Region.binds .any e=true→listed.getD e.on false=true
 pre:k≠0→∀ j,j<m→j ∉ L→listed.getD j true=true
 sim:Sim cx (Vl ops (m+k) listed) τ β I S N a w
 bl:Bl2 σs m listed β τ.boxes.length
 len:(σs m).boxes.length≤τ.boxes.length
 slot:∀ (j:Nat) (oj:Oper) (t:Nat),j<m→ops[j]?=some oj→oj.dst=some t→look τ.tmps t=look (σs m).tmps t
 st0:k=0→τ=σs m
 st:k≠0→stillAll T (CD P sh) ops.toList (σs 0).boxes.length τ L

theorem late_any (hT:TOK P T) {F:Fence} (hF:FW F) (hcx:cx.Ok) {lateL:List Nat} (hd:LateOK ops m lateL) (hdst:∀ o∈ops.toList,∀ t,o.dst=some t→t<N) {n:Nat} {K:St→Prop} {Q:Exit→Act→World→Prop}
    (hQ:∀ σ' a' w',K σ'→FS cx σ' N a' w'→Q .normal a' w') {σs:Nat→St} (hr:Run T (CD P sh) ops m σs) :
    ∀ (fuel:Nat) (listed:Array Bool) (a:Act) (w:World) (β:BE) (I:Imm) (S:Nat→Prop) (k:Nat) (τ:St) (L:List Nat),LInv (P:=P) sh T cx N ops m lateL σs listed a w β I S k τ L→listed.toList.count false=fuel →
     runTail T (CD P sh) ops.toList (σs 0).boxes.length lateL (m+k) L (ops.toList.drop (m+k)) τ K→wpAnyIn F n P .any ops Q fuel listed a w:=by
  intro fuel
  induction fuel with
  | zero =>
   intro listed a w β I S k τ L h hc hk
   obtain ⟨hsub,hL0,hsz,hmk,htail,hdown,hpre,hs,hb,hlen,hsl,hst0,hst⟩:=h
   have hall:∀ i,i<ops.size→listed.getD i true=true:=fun i hi=>count_zero hc (by omega)
   have hmn:m+k=ops.size:=by
    rcases Nat.lt_or_ge (m+k) ops.size with h | h
    ·have:=(htail (m+k) (by omega) h).1 (hall _ h)
     omega
    ·omega
   have hle:=hd.le
   have hfs:FS cx τ N a w:=by
    refine ⟨β,I,S,hs.move (fun t _=>⟨fun j o hj ho hun=>by (rw [hall j (by omega)] at hun;cases hun),rfl⟩) (Bg.refl _) rfl,fun b hbl=>(hb b).2 ?_⟩
    rcases Nat.lt_or_ge b (σs m).boxes.length with hbm | hbm
    ·rcases hr.made hd.le b m (Nat.le_refl _) hbm with h | ⟨i,h1,h2⟩
     ·exact .inl (.inl h)
     ·exact .inl (.inr ⟨i,h1,hall i (by omega),h2⟩)
    ·exact .inr ⟨hbm,hbl⟩
   rw [show ops.toList.drop (m+k)=[] by rw [hmn];simp] at hk
   refine wpAnyIn_done ?_ (hQ _ _ _ hk hfs) 0
   cases hrd:Region.ready .any ops listed with
   | nil=>rfl
   | cons x xs =>
    obtain ⟨h0,o,ho,_⟩:=mem_ready.1 (show x∈Region.ready .any ops listed by rw [hrd];simp)
    rw [hall x (Array.getElem?_eq_some_iff.1 ho).1] at h0
    cases h0
  | succ fuel ih =>
   intro listed a w β I S
   have main:∀ (k:Nat) (τ:St) (L:List Nat),(m+k<ops.size→lateL.contains (m+k)=false)→LInv (P:=P) sh T cx N ops m lateL σs listed a w β I S k τ L→listed.toList.count false=fuel+1 →
       runTail T (CD P sh) ops.toList (σs 0).boxes.length lateL (m+k) L (ops.toList.drop (m+k)) τ K→wpAnyIn F n P .any ops Q (fuel+1) listed a w:=by
     intro k τ L hnf h hc hk
     obtain ⟨hsub,hL0,hsz,hmk,htail,hdown,hpre,hs,hb,hlen,hsl,hst0,hst⟩:=h
     refine ⟨fun hrd=>?_,fun i hi=>?_⟩
     ·exfalso
      have:∃ i,i<ops.size∧listed.getD i true=false:=by
       have hpos:0<listed.toList.count false:=by omega
       have hmem:=List.count_pos_iff.1 hpos
       obtain ⟨i,hi,hv⟩:=List.getElem_of_mem hmem
       have hi':i<listed.size:=by simpa using hi
       exact ⟨i,by omega,by simpa [hi'] using hv⟩
      obtain ⟨i,hi⟩:=this
      obtain ⟨j,⟨hj,hun⟩,hmin⟩:=least_nat (p:=fun i=>i<ops.size∧listed.getD i true=false) i hi
      have:j∈Region.ready .any ops listed:=mem_ready.2 ⟨hun,ops[j],Array.getElem?_eq_getElem hj,fun e he hb=>by
       have h1:=hd.edge j _ e (Array.getElem?_eq_getElem hj) (by simpa using he) hb
       exact getD_ff_tt (by omega) (getD_not fun h=>hmin e.on h1 ⟨by omega,h⟩)⟩
      rw [hrd] at this
      cases this
     ·obtain ⟨hun,o,ho,hall⟩:=mem_ready.1 hi
      have hin:=(Array.getElem?_eq_some_iff.1 ho).1
      have hoL:ops.toList[i]?=some o:=by simpa using ho
      have hcs:=count_set (l:=listed) (i:=i) (by omega) hun
      have hdown':∀ (j:Nat) (oj:Oper) (e:Edge),ops[j]?=some oj→(listed.setIfInBounds i true).getD j true=true→e∈oj.after.toList→Region.binds .any e=true→(listed.setIfInBounds i true).getD e.on false=true:=fun j oj e hoj hj he hbd=>getD_set_true (by
       by_cases hji:j=i
       ·subst hji
        rw [ho] at hoj;cases hoj
        exact hall e (by simpa using he) hbd
       ·rw [getD_set_ne true (Ne.symm hji)] at hj
        exact hdown j oj e hoj hj he hbd)
      have hlistedB:∀ j,Behind ops o j→listed.getD j true=true:=fun j hj =>
       hj.listed (L:=fun k=>listed.getD k true=true) (fun k ok e' hok hk he' hb'=>getD_true_false (hdown k ok e' hok hk he' hb')) fun e he hb=>getD_true_false (hall e (by simpa using he) hb)
      have hset:∀ j,(listed.setIfInBounds i true).getD j true=true↔(j=i∨listed.getD j true=true):=by
       intro j
       by_cases hji:j=i
       ·subst hji;simp [show j<listed.size by omega]
       ·rw [getD_set_ne true (Ne.symm hji)];simp [hji]
      have hVnext:∀ t,Vl ops (m+k) (listed.setIfInBounds i true) t→o.dst=some t∨Vl ops (m+k) listed t:=by
       intro t ht
       by_cases hdt:o.dst=some t
       ·exact .inl hdt
       ·refine .inr fun j oj hj hoj hun'=>?_
        by_cases hji:j=i
        ·subst hji;rw [ho] at hoj;cases hoj;exact hdt
        ·exact ht j oj hj hoj (by rw [getD_set_ne true (Ne.symm hji)];exact hun')
      have hBnew2:((σs (i+1)).boxes.length=(σs i).boxes.length∨m≤i)→∀ (t':Nat) (β':BE),τ.boxes.length≤t'→(∀ b,(β' b).isSome=true↔((β b).isSome=true∨(τ.boxes.length≤b∧b<t')))→Bl2 σs m (listed.setIfInBounds i true) β' t':=by
       intro heq t' β' ht' he b
       rw [he,hb b]
       constructor
       ·rintro (((h | ⟨j,h1,h2,h3⟩) | h) | h)
        ·exact .inl (.inl h)
        ·exact .inl (.inr ⟨j,h1,(hset j).2 (.inr h2),h3⟩)
        ·exact .inr ⟨h.1,by omega⟩
        ·exact .inr ⟨by omega,h.2⟩
       ·rintro ((h | ⟨j,h1,h2,h3,h4⟩) | h)
        ·exact .inl (.inl (.inl h))
        ·rcases (hset j).1 h2 with rfl | h2
         ·rcases heq with h | h <;> omega
         ·exact .inl (.inl (.inr ⟨j,h1,h2,h3,h4⟩))
        ·by_cases hbt:b<τ.boxes.length
         ·exact .inl (.inr ⟨h.1,hbt⟩)
         ·exact .inr ⟨by omega,h.2⟩
      have hBnew:((σs (i+1)).boxes.length=(σs i).boxes.length∨m≤i)→∀ β':BE,(∀ b,(β' b).isSome=(β b).isSome)→Bl2 σs m (listed.setIfInBounds i true) β' τ.boxes.length:=fun heq β' he =>
       hBnew2 heq _ β' (Nat.le_refl _) fun b=>by rw [he];exact ⟨.inl,fun h=>h.elim id fun h=>by omega⟩
      have hdo:=hdst o (List.mem_of_getElem? hoL)
      -- one that comes late
      have lateStep:k≠0→i<m+k→i∈L→wpOpIn F n P ops Q i (fun a' w'=>wpAnyIn F n P .any ops Q fuel (listed.setIfInBounds i true) a' w') a w:=by
       intro hk0 hik hl
       obtain ⟨hg,hv1,hv2⟩:=hd.late i (hsub i hl).1 o ho
       have hstillE:=still_mem (hst hk0) hl
       have hgetD:ops.toList.getD i default=o:=by rw [List.getD_eq_getElem?_getD,hoL];rfl
       unfold stillE at hstillE
       rw [hgetD] at hstillE
       have htail':∀ j,m≤j→j<ops.size→((listed.setIfInBounds i true).getD j true=true→j<m+k)∧(j<m+k→j ∉ L→(listed.setIfInBounds i true).getD j true=true):=fun j h1 h2=>by
        refine ⟨fun h=>?_,fun h3 h4=>(hset j).2 (.inr ((htail j h1 h2).2 h3 h4))⟩
        rcases (hset j).1 h with rfl | h
        ·exact hik
        ·exact (htail j h1 h2).1 h
       have hpre':k≠0→∀ j,j<m→j ∉ L→(listed.setIfInBounds i true).getD j true=true:=fun h j hj hjl=>(hset j).2 (.inr (hpre h j hj hjl))
       have hVo:∀ t,Operand.tmp t∈o.op.operands.toList→Vl ops (m+k) listed t:=by
        intro t ht j oj hj hoj hun' hdj
        rcases Nat.lt_or_ge j m with hjm | hjm
        ·rcases Nat.lt_or_ge i m with him | him
         ·have:=hlistedB j (.edge ((hd.apart i j o oj t him hjm ho hoj hdj).1 ht).2)
          rw [this] at hun';cases hun'
         ·have:=hlistedB j ((hd.reads i o j oj t him ho (by omega) (.inl hjm) hoj hdj).1 ht)
          rw [this] at hun';cases hun'
        · have hjL:j∈L:=Classical.byContradiction fun h=>by
            have:=(htail j hjm (Array.getElem?_eq_some_iff.1 hoj).1).2 hj h
            rw [this] at hun';cases hun'
          rcases Nat.lt_or_ge j i with hji | hji
          ·have:=hlistedB j ((hd.reads i o j oj t (by omega) ho hji (.inr (hsub j hjL).1) hoj hdj).1 ht)
           rw [this] at hun';cases hun'
          ·exact ((hd.late j (hsub j hjL).1 oj hoj).2.2 hjm).2.2 i (hsub i hl).1 hji o ho t hdj ht
       unfold wpOpIn
       simp only [ho]
       rw [if_pos (show Region.wanted o (yielded ops a.tmps)=true by unfold Region.wanted;rw [hg])]
       have hmono:∀ {j k},j≤k→k≤m→(σs j).boxes.length≤(σs k).boxes.length:=fun {j k} h1 h2=>by
        have:=hr.len hd.le (k - j) j (by omega)
        rwa [show j+(k - j)=k by omega] at this
       cases hem:emptyMk o.op with
       | true =>
        rw [hem] at hstillE
        have him:i<m:=by
         rcases Nat.lt_or_ge i m with h | h
         ·exact h
         ·have:=(hv2 h).2.1
          rw [empty_val hem] at this
          cases this
        obtain ⟨e0,he0,hshape,hwit⟩:=empty_of hem hstillE
        rcases hshape with ⟨b0,mk0,rfl,hmk1⟩ | ⟨b0,mk0,L0,rfl⟩
        rotate_left
        ·exfalso
         revert he0
         cases o.dst <;> exact id
        obtain ⟨t,hdt⟩:∃ t,o.dst=some t:=by
         cases hdd:o.dst with
         | none=>rw [hdd] at he0;exact he0.elim
         | some t=>exact ⟨t,rfl⟩
        rw [hdt] at he0
        obtain ⟨hn0,hbx⟩:=he0
        have hcnt:=hr.cnt hd.le i (by omega) ((hv1 him).2 hem)
        rw [← hcnt] at hbx
        have hlen1:(σs (i+1)).boxes.length=(σs i).boxes.length+1:=(hr.step i o him ho).one_box hg (by unfold boxOp;cases allocMk o.op <;> first | rfl | exact hem)
        obtain ⟨n0,hn⟩:∃ n0,n0=(σs i).boxes.length:=⟨_,rfl⟩
        rw [← hn] at hbx
        have hnone:β n0=none:=by
         cases hβ:β n0 with
         | none=>rfl
         | some c =>
          exfalso
          rcases (hb _).1 (by rw [hβ];rfl) with (h | ⟨j,h1,h2,h3,h4⟩) | h5
          ·have:=hmono (j:=0) (k:=i) (by omega) (by omega);omega
          ·rcases Nat.lt_trichotomy j i with h | rfl | h
           ·have:=hmono (j:=j+1) (k:=i) (by omega) (by omega);omega
           ·rw [h2] at hun;cases hun
           ·have:=hmono (j:=i+1) (k:=j) (by omega) (by omega);omega
          ·have:=hmono (j:=i+1) (k:=m) (by omega) (by omega);omega
        refine mild_wp hT hF hcx hs hVo (.inl (empty_mild hem)) (hwit (fun e1=>e1=.new b0 mk0) rfl) (.inl ⟨fun b y hh=>(by cases hh),fun b y nb hh=>(by cases hh)⟩) (.inl fun d bs y hh=>(by cases hh)) ?_ ?_ ?_ ?_
        ·intro d v hkd;cases hkd
        ·intro b mk v w' bi hkd hRw hkeep hbr hfz hrel
         cases hkd
         obtain ⟨hsim,hleβ⟩:=hs.new hcx hkeep (bs:=τ.boxes) (n:=n0) hnone hbx (fun _ _=>rfl) hRw hbr
         refine ih _ _ w' _ I S k τ L ⟨hsub,hL0,by simpa using hsz,hmk,htail',hdown',hpre',hsim.fill hdo hVnext fun t' d' hdt' hlk=>?_,?_,hlen,hsl,hst0,hst⟩ (by omega) hk
         ·rw [hdt] at hdt'
          cases hdt'
          have hlk:look τ.tmps t=some d':=hlk
          rw [hn0] at hlk
          cases hlk
          rw [hmk1 0,← hmk1 n0]
          exact hrel _ _ (by simp)
         ·intro b'
          by_cases hk':b'=n0
          ·subst hk'
           simp only [if_true,Option.isSome_some,true_iff]
           exact .inl (.inr ⟨i,him,(hset i).2 (.inl rfl),by omega,by omega⟩)
          ·simp only [if_neg hk']
           rw [hb b']
           constructor
           ·rintro ((h | ⟨j,h1,h2,h3⟩) | h)
            ·exact .inl (.inl h)
            ·exact .inl (.inr ⟨j,h1,(hset j).2 (.inr h2),h3⟩)
            ·exact .inr h
           ·rintro ((h | ⟨j,h1,h2,h3,h4⟩) | h)
            ·exact .inl (.inl h)
            ·rcases (hset j).1 h2 with rfl | h2
             ·omega
             ·exact .inl (.inr ⟨j,h1,h2,h3,h4⟩)
            ·exact .inr h
        ·intro b mk L v w' bi hkd;cases hkd
        ·intro d as v w' I' hkd;cases hkd
       | false =>
       rw [hem] at hstillE
       have hstill:still T (CD P sh) τ o:=hstillE
       have value:valOp o=true→o.wpIn F n P a w (fun a' w'=>wpAnyIn F n P .any ops Q fuel (listed.setIfInBounds i true) a' w') Q:=by
        intro hv
        have hB':Bl2 σs m (listed.setIfInBounds i true) β τ.boxes.length:=by
         refine hBnew ?_ β fun _=>rfl
         rcases Nat.lt_or_ge i m with him | him
         ·exact .inl ((hr.step i o him ho).no_box hv)
         ·exact .inr him
        refine mild_wp hT hF hcx hs hVo (.inl (valOp_mild hv)) (val_only hv ⟨fun b y hh=>by revert hh;cases o.dst <;> exact id,fun b y nb hh=>by revert hh;cases o.dst <;> exact id⟩ (fun d bs y hh=>by revert hh;cases o.dst <;> exact id) (fun b mk L hh=>by revert hh;cases o.dst <;> exact id) hstill) (.inl ⟨fun b y hh=>hh.2,fun b y nb hh=>hh.2⟩) (.inl fun d bs y hh=>hh.2) ?_ ?_ ?_ ?_
        ·intro d v hkd hrel
         have hkd:=hkd.1
         refine ih _ _ w β I S k τ L ⟨hsub,hL0,by simpa using hsz,hmk,htail',hdown',hpre',hs.fill hdo hVnext fun t d' hdt hlk=>?_,hB',hlen,hsl,hst0,hst⟩ (by omega) hk
         rw [hdt] at hkd
         have hkd:look τ.tmps t=some d:=hkd
         rw [hlk] at hkd
         cases hkd
         exact hrel
        ·intro b mk v w' bi hkd;exact hkd.2.elim
        ·intro b mk L v w' bi hkd;exact hkd.2.elim
        ·intro d as v w' I' hkd;exact hkd.2.elim
       rcases Nat.lt_or_ge i m with him | him
       rotate_left
       ·exact value (hv2 him).2.1
       have hv:=(hv1 him).1
       unfold lateOp at hv
       cases hvo:valOp o with
       | true=>exact value hvo
       | false =>
        rw [hvo] at hv
        unfold boxOp at hv
        cases hmk0:allocMk o.op with
        | none=>rw [hmk0] at hv;rw [hem] at hv;cases hv
        | some mk0 =>
         obtain ⟨e0,he0,hshape,hwit⟩:=alloc_of hmk0 hstill
         rcases hshape with ⟨b0,rfl⟩ | ⟨b0,L0,rfl⟩
         rotate_left
         ·exfalso
          revert he0
          cases o.dst <;> exact id
         obtain ⟨t,hdt⟩:∃ t,o.dst=some t:=by
          cases hdd:o.dst with
          | none=>rw [hdd] at he0;exact he0.elim
          | some t=>exact ⟨t,rfl⟩
         rw [hdt] at he0
         obtain ⟨n0,hn0,hbx⟩:=he0
         -- the box has the number that it had then
         have hn:n0=(σs i).boxes.length∧(σs (i+1)).boxes.length=(σs i).boxes.length+1:=by
          have hsl1:=hsl i o t him ho hdt
          have hslot:look (σs m).tmps t=look (σs (i+1)).tmps t:=by
           have:=hr.look hd.le (t:=t) (m - (i+1)) (i+1) (by omega) (fun j oj h1 h2 hoj hdj=>by
            rcases (hd.apart j i oj o t (by omega) him hoj ho hdt).2 with h | h
            ·omega
            ·exact h hdj)
           rwa [show i+1+(m - (i+1))=m by omega] at this
          rcases hr.step i o him ho with ⟨hw,_⟩ | ⟨_,e,e',hml,hpart,hwi,hσ⟩
          ·exfalso
           unfold wantD at hw
           rw [hg] at hw
           cases hw
          ·obtain ⟨e2,rfl,hshape2,_⟩:=alloc_of hmk0 (hwi (σs i) ⟨fun _ _=>rfl,Bg.refl _⟩ (fun e1=>e1=e) rfl)
           rcases hshape2 with ⟨b1,rfl⟩ | ⟨b1,L1,rfl⟩
           rotate_left
           ·exact absurd hml id
           have he':e'=.new b1 mk0:=by cases hpart;rfl
           subst he'
           have h1:look (σs (i+1)).tmps t=some (mk0 (σs i).boxes.length):=by
            rw [hσ,hdt]
            unfold effSt
            rw [look_put_same];rfl
           have h2:(σs (i+1)).boxes=(σs i).boxes++[b1]:=by rw [hσ];unfold effSt;rw [put_boxes];rfl
           refine ⟨allocMk_inj hmk0 ?_,by rw [h2];simp⟩
           rw [hsl1,hslot,h1] at hn0
           exact (Option.some.inj hn0).symm
         obtain ⟨hn,hlen1⟩:=hn
         have hnone:β n0=none:=by
          cases hβ:β n0 with
          | none=>rfl
          | some c =>
           exfalso
           rcases (hb _).1 (by rw [hβ];rfl) with (h | ⟨j,h1,h2,h3,h4⟩) | h5
           ·have:=hmono (j:=0) (k:=i) (by omega) (by omega);omega
           ·rcases Nat.lt_trichotomy j i with h | rfl | h
            ·have:=hmono (j:=j+1) (k:=i) (by omega) (by omega);omega
            ·rw [h2] at hun;cases hun
            ·have:=hmono (j:=i+1) (k:=j) (by omega) (by omega);omega
           ·have:=hmono (j:=i+1) (k:=m) (by omega) (by omega);omega
         refine mild_wp hT hF hcx hs hVo (.inl (alloc_mild hmk0)) (hwit (fun e1=>e1=.new b0 mk0) rfl) (.inl ⟨fun b y hh=>(by cases hh),fun b y nb hh=>(by cases hh)⟩) (.inl fun d bs y hh=>(by cases hh)) ?_ ?_ ?_ ?_
         ·intro d v hkd;cases hkd
         ·intro b mk v w' bi hkd hRw hkeep hbr hfz hrel
          cases hkd
          obtain ⟨hsim,hleβ⟩:=hs.new hcx hkeep (bs:=τ.boxes) (n:=n0) hnone hbx (fun _ _=>rfl) hRw hbr
          refine ih _ _ w' _ I S k τ L ⟨hsub,hL0,by simpa using hsz,hmk,htail',hdown',hpre',hsim.fill hdo hVnext fun t' d' hdt' hlk=>?_,?_,hlen,hsl,hst0,hst⟩ (by omega) hk
          ·rw [hdt] at hdt'
           cases hdt'
           have hlk:look τ.tmps t=some d':=hlk
           rw [hn0] at hlk
           cases hlk
           exact hrel _ _ (by simp)
          ·intro b'
           by_cases hk':b'=n0
           ·subst hk'
            simp only [if_true,Option.isSome_some,true_iff]
            exact .inl (.inr ⟨i,him,(hset i).2 (.inl rfl),by omega,by omega⟩)
           ·simp only [if_neg hk']
            rw [hb b']
            constructor
            ·rintro ((h | ⟨j,h1,h2,h3⟩) | h)
             ·exact .inl (.inl h)
             ·exact .inl (.inr ⟨j,h1,(hset j).2 (.inr h2),h3⟩)
             ·exact .inr h
            ·rintro ((h | ⟨j,h1,h2,h3,h4⟩) | h)
             ·exact .inl (.inl h)
             ·rcases (hset j).1 h2 with rfl | h2
              ·omega
              ·exact .inl (.inr ⟨j,h1,h2,h3,h4⟩)
             ·exact .inr h
         ·intro b mk L v w' bi hkd;cases hkd
         ·intro d as v w' I' hkd;cases hkd
      rcases Nat.lt_or_ge i m with him | him
      ·rcases Nat.eq_zero_or_pos k with rfl | hkpos
       ·obtain rfl:=hst0 rfl
        have htail':∀ j,m≤j→j<ops.size→((listed.setIfInBounds i true).getD j true=true→j<m+0)∧(j<m+0→j ∉ L→(listed.setIfInBounds i true).getD j true=true):=fun j h1 h2=>by
         refine ⟨fun h=>?_,fun h3=>by omega⟩
         rcases (hset j).1 h with rfl | h
         ·omega
         ·exact (htail j h1 h2).1 h
        refine draw_step hT hF hcx hd.toDrawB hr hdst hsz hs (fun b=>(hb b).trans ⟨fun h=>h.elim id fun h=>by omega,.inl⟩) him hi fun β' I' a' w' hs' hb'=>?_
        exact ih _ a' w' β' I' S 0 _ L ⟨hsub,hL0,by simpa using hsz,hmk,htail',hdown',fun h=>absurd rfl h,hs',fun b=>(hb' b).trans ⟨.inl,fun h=>h.elim id fun h=>by omega⟩,Nat.le_refl _,fun _ _ _ _ _ _=>rfl,fun _=>rfl,fun h=>absurd rfl h⟩ (by omega) hk
       ·have hk0:k≠0:=by omega
        exact lateStep hk0 (by omega) (Classical.byContradiction fun h=>by
         have:=hpre hk0 i him h
         rw [this] at hun;cases hun)
      ·rcases Nat.lt_or_ge i (m+k) with hik | hik
       · exact lateStep (by omega) hik (Classical.byContradiction fun h=>by
           have:=(htail i him hin).2 hik h
           rw [this] at hun;cases hun)
       ·
        have hik:i=m+k:=by
         rcases Nat.lt_or_ge (m+k) i with h | h
         ·exfalso
          rcases hd.tail i o (m+k) him ho h with h2 | h2
          ·have h3:=hnf (by omega)
           rw [List.contains_iff_mem.2 h2] at h3;cases h3
          ·have h3:=hlistedB _ h2
           have:=(htail (m+k) (by omega) (by omega)).1 h3
           omega
         ·omega
        subst hik
        obtain ⟨hg,htop,hng⟩:=hd.plain _ o him ho
        have hdrop:ops.toList.drop (m+k)=o::ops.toList.drop (m+(k+1)):=by
         have hlt:m+k<ops.toList.length:=by simpa using hin
         rw [List.drop_eq_getElem_cons hlt]
         have:ops.toList[m+k]=o:=by rw [List.getElem?_eq_getElem hlt] at hoL;exact Option.some.inj hoL
         rw [this];rfl
        rw [hdrop] at hk
        have hnotin:m+k ∉ L:=fun h=>by have:=(hsub _ h).2;omega
        have hsub':∀ j,j∈lateF o L→j∈lateL∧j<m+(k+1):=fun j hj=>by
         have:=hsub j (mem_lateF.1 hj).1
         exact ⟨this.1,by omega⟩
        have hcome:∀ j,j∈L→j ∉ lateF o L→listed.getD j true=true:=fun j hjL hjl =>
         hlistedB j (.edge (hasEdge_spec (Classical.byContradiction fun hne=>hjl (mem_lateF.2 ⟨hjL,by simpa using hne⟩))))
        have htail':∀ j,m≤j→j<ops.size→((listed.setIfInBounds (m+k) true).getD j true=true→j<m+(k+1))∧(j<m+(k+1)→j ∉ lateF o L→(listed.setIfInBounds (m+k) true).getD j true=true):=fun j h1 h2=>by
         refine ⟨fun h=>?_,fun h3 h4=>?_⟩
         ·rcases (hset j).1 h with rfl | h
          ·omega
          ·have:=(htail j h1 h2).1 h;omega
         ·by_cases hj:j=m+k
          ·exact (hset j).2 (.inl hj)
          ·refine (hset j).2 (.inr ?_)
           by_cases hjL:j∈L
           ·exact hcome j hjL h4
           ·exact (htail j h1 h2).2 (by omega) hjL
        have hpre':∀ j,j<m→j ∉ lateF o L→(listed.setIfInBounds (m+k) true).getD j true=true:=fun j hj hjl=>(hset j).2 (.inr (by
         by_cases hjL:j∈L
         ·exact hcome j hjL hjl
         ·rcases Nat.eq_zero_or_pos k with h0 | h0
          ·rw [hL0 h0] at hjL
           rcases hd.tail _ o j him ho (by omega) with h | h
           ·exact absurd (lowL_mem.2 ⟨h,hj⟩) hjL
           ·exact hlistedB j h
          ·exact hpre (by omega) j hj hjL))
        have hV':∀ t,Vl ops (m+(k+1)) (listed.setIfInBounds (m+k) true) t→Vl ops (m+k) listed t:=fun t ht j oj hj hoj hun'=>ht j oj (by omega) hoj (by rw [getD_set_ne true (by omega)];exact hun')
        have hVo:∀ t,Operand.tmp t∈o.op.operands.toList→Vl ops (m+k) listed t:=fun t ht j oj hj hoj hun' hdj=>by
         have hjl:j<m∨j∈lateL:=by
          rcases Nat.lt_or_ge j m with h | h
          ·exact .inl h
          ·refine .inr (hsub j (Classical.byContradiction fun hnl=>?_)).1
           have:=(htail j h (Array.getElem?_eq_some_iff.1 hoj).1).2 hj hnl
           rw [this] at hun';cases hun'
         have:=hlistedB j ((hd.reads _ o j oj t him ho hj hjl hoj hdj).1 ht)
         rw [this] at hun';cases hun'
        have hslP:∀ (d:D) (σ1:St),σ1.tmps=τ.tmps→∀ (j:Nat) (oj:Oper) (t:Nat),j<m→ops[j]?=some oj→oj.dst=some t→look (σ1.put o.dst d).tmps t=look (σs m).tmps t:=fun d σ1 h1 j oj t hj hoj hdj=>by
         rw [look_put (hd.reads _ o j oj t him ho (by omega) (.inl hj) hoj hdj).2,h1]
         exact hsl j oj t hj hoj hdj
        unfold wpOpIn
        simp only [ho]
        rw [if_pos (show Region.wanted o (yielded ops a.tmps)=true by unfold Region.wanted;rw [hg])]
        have hB0:=hBnew (.inr him)
        have next:∀ (e:Eff) (v:Value) (w':World),effT τ e=τ.tmps→stillAll T (CD P sh) ops.toList (σs 0).boxes.length (effSt τ o.dst e) (lateF o L)→runTail T (CD P sh) ops.toList (σs 0).boxes.length lateL (m+(k+1)) (lateF o L) (ops.toList.drop (m+(k+1))) (effSt τ o.dst e) K →
            Sim cx (Vl ops (m+k) listed) (effSt τ o.dst e) β I S N (a.put o.dst v) w' →
            (effSt τ o.dst e).boxes.length=τ.boxes.length→wpAnyIn F n P .any ops Q fuel (listed.setIfInBounds (m+k) true) (a.put o.dst v) w':=fun e v w' h0 h1 h2 h3 h4 =>
          ih _ _ w' β I S (k+1) _ (lateF o L) ⟨hsub',fun h=>by omega,by simpa using hsz,by omega,htail',hdown',fun _=>hpre',h3.move (fun t ht=>⟨hV' t ht,rfl⟩) (Bg.refl _) rfl,by rw [h4];exact hB0 β (fun _=>rfl),by rw [h4];exact hlen,hslP _ ⟨effT τ e,effBoxes τ e,effY τ e⟩ h0,fun h=>by omega,fun _=>h1⟩ (by omega) h2
        have hcf:=hnf hin
        simp only [runTail,hcf,putF_eq] at hk
        by_cases hm:mild o=true
        ·refine mild_wp hT hF hcx hs hVo (.inl hm) hk (.inl ⟨fun b y hh=>hh,fun b y nb hh=>hh⟩) (.inl fun d bs y hh=>hh) ?_ ?_ ?_ ?_
         ·intro d v hkd hrel
          exact next (.val d) v w rfl hkd.1 hkd.2 (hs.put hdo fun _=>hrel) (by unfold effSt;rw [put_boxes];rfl)
         ·intro b mk v w' bi hkd hRw hkeep hbr hfz0 hrel
          obtain ⟨hsim,hleβ⟩:=hs.new hcx hkeep (bs:=τ.boxes++[b]) (n:=τ.boxes.length) (b:=b) (bi:=bi) hs.fresh (by simp) (fun i hi=>List.getElem?_append_left (hs.last i hi)) hRw hbr
          have hput:Sim cx (Vl ops (m+k) listed) (effSt τ o.dst (.new b mk)) (fun i=>if i=τ.boxes.length then some bi else β i) I S N (a.put o.dst v) w':=hsim.put hdo fun _=>hrel _ τ.boxes.length (by simp)
          have hlen2:(effSt τ o.dst (.new b mk)).boxes.length=τ.boxes.length+1:=by unfold effSt;rw [put_boxes];simp [effBoxes]
          refine ih _ _ w' _ I S (k+1) _ (lateF o L) ⟨hsub',fun h=>by omega,by simpa using hsz,by omega,htail',hdown',fun _=>hpre',hput.move (fun t ht=>⟨hV' t ht,rfl⟩) (Bg.refl _) rfl,?_,by rw [hlen2];omega,hslP _ ⟨τ.tmps,τ.boxes++[b],τ.y⟩ rfl,fun h=>by omega,fun _=>hkd.1⟩ (by omega) hkd.2
          rw [hlen2]
          refine hBnew2 (.inr him) _ _ (by omega) fun b'=>?_
          by_cases hb':b'=τ.boxes.length
          ·subst hb'
           simp
          ·simp only [if_neg hb']
           exact ⟨.inl,fun h=>h.elim id fun h=>by omega⟩
         ·intro b mk L v w' bi hkd;exact hkd.elim
         ·intro d as v w' I' hkd hkeep hg hag hr1
          have hfz:Sim cx (Vl ops (m+k) listed) ⟨τ.tmps,boxesAfter τ.boxes d as,τ.y⟩ β I S N a w:=by
           refine hs.freeze (fun i box hb=>?_) ?_
           ·unfold boxesAfter
            split
            ·exact .inl hb
            ·rw [freezeIn_get _ _ _ _ _ hb]
             split
             ·exact .inr rfl
             ·exact .inl rfl
           ·unfold boxesAfter
            split
            ·rfl
            ·exact freezeIn_len _ _ _
          obtain ⟨I'',hsim,hrel,_⟩:=hfz.res hcx hkeep hg hag hr1 (by
           by_cases hp:plain d=true
           ·exact .inl hp
           ·refine .inr fun i box hi hb=>?_
            have hb:(boxesAfter τ.boxes d as)[i]?=some box:=hb
            unfold boxesAfter at hb
            split at hb
            ·rename_i hp';exact absurd hp' hp
            · have hil:i<τ.boxes.length:=by
                have:=(List.getElem?_eq_some_iff.1 hb).1
                rwa [freezeIn_len] at this
              rw [freezeIn_get _ _ _ _ _ (List.getElem?_eq_getElem hil)] at hb
              have:(as.flatMap (touch τ.boxes Go.V.fuel)).contains (0+i)=true:=by
               rw [Nat.zero_add];simpa using hi
              rw [this] at hb
              cases hb
              exact Box.freeze_fz _)
          have hlen2:(effSt τ o.dst (.res d as)).boxes.length=τ.boxes.length:=by unfold effSt;rw [put_boxes];exact boxesAfter_len _ _ _
          have hput:Sim cx (Vl ops (m+k) listed) (effSt τ o.dst (.res d as)) β I'' S N (a.put o.dst v) w':=hsim.put hdo fun _=>hrel
          exact ih _ _ w' β I'' S (k+1) _ (lateF o L) ⟨hsub',fun h=>by omega,by simpa using hsz,by omega,htail',hdown',fun _=>hpre',hput.move (fun t ht=>⟨hV' t ht,rfl⟩) (Bg.refl _) rfl,by rw [hlen2];exact hB0 β (fun _=>rfl),by rw [hlen2];exact hlen,hslP _ ⟨τ.tmps,boxesAfter τ.boxes d as,τ.y⟩ rfl,fun h=>by omega,fun _=>hkd.1⟩ (by omega) hkd.2
        ·by_cases happ:isApp o=true
         ·obtain ⟨c,t0,t1,e,e1,ti,ti1,te,s,x,ap,hargs0,hk⟩:=app_inv happ hk
          have hin:∀ x,x∈c.args.toList→x∈o.op.operands.toList:=fun x hx=>by
           simp only [ap.op,Op.operands,Call.operands,ap.callee,Array.toList_append,List.mem_append];exact .inr hx
          have hrl:=hs.evL (fun x t hx e=>hVo t (e ▸ hin x hx)) hargs0
          have hargs:(c.args.map a.eval)=(c.args.toList.map a.eval).toArray:=by apply Array.toList_inj.1;simp
          obtain ⟨sv,vs',hvs,hsv,hrl'⟩:=hrl.cons_inv
          obtain ⟨xv,hxs,hxv⟩:=hrl'.one_inv
          rw [hvs,hxs] at hargs
          obtain ⟨v,w',eff,hrun,hkk,β',hsim,hrel,hy,htot'⟩:=append_sound hcx hs (hT _ _ ap.t0) ap.d0 (hT _ _ ap.tE) (hT _ _ ap.t1) ap.d1 ap.h0 ap.h1 o.type (Nat.blt_eq ▸ ap.size) (Nat.blt_eq ▸ ap.bytes) hsv hxv hs.last hk
          have fin:∀ eff,τ.boxes.length≤(effBoxes τ eff).length→Sim cx (Vl ops (m+k) listed) ⟨τ.tmps,effBoxes τ eff,τ.y⟩ β' I S N a w'→Rel I β' v (effVal τ eff)→effY τ eff=τ.y∧effT τ eff=τ.tmps →
              ((∀ i,i<(effBoxes τ eff).length→(i<τ.boxes.length→(β i).isSome=true)→(β' i).isSome=true)∧∀ i,i<τ.boxes.length→(β' i).isSome=(β i).isSome) →
              stillAll T (CD P sh) ops.toList (σs 0).boxes.length (effSt τ o.dst eff) (lateF o L)→runTail T (CD P sh) ops.toList (σs 0).boxes.length lateL (m+(k+1)) (lateF o L) (ops.toList.drop (m+(k+1))) (effSt τ o.dst eff) K →
              wpAnyIn F n P .any ops Q fuel (listed.setIfInBounds (m+k) true) (a.put o.dst v) w':=by
            intro eff hlen' hsim hrel hy htot' h1 h2
            have hput:Sim cx (Vl ops (m+k) listed) (effSt τ o.dst eff) β' I S N (a.put o.dst v) w':=by
             unfold effSt
             rw [hy.1,hy.2]
             exact hsim.put hdo fun _=>hrel
            have hlen2:(effSt τ o.dst eff).boxes.length=(effBoxes τ eff).length:=by unfold effSt;rw [put_boxes]
            refine ih _ _ w' β' I S (k+1) _ (lateF o L) ⟨hsub',fun h=>by omega,by simpa using hsz,by omega,htail',hdown',fun _=>hpre',hput.move (fun t ht=>⟨hV' t ht,rfl⟩) (Bg.refl _) rfl,?_,by rw [hlen2];omega,hslP _ ⟨effT τ eff,effBoxes τ eff,effY τ eff⟩ hy.2,fun h=>by omega,fun _=>h1⟩ (by omega) h2
            rw [hlen2]
            refine hBnew2 (.inr him) _ β' hlen' fun b=>?_
            rcases Nat.lt_or_ge b τ.boxes.length with hbl | hbl
            ·rw [htot'.2 b hbl]
             exact ⟨.inl,fun h=>h.elim id fun h=>by omega⟩
            ·constructor
             ·intro h
              exact .inr ⟨hbl,hsim.last b h⟩
             ·rintro (h | h)
              ·have:=hs.last b h;omega
              ·exact htot'.1 b h.2 fun h2=>by omega
          refine wp_value hF (by rw [ap.op];simp) (v:=v) (w':=w') ?_ ?_
          ·simp only [execOp,ap.op,resolve,ap.callee,Sem.run_bind,Sem.run_pure,Result.andThen_ok,invoke,builtin,hargs]
           rw [hrun]
           rfl
          ·cases eff with
           | val d=>exact fin (.val d) (Nat.le_refl _) hsim hrel hy htot' hkk.1 hkk.2
           | set j b d=>exact fin (.set j b d) (by simp [effBoxes]) hsim hrel hy htot' hkk.1 hkk.2
           | res d as=>exact fin (.res d as) (Nat.le_of_eq (boxesAfter_len _ _ _).symm) hsim hrel hy htot' hkk.1 hkk.2
           | new b mk=>exact fin (.new b mk) (by simp [effBoxes]) hsim hrel hy htot' hkk.1 hkk.2
           | _=>exact hkk.elim
         cases hoo:o.op with
         | store t p x =>
          unfold opE at hk
          simp only [hoo] at hk
          cases ht:T t with
          | none=>rw [ht] at hk;exact hk.elim
          | some ti =>
           cases hp:τ.ev p with
           | none=>rw [ht,hp] at hk;exact hk.elim
           | some pd =>
            cases hx:τ.ev x with
            | none=>rw [ht,hp,hx] at hk;exact hk.elim
            | some xd =>
             rw [ht,hp,hx] at hk
             simp only at hk
             obtain ⟨w',j,b,hrun,hk',hsim⟩:=store_sound hcx hs (hT _ _ ht) (hs.ev (x:=p) (fun u e=>hVo u (by rw [hoo,e];simp [Op.operands])) hp) (hs.ev (x:=x) (fun u e=>hVo u (by rw [hoo,e];simp [Op.operands])) hx) hk
             refine wp_skipped hF (by rw [hoo];simp) (w':=w') (by simp [execOp,hoo,hrun]) ?_
             exact next (.set j b .und) _ w' rfl hk'.1 hk'.2 (hsim.put hdo fun _=>.und _) (by unfold effSt;rw [put_boxes];simp [effBoxes])
         | _=>(simp [tailOp,hoo] at htop;rcases htop with h | h;exact absurd h hm;exact absurd h happ)
   -- those of the last ones that may come later are told ahead
   have adv:∀ (r k:Nat) (τ:St) (L:List Nat),ops.size - (m+k)=r→LInv (P:=P) sh T cx N ops m lateL σs listed a w β I S k τ L→listed.toList.count false=fuel+1 →
       runTail T (CD P sh) ops.toList (σs 0).boxes.length lateL (m+k) L (ops.toList.drop (m+k)) τ K→wpAnyIn F n P .any ops Q (fuel+1) listed a w:=by
     intro r
     induction r with
     | zero =>
      intro k τ L hr0 h hc hk
      exact main k τ L (fun h=>by omega) h hc hk
     | succ r ihr =>
      intro k τ L hr0 h hc hk
      cases hfl:lateL.contains (m+k) with
      | false=>exact main k τ L (fun _=>hfl) h hc hk
      | true =>
       have hlate:m+k∈lateL:=by simpa using hfl
       have hin:m+k<ops.size:=by omega
       have ho:ops[m+k]?=some ops[m+k]:=Array.getElem?_eq_getElem hin
       obtain ⟨o,hoe⟩:∃ o,ops[m+k]=o:=⟨_,rfl⟩
       rw [hoe] at ho
       obtain ⟨hg,_,hv2⟩:=hd.late _ hlate o ho
       obtain ⟨hmk,hv,_⟩:=hv2 (by omega)
       have hk0:k≠0:=by omega
       have hoL:ops.toList[m+k]?=some o:=by simpa using ho
       have hdrop:ops.toList.drop (m+k)=o::ops.toList.drop (m+(k+1)):=by
        have hlt:m+k<ops.toList.length:=by simpa using hin
        rw [List.drop_eq_getElem_cons hlt]
        have:ops.toList[m+k]=o:=by rw [List.getElem?_eq_getElem hlt] at hoL;exact Option.some.inj hoL
        rw [this];rfl
       rw [hdrop] at hk
       simp only [runTail,hfl,putF_eq] at hk
       obtain ⟨d,hkd⟩:=val_of hv hk
       have hun:listed.getD (m+k) true=false:=Bool.eq_false_iff.2 fun hh=>by have:=(h.tail (m+k) (by omega) hin).1 hh;omega
       refine ihr (k+1) (effSt τ o.dst (.val d)) ((m+k)::L) (by omega) ⟨fun j hj=>?_,fun hh=>by omega,h.sz,by omega,fun j h1 h2=>⟨fun h3=>by have:=(h.tail j h1 h2).1 h3;omega,fun h3 h4=>?_⟩,h.down,fun _ j hj hjl=>h.pre hk0 j hj fun hh=>hjl (List.mem_cons_of_mem _ hh),?_,by unfold effSt;rw [put_boxes];exact h.bl,?_,fun j oj t hj hoj hdj=>?_,fun hh=>by omega,fun _=>hkd.1⟩ hc hkd.2
       ·rcases List.mem_cons.1 hj with rfl | hj
        ·exact ⟨hlate,by omega⟩
        ·have:=h.sub j hj
         exact ⟨this.1,by omega⟩
       ·have hne:j≠m+k:=fun e=>h4 (by rw [e];simp)
        exact (h.tail j h1 h2).2 (by omega) fun hh=>h4 (List.mem_cons_of_mem _ hh)
       ·refine h.sim.move (fun t ht=>?_) ?_ ?_
        ·have hdt:o.dst≠some t:=ht (m+k) o (by omega) ho hun
         refine ⟨fun j oj hj hoj hu=>ht j oj (by omega) hoj hu,?_⟩
         unfold effSt
         exact look_put hdt
        ·unfold effSt;rw [put_boxes];exact Bg.refl _
        ·unfold effSt;rw [put_y];rfl
       ·unfold effSt;rw [put_boxes];exact h.len
       ·unfold effSt
        rw [look_put (hd.reads _ o j oj t (by omega) ho (by omega) (.inl hj) hoj hdj).2]
        exact h.slot j oj t hj hoj hdj
   intro k τ L h hc hk
   exact adv _ k τ L rfl h hc hk

theorem region_any2 (hT:TOK P T) {F:Fence} (hF:FW F) (hcx:cx.Ok) (hdst:∀ o∈ops.toList,∀ t,o.dst=some t→t<N) (hs:FS cx σ N a w) {n:Nat} {K:St→Prop} {Q:Exit→Act→World→Prop}
    (hQ:∀ σ' a' w',K σ'→FS cx σ' N a' w'→Q .normal a' w') (m:Nat) (late:List Nat) (hl:okLate ops.toList m late=true)
    (hk:runOps T (CD P sh) stFb ops.toList (ops.toList.take m) 0 σ fun τ=>runTail T (CD P sh) ops.toList σ.boxes.length late m (lowL m late) (ops.toList.drop m) τ K) :
    wpAnyIn F n P .any ops Q ops.size (Array.replicate ops.size false) a { w with drawn:=w.drawn+1 }:=by
  have hd:=okLate_spec hl
  have hml:(ops.toList.take m).length=m:=by rw [List.length_take];have:=hd.le;simp;omega
  have hmild:∀ o∈ops.toList.take m,mild o=true∨(isApp o=true∧∀ i b d,stFb (.set i b d)=true):=fun o ho=>by
   obtain ⟨i,hi⟩:=List.mem_iff_getElem?.1 ho
   rw [List.getElem?_take] at hi
   split at hi
   ·rename_i him;exact (hd.mild i o him (by simpa using hi)).imp (fun h=>h) fun h=>⟨h,fun _ _ _=>rfl⟩
   ·cases hi
  obtain ⟨σs,h0,hst,hrest⟩:=runOps_steps (fb:=stFb) ⟨⟨fun _ _=>rfl,fun _ _ _=>rfl⟩,fun _ _ _=>rfl,fun _ _ _=>rfl⟩ (ops.toList.take m) [] 0 σ hmild (by rw [List.append_nil];exact hk)
  rw [hml] at hrest
  have hrest:runTail T (CD P sh) ops.toList (σs 0).boxes.length late m (lowL m late) (ops.toList.drop m) (σs m) K:=by rw [h0];exact hrest
  have hr:Run T (CD P sh) ops m σs:=⟨fun i o hi ho=>hst i o (by rw [List.getElem?_take,if_pos hi];simpa using ho)⟩
  obtain ⟨β,I,S,hsim,htot⟩:=hs
  have hsim':=hsim.keep hcx (Keep.drew _ w)
  have hbg:Bg σ.boxes (σs m).boxes:=by
   have:=hr.bg hd.le m 0 (by omega)
   rwa [h0,Nat.zero_add] at this
  have hle:=hd.le
  have hun:∀ j,j<ops.size→(Array.replicate ops.size false).getD j true=false:=fun j hj=>by simp [hj]
  have hmove:Sim cx (Vl ops m (Array.replicate ops.size false)) (σs m) β I S N a { w with drawn:=w.drawn+1 }:=by
   refine hsim'.move (fun t ht=>⟨trivial,?_⟩) hbg ?_
   ·have:=hr.look hd.le (t:=t) m 0 (by omega) (fun j o _ h2 ho=>ht j o (by omega) ho (hun j (Array.getElem?_eq_some_iff.1 ho).1))
    rwa [h0,Nat.zero_add] at this
   ·have:=hr.y hd.le m 0 (by omega)
    rwa [h0,Nat.zero_add] at this
  refine late_any hT hF hcx hd hdst hQ hr ops.size _ a _ β I S 0 (σs m) (lowL m late) ⟨fun j hj=>⟨(lowL_mem.1 hj).1,by have:=(lowL_mem.1 hj).2;omega⟩,fun _=>rfl,by simp,by omega,fun i h1 h2=>⟨fun h=>(by rw [hun i h2] at h;cases h),fun h=>by omega⟩,fun i o e ho hi=>(by rw [hun i (Array.getElem?_eq_some_iff.1 ho).1] at hi;cases hi),fun h=>absurd rfl h,hmove,?_,Nat.le_refl _,fun _ _ _ _ _ _=>rfl,fun _=>rfl,fun h=>absurd rfl h⟩ (by simp) hrest
  intro b
  rw [h0]
  constructor
  ·intro h
   exact .inl (.inl (hsim.last b h))
  ·rintro ((h | ⟨i,h1,h2,_⟩) | h)
   ·exact htot b h
   ·rw [hun i (by omega)] at h2;cases h2
   ·omega

theorem region_sound2 {lo:Nat} (hlo:cx.lo≤lo) (hT:TOK P T) (hmix:P.follows .mixedOrders=true) {F:Fence} (hF:FW F) (hcx:cx.Ok) (hy:YieldOK P cx) (hdst:∀ o∈ops.toList,∀ t,o.dst=some t→t<N) (hs:FS cx σ N a w) {n id:Nat} {dr:Bool} {K:St→Prop} {Q:Exit→Act→World→Prop}
    (hQ:∀ σ' a' w',K σ'→FS cx σ' N a' w'→Q .normal a' w')
    (hk:match dr with
     | false=>runOps T (CD P sh) (noFb lo) ops.toList ops.toList 0 σ K
     | true=>(okDraw ops.toList=true∧runOps T (CD P sh) drFb ops.toList ops.toList 0 σ K) ∨
      (∃ (m:Nat) (late:List Nat),okLate ops.toList m late=true∧runOps T (CD P sh) stFb ops.toList (ops.toList.take m) 0 σ fun τ=>runTail T (CD P sh) ops.toList σ.boxes.length late m (lowL m late) (ops.toList.drop m) τ K)):(Code.region id ops dr).wpIn F n P Q a w:=by
  cases dr with
  | false=>exact region_sound hlo hT hmix hF hcx hy hdst hs hQ hk
  | true =>
   simp only at hk
   rcases hk with hk | ⟨m,late,hl,hk⟩
   ·exact region_sound hlo hT hmix hF hcx hy hdst hs hQ hk
   ·exact wpIn_region_any hmix (region_any2 hT hF hcx hdst hs hQ m late hl hk)

end
end Go.V

namespace Go.V
open Go.RowKit

def bounded (N:Nat):Code→Bool
 | .region _ ops _=>ops.toList.all fun o=>match o.dst with | some t=>Nat.blt t N | none=>true
 | .seq a b | .cond _ a b=>match bounded N a with | true=>bounded N b | false=>false
 | .block _ c | .loop c | .scope c=>bounded N c
 | .rangeFunc _ ps a c=>match bounded N a,bounded N c with | true,true=>ps.toList.all fun t=>Nat.blt t N | _,_=>false
 | _=>true

section
variable {P:Program} [Glb] {T:Nat→Option TI} {cx:Cx} {V:Nat→Prop} {σ:St} {β:BE} {I:Imm} {S:Nat→Prop} {N:Nat} {a:Act} {w:World}

theorem FS.clean (hcx:cx.Ok) (h:FS cx σ N a w) {keep:List Nat} {nb:Nat} (hlo:cx.lo≤nb) (hg:(σ.clean keep nb).good nb):FS cx (σ.clean keep nb) N a w:=by
 obtain ⟨β,I,S,hs,ht⟩:=h
 refine ⟨cutB nb β,I,S,hs.cut hcx hlo (fun t d _ hl=>?_) hg.2,fun i hi=>?_⟩
 ·obtain ⟨v,hv,hr⟩:=hs.tm t d trivial (keepT_look hl)
  exact ⟨v,hv,hr.lowB nb (okTmps_look hg.1 hl)⟩
 ·have hi:i<(σ.boxes.take nb).length:=hi
  rw [List.length_take] at hi
  unfold cutB
  rw [if_pos (by omega)]
  exact ht i (by omega)

def PostE (cx:Cx) (N:Nat) (Q:Ex→St→Prop):Exit→Act→World→Prop
 | .normal,a,w=>∃ σ,Q .normal σ∧FS cx σ N a w
 | .exit id,a,w=>∃ σ,Q (.exit id) σ∧FS cx σ N a w
 | .ret,a,w=>∃ σ,Q .ret σ∧FS cx σ N a w
 | .panic ch,a,w=>∃ σ v,ch=[{ v,recovered:=false }]∧Q (.panic v) σ∧FS cx σ N a w
 | _,_,_=>False

def RoundOK (F:Fence) (cx:Cx):Prop:=∀ l y S w,F.round=some l→cx.J y S w→∃ r,w.heap[l]?=some (.loop r)

omit [Glb] in
theorem wpIn_loop_at {F:Fence} {n:Nat} {Q:Exit→Act→World→Prop} {c:Code} (J:Nat→Act→World→Prop) {k:Nat} (h₀:J k a w)
    (round:∀ k a w,J k a w→c.wpIn F n P (Exit.then (fun a' w'=>∃ k',k'<k∧J k' a' w') Q) a w):(Code.loop c).wpIn F n P Q a w:=by
  classical
  refine wpIn_loop (fun a w=>∃ k,J k a w) (fun a w=>if h:∃ k,J k a w then Classical.choose (least_nat (p:=fun k=>J k a w) h.choose h.choose_spec) else 0) ⟨k,h₀⟩ ?_
  intro a w hk
  have hmu:∀ {a w} (h:∃ k,J k a w),(if h:∃ k,J k a w then Classical.choose (least_nat (p:=fun k=>J k a w) h.choose h.choose_spec) else 0)=Classical.choose (least_nat (p:=fun k=>J k a w) h.choose h.choose_spec):=fun h=>dif_pos h
  have hspec:∀ {a w} (h:∃ k,J k a w),J (Classical.choose (least_nat (p:=fun k=>J k a w) h.choose h.choose_spec)) a w∧∀ j,j<Classical.choose (least_nat (p:=fun k=>J k a w) h.choose h.choose_spec)→¬ J j a w :=
   fun h=>Classical.choose_spec (least_nat (p:=fun k=>J k _ _) h.choose h.choose_spec)
  refine wpIn_mono (round _ a w (hspec hk).1) ?_
  intro e a' w' hq
  cases e with
  | normal =>
   obtain ⟨k',hlt,hJ⟩:=hq
   refine ⟨⟨k',hJ⟩,?_⟩
   rw [hmu hk,hmu ⟨k',hJ⟩]
   have h2:=(hspec (a:=a') (w:=w') ⟨k',hJ⟩).2
   exact Nat.lt_of_le_of_lt (Nat.le_of_not_lt fun h=>h2 k' h hJ) hlt
  | _=>exact hq

omit [Glb] in
theorem stepR_scope {b:Frame} {k:List Item} {cs:List Frame} {c:Code}:step P (lone (b.atR a (.code (.scope c)::k)) cs w)=.next (lone (b.atR a (.code c::.inScope c::k)) cs w) :=
 step_lone_go (by simp [stepG,stepG.exec,Frame.atR])
omit [Glb] in
theorem stepR_inScope {b:Frame} {k:List Item} {cs:List Frame} {c:Code}:step P (lone (b.atR a (.inScope c::k)) cs w)=.next (lone (b.atR a k) cs w) :=
 step_lone_go (by simp [stepG,stepG.exec,Frame.atR])

omit [Glb] in
theorem wpIn_scope_straight {F:Fence} {n:Nat} {Q:Exit→Act→World→Prop} {c:Code} (h:c.wpIn F n P Q a w) (hQ:∀ l a w,¬ Q (.goto l) a w):(Code.scope c).wpIn F n P Q a w:=by
 intro b k cs hro hb hr
 have h0:(lone (b.atR a (.code (.scope c)::k)) cs w).fenced P F:=fenced_calm hb hr rfl
 obtain ⟨e,a₁,w₁,hq,harr⟩:=h b (.inScope c::k) cs hro hb hr
 cases e with
 | normal=>exact ⟨.normal,a₁,w₁,hq,.head h0 stepR_scope (StepsIn.trans harr (.one (fenced_calm hb hr rfl) stepR_inScope))⟩
 | exit id =>
  have hx:exitTo id (.inScope c::k)=exitTo id k:=by simp [exitTo]
  exact ⟨_,a₁,w₁,hq,fun k' hk=>.head h0 stepR_scope (harr.1 k' (by rw [hx];exact hk)),fun hr' hk=>let ⟨k₁,h1,h2⟩:=harr.2 hr' (by rw [hx];exact hk);⟨k₁,h1,.head h0 stepR_scope h2⟩⟩
 | goto l=>exact (hQ _ _ _ hq).elim
 | ret=>exact ⟨_,a₁,w₁,hq,.of_steps (.one h0 stepR_scope) harr⟩
 | panic ch=>exact ⟨_,a₁,w₁,hq,.of_steps (.one h0 stepR_scope) harr⟩
 | outgrown=>exact ⟨_,a₁,w₁,hq,.of_steps (.one h0 stepR_scope) harr⟩

end
end Go.V

namespace Go.V
open Go.RowKit

section
variable {P:Program} [Glb] {T:Nat→Option TI} {cx:Cx} {V:Nat→Prop} {σ:St} {β:BE} {I:Imm} {S:Nat→Prop} {N:Nat} {a:Act} {w:World}

def nilBI (sz:Nat):BI:=⟨none,false,0,sz,0,0⟩

omit [Glb] in
theorem Rel.nil_sl {v:Value} (h:Rel I β v .nils) {n sz:Nat} (hβ:β n=some (nilBI sz)):Rel I β v (.sl n 0 0 0):=by
 cases h with | nils A=>?_
 exact .sl A 0 n 0 0 0 (nilBI sz) hβ rfl rfl rfl (Nat.le_refl _) (Nat.le_refl _) (fun h=>absurd h (by decide))

theorem Sim.newNil (hcx:cx.Ok) (h:Sim cx V σ β I S N a w) (sz:Nat) :
    Sim cx V ⟨σ.tmps,σ.boxes++[.rows false 0 sz []],σ.y⟩ (fun i=>if i=σ.boxes.length then some (nilBI sz) else β i) I S N a w∧β.le (fun i=>if i=σ.boxes.length then some (nilBI sz) else β i):=by
  refine h.new hcx (Keep.refl _ w) (bi:=nilBI sz) (b:=.rows false 0 sz []) ?_ (by simp) ?_ (fun R hR=>by cases hR) ?_
  ·cases hb:β σ.boxes.length with
   | none=>rfl
   | some b =>
    obtain ⟨box,h1,_⟩:=h.bx _ b hb
    have:=(List.getElem?_eq_some_iff.1 h1).1
    omega
  ·intro i hi
   obtain ⟨b,hb⟩:=Option.isSome_iff_exists.1 hi
   obtain ⟨box,h1,_⟩:=h.bx _ b hb
   have:=(List.getElem?_eq_some_iff.1 h1).1
   rw [List.getElem?_append_left this]
  ·exact ⟨rfl,rfl,rfl,rfl,fun r row hr=>by simp at hr,Nat.le_refl _,rfl⟩

omit [Glb] in
theorem putIn_look:∀ {tm:List (Nat × D)} {t u:Nat} {d e x:D},look tm t=some x→look (putIn tm t d) u=some e→(u=t∧e=d)∨look tm u=some e
 | [],_,_,_,_,_,h,_=>by cases h
 | (k,y)::r,t,u,d,e,x,h,he=>by
  simp only [putIn] at he
  cases hk:Nat.beq k t with
  | true =>
   rw [hk] at he
   simp only [look] at he ⊢
   cases hu:Nat.beq k u with
   | true =>
    rw [hu] at he
    cases he
    exact .inl ⟨(Nat.eq_of_beq_eq_true hu).symm.trans (Nat.eq_of_beq_eq_true hk),rfl⟩
   | false=>rw [hu] at he;exact .inr he
  | false =>
   rw [hk] at he
   simp only [look] at he h ⊢
   rw [hk] at h
   cases hu:Nat.beq k u with
   | true=>rw [hu] at he;exact .inr he
   | false=>rw [hu] at he;exact putIn_look h he

theorem Sim.vecR (hcx:cx.Ok):∀ (vs:List (Pl × Nat)) {σ:St} {β:BE},Sim cx (fun _=>True) σ β I S N a w→(∀ i,i<σ.boxes.length→(β i).isSome=true) →
    ∃ β',Sim cx (fun _=>True) (σ.vec vs) β' I S N a w∧(∀ i,i<(σ.vec vs).boxes.length→(β' i).isSome=true)∧∀ i b R,β' i=some b→b.R=some R→∃ i' b',β i'=some b'∧b'.R=some R
  | [],σ,β,h,ht=>⟨β,h,ht,fun i b R h1 h2=>⟨i,b,h1,h2⟩⟩
  | (.slot t,sz)::r,σ,β,h,ht=>by
   unfold St.vec
   split
   ·rename_i hl
    obtain ⟨h1,hle⟩:=h.newNil hcx sz
    obtain ⟨β',k1,k2,k3⟩:=Sim.vecR hcx r (σ:=⟨putIn σ.tmps t (.sl σ.boxes.length 0 0 0),σ.boxes++[.rows false 0 sz []],σ.y⟩) (β:=fun i=>if i=σ.boxes.length then some (nilBI sz) else β i)
     { h1 with tm:=(fun u d hV he=>(by
         rcases putIn_look hl he with ⟨rfl,rfl⟩ | he
         ·obtain ⟨v,hv,hr⟩:=h.tm u _ trivial hl
          exact ⟨v,hv,(hr.mono I.le_refl hle).nil_sl (sz:=sz) (by simp)⟩
         ·exact h1.tm u d hV he)),sz:=h1.sz,bx:=h1.bx,clear:=h1.clear,j:=h1.j,marks:=h1.marks,pres:=h1.pres,dn:=h1.dn,nd:=h1.nd } (by
     intro i hi
     by_cases hi':i=σ.boxes.length
     ·simp [hi']
     ·simp only [hi',if_false];exact ht i (by simp at hi;omega))
    refine ⟨β',k1,k2,fun i b R hb hR=>?_⟩
    obtain ⟨i',b',h3,h4⟩:=k3 i b R hb hR
    by_cases hi':i'=σ.boxes.length
    ·simp only [hi',if_true,Option.some.injEq] at h3;subst h3;cases h4
    ·simp only [hi',if_false] at h3;exact ⟨i',b',h3,h4⟩
   ·exact Sim.vecR hcx r h ht
  | (.cell i off,sz)::r,σ,β,h,ht=>by
   unfold St.vec
   split
   ·rename_i cs hb
    split
    ·rename_i hc
     obtain ⟨h1,hle⟩:=h.newNil hcx sz
     have hil:i<σ.boxes.length:=(List.getElem?_eq_some_iff.1 hb).1
     obtain ⟨b,hβ⟩:=Option.isSome_iff_exists.1 (ht i hil)
     have hne:i≠σ.boxes.length:=by omega
     have hβ1:(fun i=>if i=σ.boxes.length then some (nilBI sz) else β i) i=some b:=by simp [hne,hβ]
     have hb1:(σ.boxes++[.rows false 0 sz []])[i]?=some (.flat false cs):=by rw [List.getElem?_append_left hil];exact hb
     have hle2:BE.le (fun i=>if i=σ.boxes.length then some (nilBI sz) else β i) (fun j=>if j=i then some b else (fun i=>if i=σ.boxes.length then some (nilBI sz) else β i) j):=by
      intro j c hj
      by_cases hji:j=i
      ·subst hji
       rw [hβ1] at hj;cases hj
       exact ⟨b,by simp,.inl rfl⟩
      ·exact ⟨c,by simp only [hji,if_false];exact hj,.inl rfl⟩
     have h2:=h1.set hcx (σ:=⟨σ.tmps,σ.boxes++[.rows false 0 sz []],σ.y⟩) hβ1 hb1 rfl (fun _ _ _ e=>by cases e) (w':=w) ((Keep.refl _ w)) (b':=b) (box':=.flat false (cs.set off (.sl σ.boxes.length 0 0 0))) (fun R hR=>.inl hR) hle2 (by
      obtain ⟨box,hbx,hbr⟩:=h1.bx i b hβ1
      rw [hb1] at hbx;cases hbx
      obtain ⟨hf,R,c,t,hR,hh,hrc⟩:=hbr
      have hrc2:=hrc.mono I.le_refl hle2
      refine ⟨hf,R,c,t,hR,hh,⟨by simpa using hrc2.1.1,fun j v d hv hd=>?_⟩,hrc2.2⟩
      by_cases hj:j=off
      ·subst hj
       have hlt:=(List.getElem?_eq_some_iff.1 hc).1
       rw [List.getElem?_set_self hlt] at hd
       cases hd
       exact (hrc2.1.2 j v _ hv hc).nil_sl (sz:=sz) (by simp [Ne.symm hne])
      ·rw [List.getElem?_set_ne (by omega)] at hd
       exact hrc2.1.2 j v d hv hd)
     obtain ⟨β',k1,k2,k3⟩:=Sim.vecR hcx r (σ:=⟨σ.tmps,σ.boxes.set i (.flat false (cs.set off (.sl σ.boxes.length 0 0 0)))++[.rows false 0 sz []],σ.y⟩) (β:=_) (by
      have e:(σ.boxes++[Box.rows false 0 sz []]).set i (.flat false (cs.set off (.sl σ.boxes.length 0 0 0)))=σ.boxes.set i (.flat false (cs.set off (.sl σ.boxes.length 0 0 0)))++[.rows false 0 sz []]:=by
       rw [List.set_append_left _ _ hil]
      simp only [e] at h2
      exact h2) (by
     intro j hj
     by_cases hji:j=i
     ·simp [hji]
     ·simp only [hji,if_false]
      by_cases hj':j=σ.boxes.length
      ·simp [hj']
      ·simp only [hj',if_false];exact ht j (by simp at hj;omega))
     refine ⟨β',k1,k2,fun j c R hc hR=>?_⟩
     obtain ⟨j',c',h3,h4⟩:=k3 j c R hc hR
     by_cases hji:j'=i
     ·simp only [hji,if_true,Option.some.injEq] at h3;subst h3;exact ⟨i,b,hβ,h4⟩
     ·simp only [hji,if_false] at h3
      by_cases hj':j'=σ.boxes.length
      ·simp only [hj',if_true,Option.some.injEq] at h3;subst h3;cases h4
      ·simp only [hj',if_false] at h3;exact ⟨j',c',h3,h4⟩
    ·exact Sim.vecR hcx r h ht
   ·exact Sim.vecR hcx r h ht
  | (.asList _,_)::r,_,_,h,ht=>Sim.vecR hcx r h ht
  | (.swap _ _,_)::r,_,_,h,ht=>Sim.vecR hcx r h ht

theorem Sim.vec (hcx:cx.Ok) (vs:List (Pl × Nat)) {σ:St} {β:BE} (h:Sim cx (fun _=>True) σ β I S N a w) (ht:∀ i,i<σ.boxes.length→(β i).isSome=true) :
    ∃ β',Sim cx (fun _=>True) (σ.vec vs) β' I S N a w∧(∀ i,i<(σ.vec vs).boxes.length→(β' i).isSome=true) :=
  let ⟨β',h1,h2,_⟩:=Sim.vecR hcx vs h ht
  ⟨β',h1,h2⟩

theorem FS.vec (hcx:cx.Ok) (vs:List (Pl × Nat)) (h:FS cx σ N a w):FS cx (σ.vec vs) N a w:=by
 obtain ⟨β,I,S,hs,ht⟩:=h
 obtain ⟨β',hs',ht'⟩:=hs.vec hcx vs ht
 exact ⟨β',I,S,hs',ht'⟩

omit [Glb] in
theorem vec_cells:∀ (vs:List (Nat × Nat × Nat)) (σ:St),(σ.vec (cellsPl vs)).tmps=σ.tmps∧(σ.vec (cellsPl vs)).y=σ.y
 | [],σ=>⟨rfl,rfl⟩
 | (i,off,sz)::r,σ=>by
  unfold cellsPl St.vec
  split
  ·split
   ·exact vec_cells r _
   ·exact vec_cells r σ
  ·exact vec_cells r σ

omit [Glb] in
theorem okTmps_mono {n m:Nat} (h:n≤m):∀ {tm:List (Nat × D)},okTmps n tm=true→okTmps m tm=true
 | [],_=>rfl
 | (k,e)::r,ho=>by
  simp only [okTmps] at ho ⊢
  cases he:okAt n e with
  | false=>rw [he] at ho;cases ho
  | true=>rw [he] at ho;rw [okAt_mono h he];exact okTmps_mono h ho

end
end Go.V

namespace Go.V
open Go.RowKit

structure Dep (cx:Cx) (β:BE) (I:Imm) (S:Nat→Prop) (a:Act) (S':Nat→Prop):Prop where
 lo:∀ k,cx.old k→S' k
 im:∀ B off v,I B off=some v→S' B
 bx:∀ i b R,β i=some b→b.R=some R→S' R
 ss:∀ k,S k→S' k
 mks:∀ d∈a.defers,∀ R,d.target=.collected R→S' R

section
variable {P:Program} [Glb] {T:Nat→Option TI} {cx:Cx} {V:Nat→Prop} {σ:St} {β:BE} {I:Imm} {S:Nat→Prop} {N:Nat} {a:Act} {w:World}

theorem Sim.keepS (hcx:cx.Ok) (h:Sim cx V σ β I S N a w) {S':Nat→Prop} (hd:Dep cx β I S a S') {w':World} (k:Keep S' w w'):Sim cx V σ β I S N a w' :=
 { h with
   agree:=fun B off v hv=>by rw [k.cell (hd.im B off v hv)];exact h.agree B off v hv
   bx:=fun i b hb=>let ⟨box,h1,h2⟩:=h.bx i b hb;⟨box,h1,h2.mono I.le_refl (BE.le_refl β) fun R hR=>k.block R (by
    rcases hR with hR | hR
    ·exact hd.bx i b R hb hR
    ·cases box with
     | miter=>obtain ⟨bm,h3,h4⟩:=hR;exact hd.bx _ bm R h3 h4
     | _=>exact hR.elim)⟩
   fr:=hcx.fr _ _ h.fr (k.mono fun B hB=>hd.lo B hB)
   n0:=fun B hB=>Nat.lt_of_lt_of_le (h.n0 B hB) k.size
   j:=hcx.j _ _ _ _ h.j (k.mono hd.ss)
   sb:=fun B hB=>Nat.lt_of_lt_of_le (h.sb B hB) k.size
   marks:=fun d hm hD=>let ⟨R,h1,h2,h3⟩:=h.marks d hm hD;⟨R,h1,(k.block R (hd.mks d hm R (by rw [h1]))).trans h2,h3⟩ }

omit [Glb] in
theorem Sim.dep (h:Sim cx V σ β I S N a w):Dep cx β I S a (·<w.heap.size) where
 lo:=fun k hk=>h.n0 k hk
 im:=fun B off v hv=>cell_lt (h.agree B off v hv)
 bx:=fun i b R hb hR=>let ⟨_,_,h2⟩:=h.bx i b hb;let ⟨_,_,hh⟩:=h2.lt hR;heap_lt hh
 ss:=h.sb
 mks:=fun d hm R hR=>by
  obtain ⟨R',h1,h2,_⟩:=h.marks d hm (fun hD=>h.dn _ hD _ hR)
  rw [h1] at hR
  cases hR
  exact heap_lt h2

omit [Glb] in
theorem not_cell {l B off:Nat} {v:Value} {r:Loop} (hl:w.heap[l]?=some (.loop r)) (h:cellM w B off=some v):B≠l:=fun e=>by
 subst e
 simp [cellM,World.cell?,hl] at h
omit [Glb] in
theorem not_cell' {l B off:Nat} {v:Value} {r:Option (List Deferred)} (hl:w.heap[l]?=some (.deferred r)) (h:cellM w B off=some v):B≠l:=fun e=>by
 subst e
 simp [cellM,World.cell?,hl] at h

omit [Glb] in
theorem keep_put (w:World) (l:Nat) (o:Obj):Keep (fun k=>k≠l) w (w.putObj l o):=⟨rfl,rfl,rfl,by simp,fun _ hk=>World.putObj_heap_other hk⟩

theorem Sim.putLoop (hcx:cx.Ok) (h:Sim cx V σ β I S N a w) {l:Nat} {r:Loop} (hl:w.heap[l]?=some (.loop r)) (hS:¬ S l) (hn:¬ cx.old l) (o:Obj):Sim cx V σ β I S N a (w.putObj l o) :=
 h.keepS hcx (S':=fun k=>k≠l) {
  lo:=fun k hk e=>hn (e ▸ hk)
  im:=fun B off v hv=>not_cell hl (h.agree B off v hv)
  bx:=fun i b R hb hR e=>by
   obtain ⟨_,_,h2⟩:=h.bx i b hb
   obtain ⟨_,hmem,hh⟩:=h2.lt hR
   rw [e,hl] at hh;cases hh;exact Bool.noConfusion hmem
  ss:=fun k hk e=>hS (e ▸ hk)
  mks:=fun d hm R hR e=>by
   obtain ⟨R',h1,h2,_⟩:=h.marks d hm (fun hD=>h.dn _ hD _ hR)
   rw [h1] at hR;cases hR
   rw [e,hl] at h2;cases h2 } (keep_put w l o)

omit [Glb] in
theorem Sim.share (h:Sim cx V σ β I S N a w) (L:List Nat):Sim cx V ⟨σ.tmps,freezeIn σ.boxes 0 L,σ.y⟩ β (plusB L β w I) S N a w:=by
 have hle:=plusB_le h.agree L β
 refine { h with tm:=?_,agree:=plusB_agree h.agree L β,bx:=?_,clear:=?_,j:=h.j,I0:=Imm.le_trans h.I0 hle,Iold:=?_,sI:=?_,gh:=fun v d hg=>(h.gh v d hg).mono hle (BE.le_refl β) }
 ·intro t d hV hl
  obtain ⟨v,hv,hr⟩:=h.tm t d hV hl
  exact ⟨v,hv,hr.mono hle (BE.le_refl β)⟩
 ·intro i b hb
  obtain ⟨box,h1,h2⟩:=h.bx i b hb
  refine ⟨_,freezeIn_get _ 0 L i box h1,?_⟩
  have h3:=h2.mono hle (BE.le_refl β) (w':=w) fun R hR=>rfl
  split
  ·cases box <;> exact h3
  ·exact h3
 ·intro i b R box hb hR hbox hf off
  obtain ⟨box0,h1,h2⟩:=h.bx i b hb
  have hbox:(freezeIn σ.boxes 0 L)[i]?=some box:=hbox
  rw [freezeIn_get _ 0 L i box0 h1] at hbox
  unfold plusB
  split at hbox
  ·cases hbox;rw [Box.freeze_fz] at hf;cases hf
  ·rename_i hc
   cases hbox
   rw [if_neg]
   ·exact h.clear i b R _ hb hR h1 hf off
   ·rintro ⟨i',b',hi',hb',hR'⟩
    have:=h.apart i i' b b' R hb hb' hR hR'
    subst this
    rw [Nat.zero_add] at hc
    simp [hi'] at hc
 ·intro B off hB
  unfold plusB
  rw [if_neg]
  ·exact h.Iold B off hB
  ·rintro ⟨i,b,_,hb,hR⟩
   exact (h.own i b B hb hR).1 hB
 ·intro B off v hv hB
  unfold plusB at hv
  split at hv
  ·rename_i hx
   obtain ⟨i,b,_,hb,hR⟩:=hx
   exact (h.own i b B hb hR).2
  ·exact h.sI B off v hv hB

omit [Glb] in
theorem swapN_swapN (i j k:Nat):swapN i j (swapN i j k)=k:=by
 unfold swapN
 cases h1:Nat.beq k i with
 | true =>
  have:=Nat.eq_of_beq_eq_true h1
  subst this
  simp only
  cases h2:Nat.beq j k with
  | true=>exact Nat.eq_of_beq_eq_true h2
  | false=>simp
 | false =>
  simp only
  cases h2:Nat.beq k j with
  | true =>
   have:=Nat.eq_of_beq_eq_true h2
   subst this
   simp
  | false=>simp only [h1,h2]

omit [Glb] in
theorem swapN_low {lo i j k:Nat} (hi:lo≤i) (hj:lo≤j) (hk:k<lo):swapN i j k=k:=by
 unfold swapN
 have h1:Nat.beq k i=false:=Bool.eq_false_iff.2 fun h=>by have:=Nat.eq_of_beq_eq_true h;omega
 have h2:Nat.beq k j=false:=Bool.eq_false_iff.2 fun h=>by have:=Nat.eq_of_beq_eq_true h;omega
 rw [h1,h2]

omit [Glb] in
theorem swapN_lt {n i j k:Nat} (hi:i<n) (hj:j<n) (hk:k<n):swapN i j k<n:=by
 unfold swapN
 split
 ·exact hj
 ·split
  ·exact hi
  ·exact hk

omit [Glb] in
theorem swap_get {bs:List Box} {i j:Nat} {bi bj:Box} (hi:bs[i]?=some bi) (hj:bs[j]?=some bj) (k:Nat):((bs.set i bj).set j bi)[k]?=bs[swapN i j k]?:=by
 have hil:=(List.getElem?_eq_some_iff.1 hi).1
 have hjl:=(List.getElem?_eq_some_iff.1 hj).1
 unfold swapN
 by_cases hkj:k=j
 ·subst hkj
  rw [List.getElem?_set_self (by simpa using hjl)]
  cases h1:Nat.beq k i with
  | true=>have:=Nat.eq_of_beq_eq_true h1;subst this;simp only;rw [hi]
  | false=>simp only [Nat.beq_refl];rw [hi]
 ·rw [List.getElem?_set_ne (Ne.symm hkj)]
  by_cases hki:k=i
  ·subst hki
   rw [List.getElem?_set_self hil]
   simp only [Nat.beq_refl]
   rw [hj]
  ·rw [List.getElem?_set_ne (Ne.symm hki)]
   have h1:Nat.beq k i=false:=Bool.eq_false_iff.2 fun h=>hki (Nat.eq_of_beq_eq_true h)
   have h2:Nat.beq k j=false:=Bool.eq_false_iff.2 fun h=>hkj (Nat.eq_of_beq_eq_true h)
   rw [h1,h2]

omit [Glb] in
theorem look_renT {f:Nat→Nat}:∀ {tm:List (Nat × D)} {t:Nat} {d:D},look (renT f tm) t=some d→∃ e,look tm t=some e∧d=ren f e
 | [],_,_,h=>by cases h
 | (k,e)::r,t,d,h=>by
  simp only [renT,look] at h ⊢
  cases hk:Nat.beq k t with
  | true=>rw [hk] at h;cases h;exact ⟨e,rfl,rfl⟩
  | false=>rw [hk] at h;exact look_renT h

theorem FS.swap (hcx:cx.Ok) {lo:Nat} (hlo:cx.lo≤lo) (i j:Nat) (h:FS cx σ N a w):FS cx (St.swap lo σ i j) N a w:=by
 unfold St.swap
 split
 ·rename_i bi bj h1 h2 hi hj
  have h1:=Nat.le_of_ble_eq_true h1
  have h2:=Nat.le_of_ble_eq_true h2
  obtain ⟨β,I,S,hs,ht⟩:=h
  have hil:=(List.getElem?_eq_some_iff.1 hi).1
  have hjl:=(List.getElem?_eq_some_iff.1 hj).1
  obtain ⟨f,hf⟩:∃ f,swapN i j=f:=⟨_,rfl⟩
  have hff:∀ k,f (f k)=k:=fun k=>by rw [← hf];exact swapN_swapN i j k
  have hlow:∀ k,k<cx.lo→f k=k:=fun k hk=>by rw [← hf];exact swapN_low (by omega) (by omega) hk
  have hget:∀ k,(((σ.boxes.set i bj).set j bi).map (Box.ren f))[k]?=(σ.boxes[f k]?).map (Box.ren f):=fun k=>by
   rw [List.getElem?_map,swap_get hi hj,hf]
  have hren:∀ k b,β k=some b→(fun k=>β (f k)) (f k)=some b:=fun k b hb=>by show β (f (f k))=some b;rw [hff];exact hb
  rw [hf]
  refine ⟨fun k=>β (f k),I,S,{ hs with tm:=?_,bx:=?_,apart:=?_,own:=?_,clear:=?_,j:=hs.j,gh:=?_,le0:=?_ },?_⟩
  ·intro t d hV hl
   obtain ⟨e,he,rfl⟩:=look_renT hl
   obtain ⟨v,hv,hr⟩:=hs.tm t e hV he
   exact ⟨v,hv,hr.ren hren⟩
  ·intro k b hb
   obtain ⟨box,h3,h4⟩:=hs.bx (f k) b hb
   refine ⟨box.ren f,?_,h4.ren hren⟩
   show (((σ.boxes.set i bj).set j bi).map (Box.ren f))[k]?=_
   rw [hget,h3];rfl
  ·intro k l b c R hb hc hR hR'
   have:=hs.apart (f k) (f l) b c R hb hc hR hR'
   rw [← hff k,← hff l,this]
  ·intro k b R hb hR
   exact hs.own (f k) b R hb hR
  ·intro k b R box hb hR hbox hfz off
   have hbox:(((σ.boxes.set i bj).set j bi).map (Box.ren f))[k]?=some box:=hbox
   rw [hget] at hbox
   cases hb2:σ.boxes[f k]? with
   | none=>rw [hb2] at hbox;cases hbox
   | some b2 =>
    rw [hb2] at hbox
    cases hbox
    exact hs.clear (f k) b R b2 hb hR hb2 (by cases b2 <;> exact hfz) off
  ·intro v d hg
   refine ((hs.gh v d hg).lowB cx.lo (hcx.g v d hg)).mono I.le_refl fun k b hb=>?_
   unfold cutB at hb
   split at hb
   ·rename_i hk
    exact ⟨b,by show β (f k)=some b;rw [hlow k hk];exact hb,.inl rfl⟩
   ·cases hb
  ·intro k b hb
   obtain ⟨b',h3,h4⟩:=hs.le0 k b hb
   exact ⟨b',by show β (f k)=some b';rw [hlow k (hcx.b k b hb)];exact h3,h4⟩
  ·intro k hk
   have hk:k<(((σ.boxes.set i bj).set j bi).map (Box.ren f)).length:=hk
   simp only [List.length_map,List.length_set] at hk
   exact ht (f k) (by rw [← hf];exact swapN_lt hil hjl hk)
 ·exact h

theorem FS.fzs (hcx:cx.Ok) {lo:Nat} (hlo:cx.lo≤lo):∀ (vs:List (Pl × Nat)) {σ:St},FS cx σ N a w→FS cx (σ.fzs lo vs) N a w
 | [],_,h=>h
 | (.slot _,_)::r,_,h=>FS.fzs hcx hlo r h
 | (.cell _ _,_)::r,_,h=>FS.fzs hcx hlo r h
 | (.swap i j,_)::r,_,h=>FS.fzs hcx hlo r (FS.swap hcx hlo i j h)
 | (.asList t,sz)::r,σ,h=>by
  unfold St.fzs
  split
  ·rename_i hl
   refine FS.fzs hcx hlo r ?_
   obtain ⟨β,I,S,hs,ht⟩:=h
   refine ⟨β,I,S,{ hs with tm:=fun u d hV he=>?_,sz:=hs.sz,bx:=hs.bx,clear:=hs.clear,j:=hs.j,marks:=hs.marks,pres:=hs.pres,dn:=hs.dn,nd:=hs.nd },ht⟩
   rcases putIn_look hl he with ⟨rfl,rfl⟩ | he
   ·obtain ⟨v,hv,hr⟩:=hs.tm u _ trivial hl
    cases hr
    exact ⟨_,hv,.list0 _ _ _⟩
   ·exact hs.tm u d hV he
  ·rename_i i g off len hl
   split
   ·rename_i d' hd'
    refine FS.fzs hcx hlo r ?_
    obtain ⟨β,I,S,hs,ht⟩:=h
    have h1:=hs.share [i]
    refine ⟨β,plusB [i] β w I,S,{ h1 with tm:=fun u d hV he=>?_,sz:=h1.sz,bx:=h1.bx,clear:=h1.clear,j:=h1.j,marks:=h1.marks,pres:=h1.pres,dn:=h1.dn,nd:=h1.nd },fun j hj=>ht j (by simpa [freezeIn_len] using hj)⟩
    rcases putIn_look hl he with ⟨rfl,rfl⟩ | he
    ·obtain ⟨v,hv,hr⟩:=hs.tm u _ trivial hl
     exact ⟨v,hv,(reify_sound hs.agree hs.bx [i] fuel hr hd' (fun j hj=>by simpa [touch,fuel] using hj)).mono (Imm.le_refl _) (nob_le β)⟩
    ·exact h1.tm u d hV he
   ·exact FS.fzs hcx hlo r h
  ·exact FS.fzs hcx hlo r h

omit [Glb] in
theorem params_tmps:∀ (ps:List Nat) (vs:List Value) (ds:List D) (tm:List (Nat × D)) (tmps:Array Value),vs.length=ds.length→(∀ p∈ps,p<tmps.size)→(∀ (i:Nat) (v:Value) (d:D),vs[i]?=some v→ds[i]?=some d→Rel I β v d) →
    (∀ t d,look tm t=some d→∃ v,tmps[t]?=some v∧Rel I β v d) →
    ((ps.zip vs).foldl (fun tmps (p,v)=>tmps.setIfInBounds p v) tmps).size=tmps.size ∧
    ∀ t d,look (setParams ps ds tm) t=some d→∃ v,((ps.zip vs).foldl (fun tmps (p,v)=>tmps.setIfInBounds p v) tmps)[t]?=some v∧Rel I β v d
  | [],vs,ds,tm,tmps,_,_,_,htm=>by simp [setParams];exact htm
  | p::ps,[],ds,tm,tmps,hl,_,_,htm=>by
   have:ds=[]:=List.eq_nil_of_length_eq_zero (by simpa using hl.symm)
   subst this
   simp [setParams];exact htm
  | p::ps,v::vs,[],tm,tmps,hl,_,_,htm=>by simp at hl
  | p::ps,v::vs,d::ds,tm,tmps,hl,hp,hr,htm=>by
   have ih:=params_tmps ps vs ds ((p,d)::tm) (tmps.setIfInBounds p v) (by simpa using hl) (fun q hq=>by simpa using hp q (by simp [hq])) (fun i u e hu he=>hr (i+1) u e (by simpa using hu) (by simpa using he)) (by
    intro t e he
    simp only [look] at he
    cases hb:Nat.beq p t with
    | true =>
     rw [hb] at he
     cases he
     obtain rfl:=Nat.eq_of_beq_eq_true hb
     exact ⟨v,by simp [hp p (by simp)],hr 0 v d rfl rfl⟩
    | false =>
     rw [hb] at he
     obtain ⟨x,hx,hrx⟩:=htm t e he
     have hne:p≠t:=fun e=>by subst e;simp at hb
     exact ⟨x,by rw [Array.getElem?_setIfInBounds_ne hne];exact hx,hrx⟩)
   simp only [List.zip_cons_cons,List.foldl_cons,setParams]
   refine ⟨by rw [ih.1];simp,ih.2⟩

def Cx.inRound (cx:Cx) (X:Nat→Prop) (wX:World) (I0:Imm) (G:Value→D→Prop) (nb:Nat):Cx where
 old:=cx.old
 Fr:=cx.Fr
 J:=fun y Sx w=>∃ S,cx.J y S w∧(∀ k,Sx k↔(S k∨X k))∧(∀ k,S k→¬ X k)∧(∀ k,X k→k<wX.heap.size)∧Keep X wX w∧(∀ B off v,I0 B off=some v→¬ cx.old B→¬ S B)
 I0:=I0
 G:=G
 lo:=nb
 b0:=cx.b0
 dfr:=fun _=>False

variable {X:Nat→Prop} {wX:World} {I0:Imm} {G:Value→D→Prop} {nb:Nat}

theorem Cx.inRound_ok (hcx:cx.Ok) (hI0:cx.I0.le I0) (hG:∀ v d,G v d→okAt nb d=true) (hlo:cx.lo≤nb):(cx.inRound X wX I0 G nb).Ok where
 gl:=Imm.le_trans hcx.gl hI0
 fr:=hcx.fr
 j:=fun _ _ _ _ ⟨S,h1,h2,h3,h4,h5,h6⟩ k=>⟨S,hcx.j _ _ _ _ h1 (k.mono fun B hB=>(h2 B).2 (.inl hB)),h2,h3,h4,h5.trans (k.mono fun B hB=>(h2 B).2 (.inr hB)),h6⟩
 g:=hG
 b:=fun i b h=>Nat.lt_of_lt_of_le (hcx.b i b h) hlo
 d:=fun _ h=>h.elim

omit [Glb] in
theorem Cx.inRound_round {l:Nat} (hX:X l) {r:Loop} (hl:wX.heap[l]?=some (.loop r)):RoundOK (Fence.wide.inRound l) (cx.inRound X wX I0 G nb):=by
 rintro l' y Sx w hl' ⟨S,_,_,_,_,h5,_⟩
 simp at hl'
 subst hl'
 exact ⟨r,(h5.block l hX).trans hl⟩

omit [Glb] in
theorem Cx.inRound_yield (hy:YieldOK P cx) (hI0:cx.I0.le I0) (hold:∀ B off,cx.old B→I0 B off=cx.I0 B off):YieldOK P (cx.inRound X wX I0 G nb):=by
 rintro l x r Sx w I vs Gv ⟨S,h1,h2,h3,h4,h5,h6⟩ hfr hag hn0 hS hagI hrel
 have hGv:=hrel.out
 obtain ⟨f,tmps,assign,body,hrun,hround⟩:=hy l x r S w I vs Gv h1 hfr (fun B off v hv=>hag B off v (hI0 B off v hv)) hn0 (fun B hB=>hS B ((h2 B).2 (.inl hB))) hagI (hrel.sub (fun B h=>h) (fun B h=>(h2 B).2 (.inl h)) hI0)
 refine ⟨f,tmps,assign,body,hrun,hround.mono ?_⟩
 rintro e w' ⟨b,S'',rfl,hj,hk,hs1,hs2,hag',hfr'⟩
 have hXk:∀ k,X k→k<w.heap.size∧¬ S k∧¬ Gv k:=fun k hk=>⟨hS k ((h2 k).2 (.inr hk)),fun hs=>h3 k hs hk,fun hg=>(hGv k hg).2.1 ((h2 k).2 (.inr hk))⟩
 have hnI:∀ B off v,I0 B off=some v→¬ cx.old B→¬ Gv B:=fun B off v hv hB hg=>by
  have h:I0 B off=none:=(hGv B hg).2.2 off
  rw [h] at hv;cases hv
 refine ⟨b,fun k=>S'' k∨X k,rfl,⟨S'',hj,fun k=>Iff.rfl,?_,h4,h5.trans (hk.mono hXk),?_⟩,hk.mono fun k hk'=>⟨hk'.1,fun hs=>hk'.2.1 ((h2 k).2 (.inl hs)),hk'.2.2⟩,?_,?_,?_,hfr'⟩
 ·intro k hk' hx
  rcases hs1 k hk' with h | h | h
  ·exact h3 k h hx
  ·have:=(hXk k hx).1;omega
  ·exact (hXk k hx).2.2 h
 ·intro B off v hv hB hs
  rcases hs1 B hs with h | h | h
  ·exact h6 B off v hv hB h
  ·have:=cell_lt (hag B off v hv);omega
  ·exact hnI B off v hv hB h
 ·rintro B (hB | hB)
  ·rcases hs1 B hB with h | h | h
   ·exact .inl ((h2 B).2 (.inl h))
   ·exact .inr (.inl h)
   ·exact .inr (.inr h)
  ·exact .inl ((h2 B).2 (.inr hB))
 ·rintro B (hB | hB)
  ·exact hs2 B hB
  ·exact Nat.lt_of_lt_of_le (hXk B hB).1 hk.size
 ·intro B off v hv
  by_cases hB:cx.old B
  ·exact hag' B off v (by rw [← hold B off hB];exact hv)
  ·have h7:=hag B off v hv
   rw [hk.cell ⟨cell_lt h7,h6 B off v hv hB,hnI B off v hv hB⟩]
   exact h7

omit [Glb] in
theorem enter_loop {F:Fence} (hR:∀ l,F.round=some l→∃ r,w.heap[l]?=some (.loop r)) (fn:FuncId) (tmps:Array Value) (ps:Array Tmp) (assign body:Code) :
    ∃ l mark w1 D,(Instr.enterLoop fn tmps ps assign body F.round).run P w=.ok (l,mark) w1∧Keep (·<w.heap.size) w w1∧w.heap.size≤l ∧
     w1.heap[l]?=some (.loop { state:=.ready,pending:=none,fn,tmps,params:=ps,assign,body,defers:=D }) ∧
     (mark.Pairwise fun d d'=>d.target≠d'.target)∧∀ d∈mark,∃ R,d={ target:=.collected R,args:=#[] }∧w1.heap[R]?=some (.deferred (some []))∧w.heap.size≤R:=by
  cases hF:F.round with
  | none =>
   refine ⟨_,_,_,w.heap.size,run_enterLoop_outer fn tmps ps assign body,?_,Nat.le_succ _,?_,List.pairwise_singleton _ _,?_⟩
   ·exact (Keep.alloc w _).trans ((Keep.alloc _ _).mono fun B hB=>by simp;omega)
   ·have:=World.alloc_heap_new (w.alloc (.deferred (some []))) (.loop { state:=.ready,pending:=none,fn,tmps,params:=ps,assign,body,defers:=w.heap.size })
    rwa [World.size_alloc] at this
   ·intro d hd
    simp at hd
    refine ⟨w.heap.size,hd,?_,Nat.le_refl _⟩
    exact (Below.heap_alloc _ _ _ (by simp)).trans (World.alloc_heap_new w _)
  | some l =>
   obtain ⟨r,hr⟩:=hR l hF
   refine ⟨_,_,_,r.defers,run_enterLoop_inner hr fn tmps ps assign body,Keep.alloc w _,Nat.le_refl _,World.alloc_heap_new w _,.nil,fun d hd=>by simp at hd⟩

end
end Go.V

namespace Go.V
open Go.RowKit

section
variable {P:Program} [Glb] {sh:Kinds} {ish:Nat→Bool} {T:Nat→Option TI} {cx:Cx} {V:Nat→Prop} {σ:St} {β:BE} {I:Imm} {S:Nat→Prop} {N:Nat} {a:Act} {w:World}

def Snd [Glb] (P:Program) (sh:Kinds) (ish:Nat→Bool) (T:Nat→Option TI) (N:Nat) (c:Code):Prop :=
 ∀ (lo:Nat) (σ:St) (Q:Ex→St→Prop) (cx:Cx) (F:Fence) (n:Nat) (a:Act) (w:World),W T (CD P sh) (ItD P ish) lo c σ Q→FW F→cx.Ok→RoundOK F cx→YieldOK P cx→cx.lo≤lo→FS cx σ N a w→c.wpIn F n P (PostE cx N Q) a w

theorem Sim.toRound (hcx:cx.Ok) (h:Sim cx (fun _=>True) σ β I S N a w) {S':Nat→Prop} (hd:Dep cx β I S a S') {l:Nat} {r:Loop} (hl:w.heap[l]?=some (.loop r)) (hSl:¬ S l) {I1:Imm} (hI1:I1.le I) (hI0:cx.I0.le I1)
    {X:Nat→Prop} (hX:∀ k,X k↔((k<w.heap.size∧¬ S' k)∨k=l∨∃ d∈a.defers,d.target=.collected k)) {G:Value→D→Prop} (hG:∀ v d,G v d→Rel I β v d) {nb:Nat}
    {tm:List (Nat × D)} {tmps:Array Value} (hsz:tmps.size=N) (htm:∀ t d,look tm t=some d→∃ v,tmps[t]?=some v∧Rel I β v d) :
    Sim (cx.inRound X w I1 G nb) (fun _=>True) ⟨tm,σ.boxes,σ.y⟩ β I (fun k=>S k∨X k) N { tmps:=tmps,defers:=[] } w:=by
  have hlw:=heap_lt hl
  have hcellX:∀ {B off:Nat} {v:Value},I B off=some v→¬ X B:=fun {B off v} hv hx=>by
   have hc:=h.agree B off v hv
   rcases (hX B).1 hx with h1 | h1 | ⟨d,h1,h2⟩
   ·exact h1.2 (hd.im B off v hv)
   ·exact not_cell hl hc h1
   ·obtain ⟨R,e,h3,_⟩:=h.marks d h1 (fun hD=>hcx.d _ hD _ h2)
    rw [e] at h2;cases h2
    exact not_cell' h3 hc rfl
  have hboxX:∀ {i b R},β i=some b→b.R=some R→¬ X R:=fun {i b R} hb hR hx=>by
   obtain ⟨_,_,h2⟩:=h.bx i b hb
   obtain ⟨_,hmem,hh⟩:=h2.lt hR
   rcases (hX R).1 hx with h1 | h1 | ⟨d,h1,h3⟩
   ·exact h1.2 (hd.bx i b R hb hR)
   ·rw [h1,hl] at hh;cases hh;exact Bool.noConfusion hmem
   ·obtain ⟨R',e,h4,_⟩:=h.marks d h1 (fun hD=>hcx.d _ hD _ h3)
    rw [e] at h3;cases h3
    rw [hh] at h4;cases h4;exact Bool.noConfusion hmem
  have hSX:∀ k,S k→¬ X k:=fun k hk hx=>by
   rcases (hX k).1 hx with h1 | h1 | ⟨d,h1,h3⟩
   ·exact h1.2 (hd.ss k hk)
   ·exact hSl (h1 ▸ hk)
   ·obtain ⟨R',e,_,_,h4⟩:=h.marks d h1 (fun hD=>hcx.d _ hD _ h3)
    rw [e] at h3;cases h3
    exact h4 hk
  have hXw:∀ k,X k→k<w.heap.size:=fun k hk=>by
   rcases (hX k).1 hk with h1 | h1 | ⟨d,h1,h3⟩
   ·exact h1.1
   ·exact h1 ▸ hlw
   ·obtain ⟨R',e,h4,_⟩:=h.marks d h1 (fun hD=>hcx.d _ hD _ h3)
    rw [e] at h3;cases h3
    exact heap_lt h4
  refine { h with tm:=fun t d _ hl=>htm t d hl,sz:=hsz,own:=?_,I0:=hI1,Iold:=?_,j:=⟨S,h.j,fun k=>Iff.rfl,hSX,hXw,Keep.refl _ _,?_⟩,sb:=?_,sI:=?_,gh:=hG,le0:=h.le0,pres:=fun _ h=>h.elim,dn:=fun _ h=>h.elim,marks:=(fun d hd=>by cases hd),nd:=.nil,bx:=h.bx,clear:=h.clear }
  ·intro i b R hb hR
   exact ⟨(h.own i b R hb hR).1,fun hs=>hs.elim (h.own i b R hb hR).2 (hboxX hb hR)⟩
  ·intro B off hB
   show I B off=I1 B off
   have e:=h.Iold B off hB
   cases hv:I1 B off with
   | some v=>exact hI1 B off v hv
   | none =>
    rw [e]
    cases hv':cx.I0 B off with
    | none=>rfl
    | some v=>rw [hI0 B off v hv'] at hv;cases hv
  ·intro B off v hv hB
   exact h.sI B off v (hI1 B off v hv) hB
  ·rintro B (hB | hB)
   ·exact h.sb B hB
   ·exact hXw B hB
  ·intro B off v hv hB hs
   exact hs.elim (h.sI B off v hv hB) (hcellX hv)

theorem Sim.busy {X:Nat→Prop} {wX:World} {I0:Imm} {G:Value→D→Prop} {nb:Nat} (hcx:cx.Ok) (h:Sim (cx.inRound X wX I0 G nb) V σ β I S N a w) {l:Nat} (hX:X l) (hn:¬ cx.old l) (o:Obj) :
    Sim (cx.inRound X (w.putObj l o) I0 G nb) V σ β I S N a (w.putObj l o):=by
  obtain ⟨S₀,h1,h2,h3,h4,h5,h6⟩:=h.j
  have hne:∀ {k},¬ S k→k≠l:=fun hk e=>hk ((h2 _).2 (.inr (e ▸ hX)))
  have hcell:∀ {B off v},I B off=some v→B≠l:=fun {B off v} hv e=>by
   by_cases hB:cx.old B
   ·exact hn (e ▸ hB)
   ·exact h.sI B off v hv hB ((h2 B).2 (.inr (e ▸ hX)))
  have k:=keep_put w l o
  refine { h with agree:=fun B off v hv=>?_,bx:=fun i b hb=>?_,fr:=hcx.fr _ _ h.fr (k.mono fun B hB e=>hn (e ▸ hB)),n0:=fun B hB=>Nat.lt_of_lt_of_le (h.n0 B hB) k.size,j:=?_,sb:=fun B hB=>Nat.lt_of_lt_of_le (h.sb B hB) k.size,marks:=?_ }
  ·rw [k.cell (hcell hv)];exact h.agree B off v hv
  ·obtain ⟨box,h7,h8⟩:=h.bx i b hb
   refine ⟨box,h7,h8.mono I.le_refl (BE.le_refl β) fun R hR=>k.block R ?_⟩
   rcases hR with hR | hR
   ·exact hne (h.own i b R hb hR).2
   ·cases box with
    | miter=>obtain ⟨bm,h9,h10⟩:=hR;exact hne (h.own _ bm R h9 h10).2
    | _=>exact hR.elim
  ·exact ⟨S₀,hcx.j _ _ _ _ h1 (k.mono fun B hB e=>h3 B hB (e ▸ hX)),h2,h3,fun j hj=>Nat.lt_of_lt_of_le (Nat.lt_of_lt_of_le (h4 j hj) h5.size) k.size,Keep.refl _ _,h6⟩
  ·intro d hd hD
   obtain ⟨R,e,h7,h8,h9⟩:=h.marks d hd hD
   exact ⟨R,e,(k.block R (hne h9)).trans h7,h8,h9⟩

theorem Sim.fromRound {X:Nat→Prop} {wX:World} {I1:Imm} {G:Value→D→Prop} {nb:Nat} (hcx:cx.Ok) {a₂:Act} (h:Sim (cx.inRound X wX I1 G nb) (fun _=>True) σ β I S N a₂ w) {l:Nat} (hXl:X l) (hn:¬ cx.old l) (o:Obj)
    (hI0:cx.I0.le I1) (hold:∀ B off,cx.old B→I1 B off=cx.I0 B off) (hG:∀ v d,cx.G v d→G v d) {tm:List (Nat × D)} (hsz:a.tmps.size=N) (htm:∀ t d,look tm t=some d→∃ v,a.tmps[t]?=some v∧G v d)
    (hnd:a.defers.Pairwise fun d d'=>d.target≠d'.target) (hpr:∀ d,cx.dfr d→d∈a.defers) (hm:∀ d∈a.defers,¬ cx.dfr d→∃ R,d={ target:=.collected R,args:=#[] }∧wX.heap[R]?=some (.deferred (some []))∧¬ cx.old R∧X R∧R≠l) :
    ∃ S₂,Sim cx (fun _=>True) ⟨tm,σ.boxes,σ.y⟩ β I S₂ N a (w.putObj l o)∧¬ S₂ l∧(∀ k,S k↔(S₂ k∨X k))∧(∀ k,S₂ k→¬ X k)∧Keep X wX w:=by
  obtain ⟨S₀,h1,h2,h3,h4,h5,h6⟩:=h.j
  have hne:∀ {k},¬ S k→k≠l:=fun hk e=>hk ((h2 _).2 (.inr (e ▸ hXl)))
  have hcell:∀ {B off v},I B off=some v→B≠l:=fun {B off v} hv e=>by
   by_cases hB:cx.old B
   ·exact hn (e ▸ hB)
   ·exact h.sI B off v hv hB ((h2 B).2 (.inr (e ▸ hXl)))
  have k:=keep_put w l o
  refine ⟨S₀,{ h with tm:=?_,sz:=hsz,agree:=fun B off v hv=>?_,bx:=fun i b hb=>?_,own:=?_,clear:=h.clear,fr:=hcx.fr _ _ h.fr (k.mono fun B hB e=>hn (e ▸ hB)),n0:=fun B hB=>Nat.lt_of_lt_of_le (h.n0 B hB) k.size,I0:=Imm.le_trans hI0 h.I0,Iold:=?_,j:=hcx.j _ _ _ _ h1 (k.mono fun B hB e=>h3 B hB (e ▸ hXl)),sb:=?_,sI:=?_,gh:=fun v d hg=>h.gh v d (hG v d hg),le0:=h.le0,nd:=hnd,pres:=hpr,dn:=hcx.d,marks:=?_ },fun hs=>h3 l hs hXl,h2,h3,h5⟩
  ·intro t d _ hl
   obtain ⟨v,hv,hg⟩:=htm t d hl
   exact ⟨v,hv,h.gh v d hg⟩
  ·rw [k.cell (hcell hv)];exact h.agree B off v hv
  ·obtain ⟨box,h7,h8⟩:=h.bx i b hb
   refine ⟨box,h7,h8.mono I.le_refl (BE.le_refl β) fun R hR=>k.block R ?_⟩
   rcases hR with hR | hR
   ·exact hne (h.own i b R hb hR).2
   ·cases box with
    | miter=>obtain ⟨bm,h9,h10⟩:=hR;exact hne (h.own _ bm R h9 h10).2
    | _=>exact hR.elim
  ·intro i b R hb hR
   exact ⟨(h.own i b R hb hR).1,fun hs=>(h.own i b R hb hR).2 ((h2 R).2 (.inl hs))⟩
  ·intro B off hB
   exact (h.Iold B off hB).trans (hold B off hB)
  ·intro B hB
   exact Nat.lt_of_lt_of_le (h.sb B ((h2 B).2 (.inl hB))) k.size
  ·intro B off v hv hB hs
   exact h.sI B off v hv hB ((h2 B).2 (.inl hs))
  ·intro d hd hD
   obtain ⟨R,e,h7,h8,h9,h10⟩:=hm d hd hD
   exact ⟨R,e,(k.block R h10).trans ((h5.block R h9).trans h7),h8,fun hs=>h3 R hs h9⟩

omit [Glb] in
theorem Sim.adopt (h:Sim cx V σ β I S N a w) {R:Nat} {es:Array MapEntry} {clock:Nat} {ks us:List D} (hR:w.heap[R]?=some (.map es clock)) (hc:∀ e∈es.toList,e.born<clock) (hm:MapRel I es.toList ks us) (ho:¬ cx.old R) (hS:¬ S R)
    (hb:∀ i b,β i=some b→b.R≠some R) (hI:∀ off,I R off=none) (hn:β σ.boxes.length=none) :
    Sim cx V ⟨σ.tmps,σ.boxes++[.map false ks us],σ.y⟩ (fun i=>if i=σ.boxes.length then some ⟨some R,true,0,0,0,0⟩ else β i) I S N a w∧β.le (fun i=>if i=σ.boxes.length then some ⟨some R,true,0,0,0,0⟩ else β i):=by
  have hle:β.le (fun i=>if i=σ.boxes.length then some ⟨some R,true,0,0,0,0⟩ else β i):=by
   intro i b' hb
   have:i≠σ.boxes.length:=fun e=>by subst e;rw [hn] at hb;cases hb
   exact ⟨b',by simp [this,hb],.inl rfl⟩
  have hcase:∀ {i:Nat} {b':BI},(if i=σ.boxes.length then some ⟨some R,true,0,0,0,0⟩ else β i)=some b'→(i=σ.boxes.length∧b'=⟨some R,true,0,0,0,0⟩)∨(i≠σ.boxes.length∧β i=some b'):=by
   intro i b' hb
   by_cases hi:i=σ.boxes.length
   ·rw [if_pos hi] at hb;cases hb;exact .inl ⟨hi,rfl⟩
   ·rw [if_neg hi] at hb;exact .inr ⟨hi,hb⟩
  have hlen:∀ {i b},β i=some b→i<σ.boxes.length:=fun {i b} hb=>by
   obtain ⟨box,h1,_⟩:=h.bx i b hb
   exact (List.getElem?_eq_some_iff.1 h1).1
  refine ⟨{ h with tm:=?_,bx:=?_,apart:=?_,own:=?_,clear:=?_,j:=h.j,gh:=fun v d hg=>(h.gh v d hg).mono I.le_refl hle,le0:=BE.le_trans h.le0 hle },hle⟩
  ·intro t e hV he
   obtain ⟨u,hu,hue⟩:=h.tm t e hV he
   exact ⟨u,hu,hue.mono I.le_refl hle⟩
  ·intro i b' hb
   rcases hcase hb with ⟨rfl,rfl⟩ | ⟨_,hb⟩
   ·exact ⟨.map false ks us,by simp,rfl,R,es,clock,rfl,hR,hc,hm⟩
   ·obtain ⟨box,h1,h2⟩:=h.bx i b' hb
    exact ⟨box,(List.getElem?_append_left (hlen hb)).trans h1,h2.mono I.le_refl hle fun R _=>rfl⟩
  ·intro i j b1 b2 R' h1 h2 hR1 hR2
   rcases hcase h1 with ⟨e1,e1'⟩ | ⟨hi,g1⟩ <;> rcases hcase h2 with ⟨e2,e2'⟩ | ⟨hj,g2⟩
   ·rw [e1,e2]
   ·subst e1';cases hR1
    exact absurd hR2 (hb _ _ g2)
   ·subst e2';cases hR2
    exact absurd hR1 (hb _ _ g1)
   ·exact h.apart i j b1 b2 R' g1 g2 hR1 hR2
  ·intro i b' R' hb' hRR
   rcases hcase hb' with ⟨rfl,rfl⟩ | ⟨_,hb'⟩
   ·cases hRR
    exact ⟨ho,hS⟩
   ·exact h.own i b' R' hb' hRR
  ·intro i b' R' box hb' hRR hbox hf off
   rcases hcase hb' with ⟨rfl,rfl⟩ | ⟨_,hb'⟩
   ·cases hRR
    exact hI off
   ·exact h.clear i b' R' box hb' hRR ((List.getElem?_append_left (hlen hb')).symm.trans hbox) hf off

omit [Glb] in
theorem YArgs.len {old S:Nat→Prop} {I0:Imm} {vs:List Value} {x:List D} {G:Nat→Prop} (h:YArgs old S I0 I w vs x G):vs.length=x.length:=by
 cases h with
 | plain vs x h=>exact h.1
 | give=>rfl

omit [Glb] in
theorem arrP_plain {ps:List Nat} {x:List D} {tm:List (Nat × D)} {bs:List Box} {y:Yst} {I:Imm} {β:BE} {vs:List Value} (h:RelL I β vs x):arrP ps x tm bs y=⟨setParams ps x tm,bs,y⟩:=by
 unfold arrP
 split
 ·obtain ⟨v,vs',_,h1,_⟩:=h.cons_inv
  cases h1
 ·rfl
omit [Glb] in
theorem yOK_plain {x:List D} {I:Imm} {β:BE} {vs:List Value} (h:RelL I β vs x) (hy:yOK x=true):plainAll x=true:=by
 unfold yOK at hy
 split at hy
 ·obtain ⟨v,vs',_,h1,_⟩:=h.cons_inv
  cases h1
 ·exact hy

omit [Glb] in
theorem Dep.mono {S' S'':Nat→Prop} (h:Dep cx β I S a S') (hs:∀ k,S' k→S'' k):Dep cx β I S a S'' :=
 ⟨fun k hk=>hs k (h.lo k hk),fun B off v hv=>hs B (h.im B off v hv),fun i b R hb hR=>hs R (h.bx i b R hb hR),fun k hk=>hs k (h.ss k hk),fun d hd R hR=>hs R (h.mks d hd R hR)⟩

omit [Glb] in
theorem MapRel.of_plain {I I':Imm} {es:List MapEntry} {ks us:List D} (h:MapRel I es ks us) (hk:plainAll ks=true) (hu:plainAll us=true):MapRel I' es ks us :=
 ⟨h.born,h.kl,h.vl,fun i e d he hd=>(h.k i e d he hd).of_plain (plainAll_get hk hd),fun i e d he hd=>(h.v i e d he hd).of_plain (plainAll_get hu hd)⟩

def RJ (cx:Cx) (σ:St) (N:Nat) (xs:List (List D)) (Inv:Nat→List Box→Yst→Prop) (Q:Ex→St→Prop) (rec:LoopState→Option Code→Loop) (l:Nat) (I1:Imm) (a:Act) (y':Yst) (S':Nat→Prop) (w:World):Prop :=
 ∃ bs y β I S st pe,I1.le I∧Sim cx (fun _=>True) ⟨σ.tmps,bs,y⟩ β I S N a w∧(∀ i,i<bs.length→(β i).isSome=true)∧¬ S l∧Dep cx β I S a S'∧S' l∧w.heap[l]?=some (.loop (rec st pe)) ∧
  ((∃ i,y'=.rem l (xs.drop i)∧i≤xs.length∧Inv i bs y∧st=.ready∧pe=none) ∨
   (y'=.stopped∧st=.done∧∃ c,pe=some c∧((c=.ret∧Q .ret ⟨σ.tmps,bs,y⟩)∨∃ id,c=.exit id∧Q (.exit id) ⟨σ.tmps,bs,y⟩)))

theorem RJ.keep {xs:List (List D)} {Inv:Nat→List Box→Yst→Prop} {Q:Ex→St→Prop} {rec:LoopState→Option Code→Loop} {l:Nat} {I1:Imm} (hcx:cx.Ok) {y:Yst} {S':Nat→Prop} {w w':World}
    (h:RJ cx σ N xs Inv Q rec l I1 a y S' w) (k:Keep S' w w'):RJ cx σ N xs Inv Q rec l I1 a y S' w':=by
  obtain ⟨bs,y,β,I,S,st,pe,h1,h2,h3,h4,h5,h6,h7,h8⟩:=h
  exact ⟨bs,y,β,I,S,st,pe,h1,h2.keepS hcx h5 k,h3,h4,h5,h6,(k.block l h6).trans h7,h8⟩

theorem round_ok {xs:List (List D)} {Inv:Nat→List Box→Yst→Prop} {Q:Ex→St→Prop} {l nb:Nat} {I1:Imm} {ps:Array Tmp} {as c:Code} {fn:FuncId} {tmps0:Array Value} {Df:Nat}
    (has:Snd P sh ish T N as) (hcs:Snd P sh ish T N c) (hps:∀ p∈ps.toList,p<N) (hcx:cx.Ok) (hy:YieldOK P cx) (hlo:cx.lo≤nb)
    (htmps0:a.tmps=tmps0) (hok:okTmps nb σ.tmps=true) (hI0:cx.I0.le I1) (hl:¬ cx.old l) (hmarkl:∀ d∈a.defers,d.target≠.collected l)
    (hbody : ∀ i x bs y, xs[i]? = some x → Inv i bs y → arrE ps.toList x σ.tmps bs y fun σ₀ => W T (CD P sh) (ItD P ish) nb as σ₀ fun e σ₁ => match e with
          | .normal=>W T (CD P sh) (ItD P ish) nb c σ₁ fun e σ₂=>match e with
           | .normal=>okBoxes nb (σ₂.boxes.take nb)=true∧Inv (i+1) (σ₂.boxes.take nb) σ₂.y
           | .exit id=>Q (.exit id) ⟨σ.tmps,σ₂.boxes,σ₂.y⟩
           | .ret=>Q .ret ⟨σ.tmps,σ₂.boxes,σ₂.y⟩
           | .panic _=>False
          | _=>False)
    (hplain:∀ x,x∈xs→x.length=ps.size∧yOK x=true) {old0:Nat→Prop} {lo0:Nat} {b00:BE} :
    YieldOK P ⟨old0,fun _=>True,RJ cx σ N xs Inv Q (fun st pe=>{ state:=st,pending:=pe,fn:=fn,tmps:=tmps0,params:=ps,assign:=as,body:=c,defers:=Df }) l I1 a,I1,fun _ _=>False,lo0,b00,fun _=>False⟩:=by
  rintro l' x r S' w Iit vs Gv hJ _ hag hn0 hS' hagI hrel
  obtain ⟨bs,y,β,I,S,st,pe,h1,hs,htot,hSl,hdep,hS'l,hlw,hcase⟩:=hJ
  rcases hcase with ⟨i,hyy,hi,hinv,rfl,rfl⟩ | ⟨hyy,_⟩
  ·simp only [Yst.rem.injEq] at hyy
   obtain ⟨rfl,hxs⟩:=hyy
   have hxi:xs[i]?=some x:=by
    have:(xs.drop i)[0]?=some x:=by rw [← hxs];rfl
    simpa using this
   have hr:xs.drop (i+1)=r:=by
    have:(xs.drop i).drop 1=r:=by rw [← hxs];rfl
    simpa [List.drop_drop,Nat.add_comm] using this
   obtain ⟨hxl,hxp⟩:=hplain x (List.mem_of_getElem? hxi)
   have hrun:=run_yield (P:=P) (args:=vs.toArray) hlw (by simp [hrel.len,hxl])
   refine ⟨fn,_,as,c,hrun,roundIn_of_wpIn (n:=0) (F:=Fence.wide) trivial ?_⟩
   subst htmps0
   -- the context of the round
   obtain ⟨X,hX⟩:∃ X:Nat→Prop,X=fun k=>(k<w.heap.size∧¬ (S' k∨Gv k))∨k=l'∨∃ d∈a.defers,d.target=.collected k:=⟨_,rfl⟩
   have hX:∀ k,X k↔((k<w.heap.size∧¬ (S' k∨Gv k))∨k=l'∨∃ d∈a.defers,d.target=.collected k):=fun k=>by rw [hX]
   have hGlt:∀ k,Gv k→k<w.heap.size:=by
    cases hrel with
    | plain _ _ h=>exact fun _ h=>h.elim
    | give R es clock ks us hR=>rintro k rfl;exact heap_lt hR
   obtain ⟨G,hG⟩:∃ G:Value→D→Prop,G=fun v d=>cx.G v d∨∃ t,look σ.tmps t=some d∧a.tmps[t]?=some v:=⟨_,rfl⟩
   have hG:∀ v d,G v d↔(cx.G v d∨∃ t,look σ.tmps t=some d∧a.tmps[t]?=some v):=fun v d=>by rw [hG]
   have hXl:X l':=(hX l').2 (.inr (.inl rfl))
   have hGok:∀ v d,G v d→okAt nb d=true:=fun v d hg=>by
    rcases (hG v d).1 hg with h | ⟨t,h,_⟩
    ·exact okAt_mono hlo (hcx.g v d h)
    ·exact okTmps_look hok h
   have hGrel:∀ v d,G v d→Rel I β v d:=fun v d hg=>by
    rcases (hG v d).1 hg with h | ⟨t,h,ht⟩
    ·exact hs.gh v d h
    ·obtain ⟨u,hu,hur⟩:=hs.tm t d trivial h
     rw [ht] at hu;cases hu;exact hur
   have hold:∀ B off,cx.old B→I1 B off=cx.I0 B off:=fun B off hB=>by
    have e:=hs.Iold B off hB
    cases hv:I1 B off with
    | some v=>rw [← e];exact (h1 B off v hv).symm
    | none =>
     cases hv':cx.I0 B off with
     | none=>rfl
     | some v=>rw [hI0 B off v hv'] at hv;cases hv
   have hfold:(Array.zip ps vs.toArray).foldl (fun tmps (t,a)=>tmps.setIfInBounds t a) a.tmps=(ps.toList.zip vs).foldl (fun tmps (p,v)=>tmps.setIfInBounds p v) a.tmps:=by
    rw [← Array.foldl_toList];simp
   have hfs:FS (cx.inRound X w I1 G nb) (arrP ps.toList x σ.tmps bs y) N { tmps:=(ps.toList.zip vs).foldl (fun tmps (p,v)=>tmps.setIfInBounds p v) a.tmps,defers:=[] } w:=by
    cases hrel with
    | plain _ _ hrel =>
     obtain ⟨hsz,htm⟩:=params_tmps (I:=I) (β:=β) ps.toList vs x σ.tmps a.tmps hrel.1 (fun p hp=>by rw [hs.sz];exact hps p hp)
      (fun j v d hv hd=>(hrel.2 j v d hv hd).of_plain (plainAll_get (yOK_plain hrel hxp) hd)) (fun t d ht=>hs.tm t d trivial ht)
     have hsim:=hs.toRound hcx (hdep.mono fun k hk=>.inl hk) hlw hSl h1 hI0 hX hGrel (nb:=nb) (hsz.trans hs.sz) htm
     rw [arrP_plain hrel]
     exact ⟨β,I,_,hsim,htot⟩
    | give R es clock ks us hR hclk hm hpk hpu ho hSR hI1 =>
     have hXR:¬ X R:=fun hx=>by
      rcases (hX R).1 hx with h | h | ⟨d,h,h'⟩
      ·exact h.2 (.inr rfl)
      ·rw [h,hlw] at hR;cases hR
      ·obtain ⟨R',e,h3,_⟩:=hs.marks d h (fun hD=>hcx.d _ hD _ h')
       rw [e] at h';cases h'
       rw [hR] at h3;cases h3
     have hsim:=hs.toRound hcx (hdep.mono fun k hk=>.inl hk) hlw hSl h1 hI0 hX hGrel (nb:=nb) (tm:=[]) (tmps:=a.tmps) hs.sz (fun t d ht=>by cases ht)
     have hlast:∀ j b,β j=some b→j<bs.length:=fun j b hb=>by
      obtain ⟨box,h3,_⟩:=hs.bx j b hb
      exact (List.getElem?_eq_some_iff.1 h3).1
     obtain ⟨had,hle⟩:=hsim.adopt hR hclk (hm.of_plain hpk hpu) (fun h=>hSR (hdep.lo R h)) (fun h=>h.elim (fun h=>hSR (hdep.ss R h)) hXR) (fun j b hb hbR=>hSR (hdep.bx j b R hb hbR)) (fun off=>by
         cases hv:I R off with
         | none=>rfl
         | some v=>exact (hSR (hdep.im R off v hv)).elim) (by
         cases hb:β bs.length with
         | none=>rfl
         | some b=>have:=hlast _ b hb;omega)
     obtain ⟨hsz,htm⟩:=params_tmps (I:=I) (β:=fun i=>if i=bs.length then some ⟨some R,true,0,0,0,0⟩ else β i) ps.toList [.map (some R)] [.mloc bs.length] σ.tmps a.tmps rfl (fun p hp=>by rw [hs.sz];exact hps p hp)
      (fun j v d hv hd=>by
       cases j with
       | zero=>cases hv;cases hd;exact .mloc _ ⟨some R,true,0,0,0,0⟩ R (by simp) rfl rfl
       | succ j=>simp at hv) (fun t d ht=>by
       obtain ⟨v,hv,hr⟩:=hs.tm t d trivial ht
       exact ⟨v,hv,hr.mono I.le_refl hle⟩)
     refine ⟨_,I,_,{ had with tm:=fun t d _ hl=>htm t d hl,sz:=hsz.trans hs.sz,bx:=had.bx,clear:=had.clear,j:=had.j,pres:=fun _ h=>h.elim,dn:=fun _ h=>h.elim,marks:=(fun d hd=>by cases hd),nd:=.nil },fun j hj=>?_⟩
     have hj:j<(bs++[Box.map false ks us]).length:=hj
     by_cases hjl:j=bs.length
     ·simp [hjl]
     ·simp only [hjl,if_false]
      exact htot j (by simp at hj;omega)
   rw [hfold]
   have hw:=hbody i x bs y hxi hinv
   rw [arrE_eq] at hw
   have hassign:=has nb _ _ (cx.inRound X w I1 G nb) (Fence.wide.inRound l') 0 _ w hw (.inr ⟨l',rfl⟩) (Cx.inRound_ok hcx hI0 hGok hlo) (Cx.inRound_round hXl hlw) (Cx.inRound_yield hy hI0 hold) (Nat.le_refl _) hfs
   refine wpIn_mono hassign ?_
   intro e a₁ w₃ hpost
   cases e with
   | normal =>
    obtain ⟨σ₁,hW1,β₁,I₁,Sx₁,hsim₁,htot₁⟩:=hpost
    have hk3:Keep X w w₃:=by obtain ⟨_,_,_,_,_,h5,_⟩:=hsim₁.j;exact h5
    have hlw3:=(hk3.block l' hXl).trans hlw
    refine ⟨_,run_beginRound hlw3 rfl,?_⟩
    have hsimB:=hsim₁.busy hcx hXl hl (.loop { state:=.busy,pending:=none,fn:=fn,tmps:=a.tmps,params:=ps,assign:=as,body:=c,defers:=Df })
    obtain ⟨w₄,hw₄⟩:∃ w₄,w₄=w₃.putObj l' (.loop { state:=.busy,pending:=none,fn:=fn,tmps:=a.tmps,params:=ps,assign:=as,body:=c,defers:=Df }):=⟨_,rfl⟩
    rw [← hw₄] at hsimB
    have hlw4:w₄.heap[l']?=some (.loop { state:=.busy,pending:=none,fn:=fn,tmps:=a.tmps,params:=ps,assign:=as,body:=c,defers:=Df }):=by rw [hw₄];exact World.putObj_heap_same (heap_lt hlw3)
    have hbodyW:=hcs nb _ _ (cx.inRound X w₄ I1 G nb) (Fence.wide.inRound l') 0 a₁ w₄ hW1 (.inr ⟨l',rfl⟩) (Cx.inRound_ok hcx hI0 hGok hlo) (Cx.inRound_round hXl hlw4) (Cx.inRound_yield hy hI0 hold) (Nat.le_refl _) ⟨β₁,I₁,Sx₁,hsimB,htot₁⟩
    rw [hw₄] at hbodyW
    refine wpIn_mono hbodyW ?_
    rw [← hw₄]
    have hk4:Keep (fun k=>k≠l') w₃ w₄:=by rw [hw₄];exact keep_put _ _ _
    -- how a round ends
    have fin:∀ (jump:Option Code) (σ₂:St) (a₂:Act) (w₅:World),FS (cx.inRound X w₄ I1 G nb) σ₂ N a₂ w₅ →
        ∃ w₆,(Instr.endRound l' jump).run P w₅=.ok (.bool jump.isNone) w₆ ∧
         Keep (fun k=>k<w.heap.size∧¬ S' k∧¬ Gv k) w w₆∧Agree I1 w₆∧(∀ B,((S' B∨Gv B)∨(w.heap.size≤B∧B<w₆.heap.size))→B<w₆.heap.size) ∧
         ∃ β₂ I₂ S₂,I1.le I₂∧Sim cx (fun _=>True) ⟨σ.tmps,σ₂.boxes,σ₂.y⟩ β₂ I₂ S₂ N a w₆∧(∀ i,i<σ₂.boxes.length→(β₂ i).isSome=true)∧¬ S₂ l' ∧
          Dep cx β₂ I₂ S₂ a (fun B=>(S' B∨Gv B)∨(w.heap.size≤B∧B<w₆.heap.size)) ∧
          w₆.heap[l']?=some (.loop { state:=(if jump.isNone then .ready else .done),pending:=jump,fn:=fn,tmps:=a.tmps,params:=ps,assign:=as,body:=c,defers:=Df }):=by
      intro jump σ₂ a₂ w₅ hfs₂
      obtain ⟨β₂,I₂,Sx₂,hsim₂,htot₂⟩:=hfs₂
      obtain ⟨S₂,hback,hSl₂,hSx,hSX,hk5⟩:=hsim₂.fromRound (a:=a) hcx hXl hl (.loop { state:=(if jump.isNone then .ready else .done),pending:=jump,fn:=fn,tmps:=a.tmps,params:=ps,assign:=as,body:=c,defers:=Df }) hI0 hold
       (fun v d hg=>(hG v d).2 (.inl hg)) (tm:=σ.tmps) hs.sz (fun t d ht=>by
        obtain ⟨v,hv,_⟩:=hs.tm t d trivial ht
        exact ⟨v,hv,(hG v d).2 (.inr ⟨t,ht,hv⟩)⟩)
       hs.nd hs.pres
       (fun d hd hD=>by
        obtain ⟨R,e,h7,h8,_⟩:=hs.marks d hd hD
        have hXR:X R:=(hX R).2 (.inr (.inr ⟨d,hd,by rw [e]⟩))
        have hRl:R≠l':=fun e'=>hmarkl d hd (by rw [e,e'])
        exact ⟨R,e,(hk4.block R hRl).trans ((hk3.block R hXR).trans h7),h8,hXR,hRl⟩)
      have hlw5:=(hk5.block l' hXl).trans hlw4
      have hend:=run_endRound (P:=P) jump hlw5
      obtain ⟨w₆,hw₆⟩:∃ w₆,w₆=w₅.putObj l' (.loop { state:=(if jump.isNone then .ready else .done),pending:=jump,fn:=fn,tmps:=a.tmps,params:=ps,assign:=as,body:=c,defers:=Df }):=⟨_,rfl⟩
      have hk6:Keep (fun k=>k≠l') w₅ w₆:=by rw [hw₆];exact keep_put _ _ _
      have hsize:w.heap.size≤w₆.heap.size:=Nat.le_trans hk3.size (Nat.le_trans hk4.size (Nat.le_trans hk5.size hk6.size))
      have hsize5:w₆.heap.size=w₅.heap.size:=by rw [hw₆];simp
      rw [← hw₆] at hback
      have hXn:∀ {k},k<w.heap.size→¬ X k→(S' k∨Gv k):=fun {k} h7 h8=>Classical.byContradiction fun h9=>h8 ((hX k).2 (.inl ⟨h7,h9⟩))
      have hin:∀ {k},k<w₆.heap.size→¬ X k→((S' k∨Gv k)∨(w.heap.size≤k∧k<w₆.heap.size)):=fun {k} h7 h8=>by
       rcases Nat.lt_or_ge k w.heap.size with h9 | h9
       ·exact .inl (hXn h9 h8)
       ·exact .inr ⟨h9,h7⟩
      refine ⟨w₆,by rw [hw₆];exact hend,?_,fun B off v hv=>hback.agree B off v (hsim₂.I0 B off v hv),?_,β₂,I₂,S₂,hsim₂.I0,hback,htot₂,hSl₂,?_,by rw [hw₆];exact World.putObj_heap_same (heap_lt hlw5)⟩
      ·have hXk:∀ k,(k<w.heap.size∧¬ S' k∧¬ Gv k)→X k∧k≠l':=fun k hk=>⟨(hX k).2 (.inl ⟨hk.1,fun h=>h.elim hk.2.1 hk.2.2⟩),fun e=>hk.2.1 (e ▸ hS'l)⟩
       exact (((hk3.mono fun k hk=>(hXk k hk).1).trans (hk4.mono fun k hk=>(hXk k hk).2)).trans (hk5.mono fun k hk=>(hXk k hk).1)).trans (hk6.mono fun k hk=>(hXk k hk).2)
      ·rintro B ((hB | hB) | hB)
       ·exact Nat.lt_of_lt_of_le (hS' B hB) hsize
       ·exact Nat.lt_of_lt_of_le (hGlt B hB) hsize
       ·exact hB.2
      ·refine { lo:=fun k hk=>.inl (.inl (hdep.lo k hk)),im:=fun B off v hv=>?_,bx:=fun j b R hb hR=>?_,ss:=fun k hk=>?_,mks:=fun d hd R hR=>.inl (.inl (hdep.mks d hd R hR)) }
       ·have hlt:=cell_lt (hback.agree B off v hv)
        by_cases hB:cx.old B
        ·exact .inl (.inl (hdep.lo B hB))
        ·exact hin hlt fun hx=>hsim₂.sI B off v hv hB ((hSx B).2 (.inr hx))
       ·obtain ⟨_,_,h7⟩:=hback.bx j b hb
        obtain ⟨_,_,h8⟩:=h7.lt hR
        exact hin (heap_lt h8) fun hx=>(hsim₂.own j b R hb hR).2 ((hSx R).2 (.inr hx))
       ·exact hin (hback.sb k hk) fun hx=>hSX k hk hx
    intro e a₂ w₅ hpost
    cases e with
    | normal =>
     obtain ⟨σ₂,⟨hokb,hinv'⟩,hfs₂⟩:=hpost
     obtain ⟨w₆,hend,hkeep,hag',hS6,β₂,I₂,S₂,hI,hsim₂,htot₂,hSl₂,hdep₂,hl₆⟩:=fin none σ₂ a₂ w₅ hfs₂
     have hi1:i+1≤xs.length:=(List.getElem?_eq_some_iff.1 hxi).1
     refine ⟨_,w₆,hend,true,_,rfl,?_,hkeep,fun B hB=>hB.elim (fun h=>h.elim .inl fun h=>.inr (.inr h)) fun h=>.inr (.inl h.1),hS6,hag',trivial⟩
     refine ⟨σ₂.boxes.take nb,σ₂.y,cutB nb β₂,I₂,S₂,.ready,none,hI,hsim₂.cut (σ:=⟨σ.tmps,σ₂.boxes,σ₂.y⟩) hcx hlo (fun t d _ ht=>?_) hokb,?_,hSl₂,?_,.inl (.inl hS'l),hl₆,.inl ⟨i+1,by simp only;rw [hr],hi1,hinv',rfl,rfl⟩⟩
     ·obtain ⟨v,hv,hvr⟩:=hsim₂.tm t d trivial ht
      exact ⟨v,hv,hvr.lowB nb (okTmps_look hok ht)⟩
     ·intro j hj
      rw [List.length_take] at hj
      unfold cutB
      rw [if_pos (by omega)]
      exact htot₂ j (by omega)
     ·refine ⟨hdep₂.lo,hdep₂.im,fun j b R hb hR=>?_,hdep₂.ss,hdep₂.mks⟩
      unfold cutB at hb
      split at hb
      ·exact hdep₂.bx j b R hb hR
      ·cases hb
    | exit id =>
     obtain ⟨σ₂,hq,hfs₂⟩:=hpost
     obtain ⟨w₆,hend,hkeep,hag',hS6,β₂,I₂,S₂,hI,hsim₂,htot₂,hSl₂,hdep₂,hl₆⟩:=fin (some (.exit id)) σ₂ a₂ w₅ hfs₂
     exact ⟨_,w₆,hend,false,_,rfl,⟨σ₂.boxes,σ₂.y,β₂,I₂,S₂,.done,some (.exit id),hI,hsim₂,htot₂,hSl₂,hdep₂,.inl (.inl hS'l),hl₆,.inr ⟨rfl,rfl,_,rfl,.inr ⟨id,rfl,hq⟩⟩⟩,hkeep,fun B hB=>hB.elim (fun h=>h.elim .inl fun h=>.inr (.inr h)) fun h=>.inr (.inl h.1),hS6,hag',trivial⟩
    | ret =>
     obtain ⟨σ₂,hq,hfs₂⟩:=hpost
     obtain ⟨w₆,hend,hkeep,hag',hS6,β₂,I₂,S₂,hI,hsim₂,htot₂,hSl₂,hdep₂,hl₆⟩:=fin (some .ret) σ₂ a₂ w₅ hfs₂
     exact ⟨_,w₆,hend,false,_,rfl,⟨σ₂.boxes,σ₂.y,β₂,I₂,S₂,.done,some .ret,hI,hsim₂,htot₂,hSl₂,hdep₂,.inl (.inl hS'l),hl₆,.inr ⟨rfl,rfl,_,rfl,.inl ⟨rfl,hq⟩⟩⟩,hkeep,fun B hB=>hB.elim (fun h=>h.elim .inl fun h=>.inr (.inr h)) fun h=>.inr (.inl h.1),hS6,hag',trivial⟩
    | goto t=>exact hpost.elim
    | panic ch=>obtain ⟨_,_,_,h,_⟩:=hpost;exact h.elim
    | outgrown=>exact hpost.elim
   | exit id=>obtain ⟨_,h,_⟩:=hpost;exact h.elim
   | ret=>obtain ⟨_,h,_⟩:=hpost;exact h.elim
   | goto t=>exact hpost.elim
   | panic ch=>obtain ⟨_,_,_,h,_⟩:=hpost;exact h.elim
   | outgrown=>exact hpost.elim
  ·cases hyy

end
end Go.V

namespace Go.V
open Go.RowKit

theorem posN_at:∀ {p:List Nat} {j k:Nat},distinctB p=true→p[k]?=some j→posN p j=k
 | [],_,_,_,h=>by cases h
 | i::r,j,k,h,hk=>by
  simp only [distinctB] at h
  cases hc:r.contains i with
  | true=>rw [hc] at h;cases h
  | false =>
   rw [hc] at h
   cases k with
   | zero=>simp at hk;subst hk;simp [posN]
   | succ k =>
    simp at hk
    have hne:Nat.beq i j=false:=Bool.eq_false_iff.2 fun hh=>by
     rw [Nat.eq_of_beq_eq_true hh,List.contains_iff_mem.2 (List.mem_of_getElem? hk)] at hc;cases hc
    simp only [posN,hne]
    rw [posN_at h hk]

theorem posN_get:∀ {p:List Nat} {j:Nat},j∈p→p[posN p j]?=some j
 | [],_,h=>by cases h
 | i::r,j,h=>by
  simp only [posN]
  cases hb:Nat.beq i j with
  | true=>simp [Nat.eq_of_beq_eq_true hb]
  | false =>
   rcases List.mem_cons.1 h with rfl | h
   ·simp at hb
   ·simpa using posN_get h

theorem posN_lt {p:List Nat} {j:Nat} (h:j∈p):posN p j<p.length:=(List.getElem?_eq_some_iff.1 (posN_get h)).1

theorem posN_out:∀ {p:List Nat} {j:Nat},j ∉ p→posN p j=p.length
 | [],_,_=>rfl
 | i::r,j,h=>by
  simp only [posN]
  have hb:Nat.beq i j=false:=Bool.eq_false_iff.2 fun hh=>h (by rw [Nat.eq_of_beq_eq_true hh];exact List.mem_cons_self)
  rw [hb]
  simp only [List.length_cons]
  rw [posN_out fun hm=>h (List.mem_cons_of_mem _ hm)]

structure PermOK (ops ops':Array Oper) (f:Nat→Nat):Prop where
 size:ops'.size=ops.size
 lt:∀ i,i<ops.size→f i<ops.size
 out:∀ i,ops.size≤i→f i=ops.size
 inj:∀ i j,i<ops.size→j<ops.size→f i=f j→i=j
 onto:∀ k,k<ops.size→∃ i,i<ops.size∧f i=k
 get:∀ (i:Nat) (o:Oper),ops[i]?=some o→ops'[f i]?=some (renOp f o)

theorem permOK_spec {ops:Array Oper} {p:List Nat} (h:permOK ops.toList.length p=true):PermOK ops (permL ops.toList p).toArray (posN p):=by
 unfold permOK at h
 simp only [Bool.and_eq_true] at h
 obtain ⟨hl,hd,ha,hb⟩:=h
 have hl:=Nat.eq_of_beq_eq_true hl
 have hl:p.length=ops.size:=by simpa using hl
 have hlt:∀ j,j∈p→j<ops.size:=fun j hj=>by
  have:=List.all_eq_true.1 ha j hj
  simpa [Nat.blt_eq] using this
 have hmem:∀ i,i<ops.size→i∈p:=by
  intro i hi
  exact List.contains_iff_mem.1 (List.all_eq_true.1 hb i (List.mem_range.2 (by simpa using hi)))
 refine ⟨by simp [permL,hl],fun i hi=>by rw [← hl];exact posN_lt (hmem i hi),fun i hi=>by rw [← hl];exact posN_out fun hm=>by have:=hlt i hm;omega,?_,?_,?_⟩
 ·intro i j hi hj e
  have h1:=posN_get (hmem i hi)
  have h2:=posN_get (hmem j hj)
  rw [e,h2] at h1
  exact (Option.some.inj h1).symm
 ·intro k hk
  have hk':k<p.length:=by omega
  exact ⟨p[k],hlt _ (List.getElem_mem hk'),posN_at hd (List.getElem?_eq_getElem hk')⟩
 ·intro i o ho
  have hi:=(Array.getElem?_eq_some_iff.1 ho).1
  simp only [permL,List.getElem?_toArray,List.getElem?_map,posN_get (hmem i hi),Option.map_some]
  have:ops.toList[i]?=some o:=by simpa using ho
  rw [List.getD_eq_getElem?_getD,this]
  rfl

section
variable {P:Program} {F:Fence} {n:Nat} {Q:Exit→Act→World→Prop} {ops ops':Array Oper} {f:Nat→Nat}

theorem PermOK.yielded (h:PermOK ops ops' f) (tmps:Array Value) (j:Nat):yielded ops' tmps (f j)=yielded ops tmps j:=by
 unfold Go.yielded
 rcases Nat.lt_or_ge j ops.size with hj | hj
 ·have ho:ops[j]?=some ops[j]:=Array.getElem?_eq_getElem hj
  rw [h.get j _ ho,ho]
  rfl
 ·have e1:ops'[f j]?=none:=by rw [Array.getElem?_eq_none_iff,h.size,h.out j hj];exact Nat.le_refl _
  have e2:ops[j]?=none:=Array.getElem?_eq_none hj
  rw [e1,e2]

theorem PermOK.wanted (h:PermOK ops ops' f) (o:Oper) (tmps:Array Value):Region.wanted (renOp f o) (Go.yielded ops' tmps)=Region.wanted o (Go.yielded ops tmps):=by
 unfold Region.wanted renOp
 cases hg:o.guard with
 | none=>rfl
 | some x=>simp only;rw [h.yielded]


theorem PermOK.opIn (h:PermOK ops ops' f) {i:Nat} (hi:i<ops.size) {K:Act→World→Prop} {a:Act} {w:World}:wpOpIn F n P ops' Q (f i) K a w=wpOpIn F n P ops Q i K a w:=by
 have ho:ops[i]?=some ops[i]:=Array.getElem?_eq_getElem hi
 unfold wpOpIn
 simp only [h.get i _ ho,ho,h.wanted]
 rfl

theorem PermOK.ready (h:PermOK ops ops' f) {listed listed':Array Bool} (hl:∀ i,i<ops.size→∀ d,listed'.getD (f i) d=listed.getD i d) (hs:listed.size=ops.size) (hs':listed'.size=ops.size) {i:Nat} (hi:i<ops.size) :
    f i∈Region.ready .any ops' listed'↔i∈Region.ready .any ops listed:=by
  have hall:∀ j d,listed'.getD (f j) d=listed.getD j d:=fun j d=>by
   rcases Nat.lt_or_ge j ops.size with hj | hj
   ·exact hl j hj d
   ·rw [h.out j hj]
    have e1:listed'.getD ops.size d=d:=by simp [Array.getD,hs']
    have e2:listed.getD j d=d:=by simp [Array.getD,show ¬ j<listed.size by omega]
    rw [e1,e2]
  rw [mem_ready,mem_ready,hall]
  have ho:ops[i]?=some ops[i]:=Array.getElem?_eq_getElem hi
  rw [h.get i _ ho,ho]
  constructor
  ·rintro ⟨h0,o,ho',h1⟩
   cases ho'
   refine ⟨h0,_,rfl,fun e he hb=>?_⟩
   have:=h1 (renEd f e) (by simp only [renOp,List.mem_toArray];exact List.mem_map.2 ⟨e,by simpa using he,rfl⟩) hb
   rwa [show (renEd f e).on=f e.on from rfl,hall] at this
  ·rintro ⟨h0,o,ho',h1⟩
   cases ho'
   refine ⟨h0,_,rfl,fun e he hb=>?_⟩
   simp only [renOp,List.mem_toArray,List.mem_map] at he
   obtain ⟨e',he',rfl⟩:=he
   have he':e'∈(ops[i]).after:=by simpa using he'
   show listed'.getD (f e'.on) false=true
   rw [hall]
   exact h1 e' he' hb

theorem PermOK.any (h:PermOK ops ops' f):∀ (fuel:Nat) (listed listed':Array Bool) (a:Act) (w:World),(∀ i,i<ops.size→∀ d,listed'.getD (f i) d=listed.getD i d)→listed.size=ops.size→listed'.size=ops.size →
    wpAnyIn F n P .any ops' Q fuel listed' a w→wpAnyIn F n P .any ops Q fuel listed a w:=by
  have hnil:∀ {listed listed':Array Bool},(∀ i,i<ops.size→∀ d,listed'.getD (f i) d=listed.getD i d)→listed.size=ops.size→listed'.size=ops.size→(Region.ready .any ops' listed'=[]↔Region.ready .any ops listed=[]):=by
   intro listed listed' hl hs hs'
   constructor
   ·intro h0
    cases hr:Region.ready .any ops listed with
    | nil=>rfl
    | cons x r =>
     have hx:x∈Region.ready .any ops listed:=by rw [hr];simp
     obtain ⟨_,o,ho,_⟩:=mem_ready.1 hx
     have:=(h.ready hl hs hs' (Array.getElem?_eq_some_iff.1 ho).1).2 hx
     rw [h0] at this;cases this
   ·intro h0
    cases hr:Region.ready .any ops' listed' with
    | nil=>rfl
    | cons x r =>
     have hx:x∈Region.ready .any ops' listed':=by rw [hr];simp
     obtain ⟨_,o,ho,_⟩:=mem_ready.1 hx
     obtain ⟨i,hi,rfl⟩:=h.onto x (by rw [← h.size];exact (Array.getElem?_eq_some_iff.1 ho).1)
     have:=(h.ready hl hs hs' hi).1 hx
     rw [h0] at this;cases this
  intro fuel
  induction fuel with
  | zero =>
   intro listed listed' a w hl hs hs' hw
   exact ⟨(hnil hl hs hs').1 hw.1,hw.2⟩
  | succ fuel ih =>
   intro listed listed' a w hl hs hs' hw
   refine ⟨fun h0=>hw.1 ((hnil hl hs hs').2 h0),fun i hi=>?_⟩
   obtain ⟨_,o,ho,_⟩:=mem_ready.1 hi
   have hin:=(Array.getElem?_eq_some_iff.1 ho).1
   have h1:=hw.2 (f i) ((h.ready hl hs hs' hin).2 hi)
   rw [h.opIn hin] at h1
   refine wpOpIn_mono (fun a w hk=>?_) h1
   refine ih _ _ a w (fun j hj d=>?_) (by simpa using hs) (by simpa using hs') hk
   by_cases hji:j=i
   ·subst hji
    have h2:f j<listed'.size:=by rw [hs'];exact h.lt j hj
    have h3:j<listed.size:=by omega
    simp [Array.getD,h2,h3]
   ·have hne:f i≠f j:=fun e=>hji (h.inj j i hj hin e.symm)
    rw [getD_set_ne d hne,getD_set_ne d (Ne.symm hji)]
    exact hl j hj d

end

section
variable {P:Program} [Glb] {sh:Kinds} {ish:Nat→Bool} {T:Nat→Option TI} {cx:Cx} {σ:St} {N:Nat} {a:Act} {w:World} {ops:Array Oper}

theorem region_sound4 {lo:Nat} (hlo:cx.lo≤lo) (hT:TOK P T) (hmix:P.follows .mixedOrders=true) {F:Fence} (hF:FW F) (hcx:cx.Ok) (hy:YieldOK P cx) (hdst:∀ o∈ops.toList,∀ t,o.dst=some t→t<N) (hs:FS cx σ N a w) {n id:Nat} {dr:Bool} {K:St→Prop} {Q:Exit→Act→World→Prop}
    (hQ:∀ σ' a' w',K σ'→FS cx σ' N a' w'→Q .normal a' w')
    (hk:match dr with
     | false=>runOps T (CD P sh) (noFb lo) ops.toList ops.toList 0 σ K
     | true=>(okDraw ops.toList=true∧runOps T (CD P sh) drFb ops.toList ops.toList 0 σ K) ∨
      ((∃ (m:Nat) (late:List Nat),okLate ops.toList m late=true∧runOps T (CD P sh) stFb ops.toList (ops.toList.take m) 0 σ fun τ=>runTail T (CD P sh) ops.toList σ.boxes.length late m (lowL m late) (ops.toList.drop m) τ K) ∨
      ((∃ (p:List Nat) (m:Nat) (late:List Nat),(permOK ops.toList.length p && okLate (permL ops.toList p) m late)=true∧runOps T (CD P sh) stFb (permL ops.toList p) ((permL ops.toList p).take m) 0 σ fun τ=>runTail T (CD P sh) (permL ops.toList p) σ.boxes.length late m (lowL m late) ((permL ops.toList p).drop m) τ K) ∨
      (∃ m:Nat,okDrawM ops.toList m=true∧runOps T (CD P sh) drFb ops.toList (ops.toList.take m) 0 σ fun τ=>runOps T (CD P sh) tlFb ops.toList (ops.toList.drop m) m τ K)))):(Code.region id ops dr).wpIn F n P Q a w:=by
  cases dr with
  | false=>exact region_sound2 (dr:=false) hlo hT hmix hF hcx hy hdst hs hQ hk
  | true =>
   simp only at hk
   rcases hk with hk | hk | ⟨p,m,late,hl,hk⟩ | ⟨m,hm,hk⟩
   ·exact region_sound2 (dr:=true) hlo hT hmix hF hcx hy hdst hs hQ (.inl hk)
   ·exact region_sound2 (dr:=true) hlo hT hmix hF hcx hy hdst hs hQ (.inr hk)
   ·rw [Bool.and_eq_true] at hl
    have hp:=permOK_spec hl.1
    refine wpIn_region_any hmix ?_
    have hd:∀ o∈(permL ops.toList p).toArray.toList,∀ t,o.dst=some t→t<N:=fun o ho t ht=>by
     obtain ⟨k,hk'⟩:=List.mem_iff_getElem?.1 ho
     have hk':(permL ops.toList p).toArray[k]?=some o:=by simpa using hk'
     obtain ⟨i,hi,rfl⟩:=hp.onto k (by rw [← hp.size];exact (Array.getElem?_eq_some_iff.1 hk').1)
     have hio:ops[i]?=some ops[i]:=Array.getElem?_eq_getElem hi
     rw [hp.get i _ hio] at hk'
     cases hk'
     exact hdst ops[i] (by simp) t ht
    have main:=region_any2 (n:=n) (ops:=(permL ops.toList p).toArray) hT hF hcx hd hs hQ m late hl.2 hk
    rw [hp.size] at main
    exact hp.any ops.size _ _ a _ (fun i hi d=>by simp [Array.getD,hi,hp.lt i hi]) (by simp) (by simp) main
   ·exact region_sound3 hT hmix hF hcx hy hdst hs hQ hm hk

end
end Go.V

namespace Go.V
open Go.RowKit

section
variable {P:Program} [Glb] {sh:Kinds} {ish:Nat→Bool} {T:Nat→Option TI} {cx:Cx} {σ:St} {N:Nat} {a:Act} {w:World} {ops:Array Oper}


omit [Glb] in
theorem FS.putFree (hs:FS cx σ N a w) {dst:Option Nat} (hd:∀ t,dst=some t→look σ.tmps t=none) (v:Value):FS cx σ N (a.put dst v) w:=by
 obtain ⟨β,I,S,h,ht⟩:=hs
 cases dst with
 | none=>exact ⟨β,I,S,h,ht⟩
 | some u =>
  refine ⟨β,I,S,{ h with tm:=fun t d hV hl=>?_,sz:=by simp [Act.put,h.sz],marks:=h.marks,pres:=h.pres,nd:=h.nd },ht⟩
  obtain ⟨x,hx,hr⟩:=h.tm t d hV hl
  have hne:u≠t:=fun e=>by rw [e] at hd;rw [hd t rfl] at hl;cases hl
  refine ⟨x,?_,hr⟩
  show (a.tmps.setIfInBounds u v)[t]?=some x
  rw [Array.getElem?_setIfInBounds_ne hne]
  exact hx

theorem panE_sound {F:Fence} (hF:FW F) (hcx:cx.Ok) (hs:FS cx σ N a w) {o:Oper} {Q:Ex→St→Prop} {n i:Nat} (ho:ops[i]?=some o) (h:panE (CD P sh) σ o Q):wpOpsIn F n P ops (PostE cx N Q) [i] a w:=by
 unfold panE at h
 obtain ⟨β,I,S,hsim,ht⟩:=hs
 cases hg:o.guard with
 | some g=>rw [hg] at h;exact h.elim
 | none =>
  rw [hg] at h
  cases hop:o.op with
  | call c =>
   rw [hop] at h
   simp only at h
   cases hc:c.callee with
   | value f =>
    rw [hc] at h
    simp only at h
    split at h
    ·rename_i fk fs cs as hf has
     obtain ⟨rs,hrs,v,⟨hent,hpan⟩,hv⟩:=h
     obtain ⟨vs,us,hve,h1,h2⟩:=(hsim.ev (x:=f) (fun t e=>trivial) hf).clo_inv
     have h3:=hsim.evL (fun x t hx e=>trivial) has
     have hrl:=h1.append (h3.append h2)
     have hrel:=reifyL_sound hsim.agree hsim.bx hrl hrs
     have hcall:=hpan w _ _ (plusB_agree hsim.agree _ β) (Imm.le_trans (Imm.le_trans hcx.gl hsim.I0) (plusB_le hsim.agree _ _)) hrel
     have hrun:=run_callValue (P:=P) (w:=w) hop hc hve hent
     have earr:(vs++c.args.map a.eval)++us=(vs.toList++(c.args.toList.map a.eval++us.toList)).toArray:=by
      apply Array.toList_inj.1;simp
     rw [earr] at hrun
     simp only [wpOpsIn,ho]
     rw [if_pos (by simp [Region.wanted,hg])]
     refine ⟨fun f _=>hF.fn f,?_⟩
     rw [Oper.semAt_eq _ _ _ (by rw [hop];simp),hrun]
     refine ⟨fun hh=>absurd hh (by rw [hF.depth];simp),(hF.calls hcall).mono ?_⟩
     rintro e w' ⟨hk,he⟩
     have hs':FS cx σ N a w':=⟨β,I,S,hsim.keep hcx hk,ht⟩
     cases v with
     | none =>
      obtain ⟨v,rfl⟩:=he
      exact ⟨σ,hv.2,hs'.putFree hv.1 v⟩
     | some v =>
      have he:e=.panicked [{ v,recovered:=false }]:=he
      subst he
      exact ⟨_,v,rfl,hv,hs'⟩
    ·exact h.elim
   | _=>rw [hc] at h;exact h.elim
  | _=>rw [hop] at h;exact h.elim

theorem pan_sound {lo:Nat} (hlo:cx.lo≤lo) (hT:TOK P T) {F:Fence} (hF:FW F) (hcx:cx.Ok) (hy:YieldOK P cx) (hdst:∀ o∈ops.toList,∀ t,o.dst=some t→t<N) (hs:FS cx σ N a w) {n id:Nat} {Q:Ex→St→Prop}
    (hk:panW T (CD P sh) (fun l σ K=>runOps T (CD P sh) (noFb lo) ops.toList l 0 σ K) ops.toList σ Q):(Code.region id ops false).wpIn F n P (PostE cx N Q) a w:=by
  have gen:∀ (pre:List Oper) (o:Oper),ops.toList=pre++[o]→(runOps T (CD P sh) (noFb lo) ops.toList pre 0 σ fun τ=>panE (CD P sh) τ o Q)→wpOpsIn F n P ops (PostE cx N Q) (List.range ops.size) a w:=by
   intro pre o he hk
   have hsz:ops.size=pre.length+1:=by rw [← Array.length_toList,he];simp
   have:=runOps_pre hT hF hcx hy hdst (noFb_lo hlo) (n:=n) (Q:=PostE cx N Q) (tl:=[pre.length]) (K:=fun τ=>panE (CD P sh) τ o Q) (fun σ' a' w' hK hfs=>panE_sound hF hcx hfs (by
    have:ops.toList[pre.length]?=some o:=by rw [he];simp
    simpa using this) hK) pre 0 σ a w (fun j o' hj=>by
    have:ops.toList[j]?=some o':=by rw [he,List.getElem?_append_left (List.getElem?_eq_some_iff.1 hj).1];exact hj
    simpa using this) hs hk
   rw [hsz,List.range_succ,List.range_eq_range']
   exact this
  refine wpIn_region ?_
  unfold panW at hk
  split at hk
  ·rename_i o1 o2 he
   split at hk
   ·rename_i t k m u u' e1 e2 e3 e4 e5
    obtain ⟨rfl,⟨ti,kd,hti,hdesc⟩,hq⟩:=hk
    have hsz:ops.size=2:=by rw [← Array.length_toList,he];rfl
    have h0 : ops[0]? = some o1 := by have : ops.toList[0]? = some o1 := by rw [he]; rfl
                                      simpa using this
    have h1 : ops[1]? = some o2 := by have : ops.toList[1]? = some o2 := by rw [he]; rfl
                                      simpa using this
    have hund:P.underlying t=some (.int kd):=by rw [(hT t ti hti).desc,hdesc]
    have hr1:(execOp a.eval o1).run P w=.ok (.value (.iface t (.int k m))) w:=by
     unfold execOp
     simp only [e1]
     simp only [Instr.makeInterface,Sem.run_bind,run_underlying hund,Result.andThen_ok,Act.eval,Sem.run_pure]
    have hu:u<N:=hdst o1 (by rw [he];simp) u e5
    have hsz2:u<a.tmps.size:=by obtain ⟨β,I,S,h,_⟩:=hs;rw [h.sz];exact hu
    have hr2:∀ a':Act,a'.eval (.tmp u)=.iface t (.int k m)→(execOp a'.eval o2).run P w=.halt (.panic (.iface t (.int k m))) w:=by
     intro a' ha
     unfold execOp
     simp only [e2]
     have hp:(Instr.panic (a'.eval (.tmp u))).run P w=.halt (.panic (.iface t (.int k m))) w:=by rw [ha];simp [go_sem,Instr.panic]
     simp only [Sem.run_bind,hp]
     rfl
    rw [hsz]
    show wpOpsIn F n P ops (PostE cx N Q) [0,1] a w
    simp only [wpOpsIn,h0,h1]
    rw [if_pos (by simp [Region.wanted,e3])]
    refine wp_value hF (by rw [e1];simp) hr1 ?_
    rw [if_pos (by simp [Region.wanted,e4])]
    refine ⟨fun f _=>hF.fn f,?_⟩
    rw [Oper.semAt_eq _ _ _ (by rw [e2];simp),hr2 _ (by rw [e5];simp [Act.eval,Act.put,hsz2])]
    refine ⟨_,_,rfl,hq,?_⟩
    rw [e5]
    refine FS.putFree (σ:=⟨dropT u σ.tmps,σ.boxes,σ.y⟩) ?_ (fun t e=>?_) _
    ·obtain ⟨β,I,S,h,ht⟩:=hs
     exact ⟨β,I,S,{ h with tm:=fun t d hV hl=>h.tm t d hV (dropT_look hl).2,bx:=h.bx,clear:=h.clear,j:=h.j },ht⟩
    ·cases e
     cases hl:look (dropT u σ.tmps) u with
     | none=>rfl
     | some d=>exact absurd rfl (dropT_look hl).1
   ·exact gen [o1] o2 he hk
  ·rename_i l hne
   by_cases he:ops.toList=[]
   ·rw [he] at hk
    exact (show False from hk).elim
   ·have e:=List.dropLast_concat_getLast he
    rw [List.getLast?_eq_some_getLast he] at hk
    exact gen _ _ e.symm hk

end
end Go.V

namespace Go.V
open Go.RowKit

section
variable {P:Program} [Glb] {sh:Kinds} {ish:Nat→Bool} {T:Nat→Option TI} {cx:Cx} {V:Nat→Prop} {σ:St} {β:BE} {I:Imm} {S:Nat→Prop} {N:Nat} {a:Act} {w:World}

theorem rangeX_sound {f:Operand} {ps:Array Tmp} {as c:Code} (has:Snd P sh ish T N as) (hcs:Snd P sh ish T N c) (hps:∀ p∈ps.toList,p<N) {lo kf:Nat} {cs:List D} {Q:Ex→St→Prop} {F:Fence} {n:Nat}
    (hW:rangeX (ItD P ish) kf cs ps.toList lo σ Q (fun lo σ Q=>W T (CD P sh) (ItD P ish) lo as σ Q) (fun lo σ Q=>W T (CD P sh) (ItD P ish) lo c σ Q)) (hf:σ.ev f=some (.clo (.func kf) [] cs)) (hF:FW F) (hcx:cx.Ok) (hR:RoundOK F cx) (hy:YieldOK P cx) (hlo:cx.lo≤lo)
    (hs:Sim cx (fun _=>True) σ β I S N a w) (htot:∀ i,i<σ.boxes.length→(β i).isSome=true):(Code.rangeFunc f ps as c).wpIn F n P (PostE cx N Q) a w:=by
  obtain ⟨m,caps',bsX,rfl,hbsX,hfzX,xs,hit,keep,nb,vecs,Inv,hnbm,hnb,hgood,hinv0,hbody,hplain,hdone⟩:=hW
  obtain ⟨hok,hbx⟩:=hgood
  have hnbm:=Nat.le_of_ble_eq_true hnbm
  have hlo':cx.lo≤nb:=Nat.le_trans hlo (Nat.le_of_ble_eq_true hnb)
  obtain ⟨vs,us,hv,h1,h2⟩:=(hs.ev (x:=f) (fun t e=>trivial) hf).clo_inv
  have hvs:vs=#[]:=by have:=h1.nil_inv;exact Array.toList_inj.1 (by simpa using this)
  subst hvs
  refine wpIn_rangeFunc fun fn hfn=>?_
  obtain ⟨l,mark,w1,Df,hen,hk1,hlw,hl1,hmnd,hmark⟩:=enter_loop (P:=P) (fun l hl=>hR l _ _ _ hl hs.j) fn a.tmps ps as c
  have hs1:Sim cx (fun _=>True) σ β I S N { a with defers:=mark++a.defers } w1:={ hs.keep hcx hk1 with
   nd:=List.pairwise_append.2 ⟨hmnd,hs.nd,fun d hd d' hd' e=>by
    obtain ⟨R,e1,_,h4⟩:=hmark d hd
    obtain ⟨R',e2,h5,_⟩:=hs.marks d' hd' (fun hD=>hcx.d _ hD R (by rw [← e,e1]))
    rw [e1,e2] at e
    cases e
    have:=heap_lt h5
    omega⟩
   pres:=fun d hd=>List.mem_append_right _ (hs.pres d hd)
   marks:=fun d hd hD=>by
    rcases List.mem_append.1 hd with hd | hd
    ·obtain ⟨R,e,h3,h4⟩:=hmark d hd
     exact ⟨R,e,h3,fun ho=>by have:=hs.n0 R ho;omega,fun hS=>by have:=hs.sb R hS;omega⟩
    ·exact (hs.keep hcx hk1).marks d hd hD }
  have hs3:=hs1.cut (nb:=nb) hcx hlo' (tm:=(σ.clean keep nb).tmps) (fun t d _ ht=>by
   obtain ⟨v,hv,hr⟩:=hs1.tm t d trivial (keepT_look ht)
   exact ⟨v,hv,hr.lowB nb (okTmps_look hok ht)⟩) hbx
  obtain ⟨β3, hs3', ht3, hR3⟩ := hs3.vecR hcx (cellsPl vecs) (fun i hi => by
        have hi:i<(σ.boxes.take nb).length:=hi
        rw [List.length_take] at hi
        unfold cutB
        rw [if_pos (by omega)]
        exact htot i (by omega))
  have hvc:=vec_cells vecs (σ.clean keep nb)
  have hve:St.vec (σ.clean keep nb) (cellsPl vecs)=⟨(σ.clean keep nb).tmps,(St.vec (σ.clean keep nb) (cellsPl vecs)).boxes,σ.y⟩:=by
   revert hvc
   generalize St.vec (σ.clean keep nb) (cellsPl vecs)=τ
   rintro ⟨h1,h2⟩
   cases τ
   simp only at h1 h2
   rw [h1,h2]
   rfl
  have hs3':Sim cx (fun _=>True) (St.vec (σ.clean keep nb) (cellsPl vecs)) β3 I S N { a with defers:=mark++a.defers } w1:=hs3'
  rw [hve] at hs3'
  have ht3:∀ i,i<(St.vec (σ.clean keep nb) (cellsPl vecs)).boxes.length→(β3 i).isSome=true:=ht3
  have hSl:¬ S l:=fun h=>by have:=hs.sb l h;omega
  have hnl:¬ cx.old l:=fun ho=>by have:=hs.n0 l ho;omega
  -- the iterator's own blocks
  obtain ⟨Xs,hXs⟩:∃ Xs:Nat→Prop,Xs=fun R=>∃ i b,β (i+m)=some b∧b.R=some R:=⟨_,rfl⟩
  have hXs:∀ R,Xs R↔∃ i b,β (i+m)=some b∧b.R=some R:=fun R=>by rw [hXs]
  have hgetX:∀ i:Nat,σ.boxes[i+m]?=(bsX[i]?).map (Box.ren fun i=>i+m):=fun i=>by
   rw [← List.getElem?_map,hbsX,List.getElem?_drop,Nat.add_comm]
  have hclearX:∀ {R off v},Xs R→I R off=some v→False:=fun {R off v} hx hv=>by
   obtain ⟨i,b,hb,hR⟩:=(hXs R).1 hx
   obtain ⟨box,h3,_⟩:=hs1.bx _ b hb
   have h4:=hgetX i
   rw [h3] at h4
   cases h5:bsX[i]? with
   | none=>rw [h5] at h4;cases h4
   | some b0 =>
    rw [h5] at h4
    cases h4
    rw [hs1.clear _ b R _ hb hR h3 (by rw [Box.ren_fz];exact noFz_mem hfzX b0 (List.mem_of_getElem? h5)) off] at hv
    cases hv
  have hheapX:∀ {R},Xs R→∃ o,w1.heap[R]?=some o∧(∀ r,o≠.loop r)∧∀ r,o≠.deferred r:=fun {R} hx=>by
   obtain ⟨i,b,hb,hR⟩:=(hXs R).1 hx
   obtain ⟨box,_,h3⟩:=hs1.bx _ b hb
   obtain ⟨_,hmem,hh⟩:=h3.lt hR
   exact ⟨_,hh,fun r e=>(by subst e;exact Bool.noConfusion hmem),fun r e=>(by subst e;exact Bool.noConfusion hmem)⟩
  obtain ⟨O,hO⟩:∃ O:Nat→Prop,O=fun k=>k<w1.heap.size∧¬ Xs k:=⟨_,rfl⟩
  have hO:∀ k,O k↔(k<w1.heap.size∧¬ Xs k):=fun k=>by rw [hO]
  have hOl:O l:=(hO l).2 ⟨heap_lt hl1,fun hx=>by obtain ⟨o,h3,h4,_⟩:=hheapX hx;rw [hl1] at h3;cases h3;exact h4 _ rfl⟩
  have hdep:Dep cx β3 I S { a with defers:=mark++a.defers } O:=by
   have hd:=hs3'.dep
   refine ⟨fun k hk=>(hO k).2 ⟨hd.lo k hk,fun hx=>?_⟩,fun B off v hv=>(hO B).2 ⟨hd.im B off v hv,fun hx=>hclearX hx hv⟩,fun i b R hb hR=>(hO R).2 ⟨hd.bx i b R hb hR,fun hx=>?_⟩,fun k hk=>(hO k).2 ⟨hd.ss k hk,fun hx=>?_⟩,fun d hm R hR=>(hO R).2 ⟨hd.mks d hm R hR,fun hx=>?_⟩⟩
   ·obtain ⟨i,b,hb,hR⟩:=(hXs k).1 hx
    exact (hs1.own _ b k hb hR).1 hk
   ·obtain ⟨i',b',hb',hR'⟩:=hR3 i b R hb hR
    have hi':i'<nb∧β i'=some b':=by
     unfold cutB at hb'
     split at hb'
     ·exact ⟨by assumption,hb'⟩
     ·cases hb'
    obtain ⟨k,c,hc,hcR⟩:=(hXs R).1 hx
    have:=hs1.apart i' (k+m) b' c R hi'.2 hc hR' hcR
    omega
   ·obtain ⟨i,b,hb,hR⟩:=(hXs k).1 hx
    exact (hs1.own _ b k hb hR).2 hk
   ·obtain ⟨R',e,h3,_⟩:=hs1.marks d hm (fun hD=>hcx.d _ hD _ hR)
    rw [e] at hR;cases hR
    obtain ⟨o,h4,_,h5⟩:=hheapX hx
    rw [h3] at h4;cases h4
    exact h5 _ rfl
  have hle:I.le I:=Imm.le_refl _
  refine ⟨l,mark,w1,{ target:=.fn (.func kf) us,args:=#[.func (.yield l) #[] #[]] },w1,kf,#[.func (.yield l) #[] #[]]++us,w1,hen,?_,?_,?_,fun hh=>absurd hh (by rw [hF.depth];simp),?_⟩
  ·simp only [resolve,hv]
   simp [go_sem]
  ·intro f' _;exact hF.fn f'
  ·exact (hit l).1 _ _
  · have hp : Hp ⟨O, fun _ => True, RJ cx ⟨(σ.clean keep nb).tmps, σ.boxes, σ.y⟩ N xs Inv Q (fun st pe => { state := st, pending := pe, fn := fn, tmps := a.tmps, params := ps, assign := as, body := c, defers := Df }) l I { a with defers := mark ++ a.defers }, I, fun _ _ => False, 0, nob, fun _ => False⟩
        bsX (.rem l xs) (fun i=>β (i+m)) I O w1:=by
      refine ⟨{ tm:=fun t d _ hl=>(by cases hl),sz:=rfl,agree:=hs1.agree,bx:=fun i b hb=>?_,apart:=fun i j b c R hb hc hR hR'=>?_,own:=fun i b R hb hR=>?_,clear:=fun i b R box hb hR hbox hfz' off=>?_,fr:=trivial,n0:=fun k hk=>((hO k).1 hk).1,I0:=Imm.le_refl _,Iold:=fun _ _ _=>rfl,j:=?_,sb:=fun k hk=>((hO k).1 hk).1,sI:=fun B off v hv hB=>absurd ((hO B).2 ⟨cell_lt (hs1.agree B off v hv),fun hx=>hclearX hx hv⟩) hB,gh:=fun _ _ h=>h.elim,le0:=fun i b hb=>(by cases hb),nd:=.nil,pres:=fun _ h=>h.elim,dn:=fun _ h=>h.elim,marks:=fun d hd=>(by cases hd) },fun i hi=>?_⟩
      ·obtain ⟨box,h3,h4⟩:=hs1.bx _ b hb
       have h5:=hgetX i
       rw [h3] at h5
       cases h6:bsX[i]? with
       | none=>rw [h6] at h5;cases h5
       | some b0 =>
        rw [h6] at h5
        cases h5
        exact ⟨b0,rfl,h4.unren (f:=fun i=>i+m) fun _=>rfl⟩
      ·have:=hs1.apart _ _ b c R hb hc hR hR'
       omega
      ·have hx:Xs R:=(hXs R).2 ⟨i,b,hb,hR⟩
       exact ⟨fun ho=>((hO R).1 ho).2 hx,fun ho=>((hO R).1 ho).2 hx⟩
      ·cases hv:I R off with
       | none=>rfl
       | some u=>exact (hclearX ((hXs R).2 ⟨i,b,hb,hR⟩) hv).elim
      ·exact ⟨_,σ.y,β3,I,S,.ready,none,Imm.le_refl _,hs3',ht3,hSl,hdep,hOl,hl1,.inl ⟨0,rfl,Nat.zero_le _,hinv0,rfl,rfl⟩⟩
      ·have h3:=hgetX i
       have h4:bsX[i]?=some (bsX[i]'hi):=List.getElem?_eq_getElem hi
       rw [h4] at h3
       exact htot _ (List.getElem?_eq_some_iff.1 h3).1
    have hrel:RelL I (fun i=>β (i+m)) us.toList caps':=h2.unren fun _=>rfl
    have hyX := round_ok (a := { a with defers := mark ++ a.defers }) (σ := ⟨(σ.clean keep nb).tmps, σ.boxes, σ.y⟩) (nb := nb + vecs.length) (xs := xs) (Inv := Inv) (Q := Q) (l := l) (fn := fn) (Df := Df) (tmps0 := a.tmps) has hcs hps hcx hy (Nat.le_trans hlo' (Nat.le_add_right _ _)) rfl (okTmps_mono (Nat.le_add_right _ _) hok) hs.I0 hnl (fun d hd e => by
              obtain ⟨R,e',h3,_⟩:=hs1.marks d hd (fun hD=>hcx.d _ hD _ e)
              rw [e'] at e;cases e
              rw [h3] at hl1;cases hl1) hbody hplain (old0:=O) (lo0:=0) (b00:=nob)
    have hcxX:Cx.Ok ⟨O,fun _=>True,RJ cx ⟨(σ.clean keep nb).tmps,σ.boxes,σ.y⟩ N xs Inv Q (fun st pe=>{ state:=st,pending:=pe,fn:=fn,tmps:=a.tmps,params:=ps,assign:=as,body:=c,defers:=Df }) l I { a with defers:=mark++a.defers },I,fun _ _=>False,0,nob,fun _=>False⟩ :=
     ⟨Imm.le_trans hcx.gl hs.I0,fun _ _ _ _=>trivial,fun _ _ _ _ h k=>h.keep hcx k,fun _ _ h=>h.elim,fun _ _ h=>(by cases h),fun _ h=>h.elim⟩
    have hcall:=(hit l).2 _ w1 _ I O (Value.func (.yield l) #[] #[]::us.toList) hcxX hyX (Nat.zero_le _) hp (RelL.cons (.yld l) hrel)
    have earr:(#[Value.func (.yield l) #[] #[]]++us:Array Value)=(Value.func (.yield l) #[] #[]::us.toList).toArray:=by apply Array.toList_inj.1;simp
    rw [earr]
    refine (hF.calls hcall).mono ?_
    rintro e w' ⟨v,d',bs',y',β',I',S',rfl,hyy,⟨hsX,_⟩,_⟩
    obtain ⟨bs,y,β',I',S₀,st,pe,h3,h4,h5,h6,h7,h8,h9,hcase⟩:=hsX.j
    have hend:=run_endLoop (P:=P) h9 (by rcases hcase with ⟨_,_,_,_,rfl,_⟩ | ⟨_,rfl,_⟩ <;> simp)
    have hs4:=h4.putLoop hcx h9 h6 hnl (.loop { state:=.exhausted,pending:=pe,fn:=fn,tmps:=a.tmps,params:=ps,assign:=as,body:=c,defers:=Df })
    refine ⟨pe,_,hend,?_⟩
    rcases hcase with ⟨i,hy',hi,hinv,rfl,rfl⟩ | ⟨hy',rfl,c',rfl,hq⟩
    · have hxs:xs.drop i=[]:=by
        rcases hyy with ⟨l',h⟩ | h
        ·have hy':y'=_:=hy'
         rw [hy'] at h;exact (Yst.rem.inj h).2
        ·have hy':y'=_:=hy'
         rw [hy'] at h;cases h
      have:i=xs.length:=by simp at hxs;omega
      subst this
      exact ⟨⟨(σ.clean keep nb).tmps,bs,y⟩,hdone bs y hinv,β',I',S₀,hs4,h5⟩
    ·rcases hq with ⟨rfl,hq⟩ | ⟨id,rfl,hq⟩
     ·exact wpIn_ret ⟨⟨(σ.clean keep nb).tmps,bs,y⟩,hq,β',I',S₀,hs4,h5⟩
     ·exact wpIn_exit ⟨⟨(σ.clean keep nb).tmps,bs,y⟩,hq,β',I',S₀,hs4,h5⟩

theorem range_sound {f:Operand} {ps:Array Tmp} {as c:Code} (has:Snd P sh ish T N as) (hcs:Snd P sh ish T N c) (hps:∀ p∈ps.toList,p<N):Snd P sh ish T N (.rangeFunc f ps as c):=by
 intro lo σ Q cx F n a w hW hF hcx hR hy hlo hfs
 obtain ⟨β,I,S,hs,htot⟩:=hfs
 simp only [W] at hW
 cases hf:σ.ev f with
 | none=>rw [hf] at hW;exact hW.elim
 | some df =>
  rw [hf] at hW
  cases df with
  | clo fnv fs cs =>
   cases fnv with
   | func kf =>
    simp only at hW
    obtain ⟨rfl,hW⟩:=hW
    cases hsh:ish kf with
    | true =>
     simp only [hsh] at hW
     exact rangeX_sound has hcs hps hW hf hF hcx hR hy hlo hs htot
    | false =>
    simp only [hsh] at hW
    obtain ⟨rs,hrs,xs,⟨hent,hit⟩,nb,vecs,Inv,hnb,hok,hbx,hinv0,hbody,hplain,hdone⟩:=hW
    have hlo':cx.lo≤nb:=Nat.le_trans hlo (Nat.le_of_ble_eq_true hnb)
    obtain ⟨vs,us,hv,h1,h2⟩:=(hs.ev (x:=f) (fun t e=>trivial) hf).clo_inv
    have hvs:vs=#[]:=by have:=h1.nil_inv;exact Array.toList_inj.1 (by simpa using this)
    subst hvs
    refine wpIn_rangeFunc fun fn hfn=>?_
    obtain ⟨l,mark,w1,Df,hen,hk1,hlw,hl1,hmnd,hmark⟩:=enter_loop (P:=P) (fun l hl=>hR l _ _ _ hl hs.j) fn a.tmps ps as c
    have hs1:Sim cx (fun _=>True) σ β I S N { a with defers:=mark++a.defers } w1:={ hs.keep hcx hk1 with
     nd:=List.pairwise_append.2 ⟨hmnd,hs.nd,fun d hd d' hd' e=>by
      obtain ⟨R,e1,_,h4⟩:=hmark d hd
      obtain ⟨R',e2,h5,_⟩:=hs.marks d' hd' (fun hD=>hcx.d _ hD R (by rw [← e,e1]))
      rw [e1,e2] at e
      cases e
      have:=heap_lt h5
      omega⟩
     pres:=fun d hd=>List.mem_append_right _ (hs.pres d hd)
     marks:=fun d hd hD=>by
      rcases List.mem_append.1 hd with hd | hd
      ·obtain ⟨R,e,h3,h4⟩:=hmark d hd
       exact ⟨R,e,h3,fun ho=>by have:=hs.n0 R ho;omega,fun hS=>by have:=hs.sb R hS;omega⟩
      ·exact (hs.keep hcx hk1).marks d hd hD }
    have hs2:=hs1.share (cs.flatMap (touch σ.boxes fuel))
    have hrel:RelL (plusB (cs.flatMap (touch σ.boxes fuel)) β w1 I) nob us.toList rs:=reifyL_sound hs1.agree hs1.bx h2 hrs
    have hs3:=hs2.cut (σ:=⟨σ.tmps,freezeIn σ.boxes 0 (cs.flatMap (touch σ.boxes fuel)),σ.y⟩) hcx hlo' (tm:=σ.tmps) (fun t d _ ht=>by
     obtain ⟨v,hv,hr⟩:=hs2.tm t d trivial ht
     exact ⟨v,hv,hr.lowB nb (okTmps_look hok ht)⟩) hbx
    obtain ⟨β3, hs3', ht3⟩ := hs3.vec hcx (cellsPl vecs) (fun i hi => by
          have hi:i<((freezeIn σ.boxes 0 (cs.flatMap (touch σ.boxes fuel))).take nb).length:=hi
          rw [List.length_take,freezeIn_len] at hi
          unfold cutB
          rw [if_pos (by omega)]
          exact htot i (by omega))
    have hvc:=vec_cells vecs ⟨σ.tmps,(freezeIn σ.boxes 0 (cs.flatMap (touch σ.boxes fuel))).take nb,σ.y⟩
    rw [show St.vec ⟨σ.tmps,(freezeIn σ.boxes 0 (cs.flatMap (touch σ.boxes fuel))).take nb,σ.y⟩ (cellsPl vecs)=⟨σ.tmps,(St.vec ⟨σ.tmps,(freezeIn σ.boxes 0 (cs.flatMap (touch σ.boxes fuel))).take nb,σ.y⟩ (cellsPl vecs)).boxes,σ.y⟩ by
     revert hvc
     generalize St.vec ⟨σ.tmps,(freezeIn σ.boxes 0 (cs.flatMap (touch σ.boxes fuel))).take nb,σ.y⟩ (cellsPl vecs)=τ
     rintro ⟨h1,h2⟩
     cases τ
     simp only at h1 h2
     rw [h1,h2]] at hs3'
    have hSl:¬ S l:=fun h=>by have:=hs.sb l h;omega
    have hnl:¬ cx.old l:=fun ho=>by have:=hs.n0 l ho;omega
    have hle:I.le (plusB (cs.flatMap (touch σ.boxes fuel)) β w1 I):=plusB_le hs1.agree _ _
    refine ⟨l,mark,w1,{ target:=.fn (.func kf) us,args:=#[.func (.yield l) #[] #[]] },w1,kf,#[.func (.yield l) #[] #[]]++us,w1,hen,?_,?_,?_,fun hh=>absurd hh (by rw [hF.depth];simp),?_⟩
    ·simp only [resolve,hv]
     simp [go_sem]
    ·intro f' _;exact hF.fn f'
    ·exact hent _ _
    · have hcall:=hit w1 _ us.toList l (RJ cx σ N xs Inv Q (fun st pe=>{ state:=st,pending:=pe,fn:=fn,tmps:=a.tmps,params:=ps,assign:=as,body:=c,defers:=Df }) l (plusB (cs.flatMap (touch σ.boxes fuel)) β w1 I) { a with defers:=mark++a.defers }) (·<w1.heap.size)
        hs2.agree (Imm.le_trans (Imm.le_trans hcx.gl hs.I0) hle) hrel (fun y S w w' h k=>h.keep hcx k)
        (round_ok (a:={ a with defers:=mark++a.defers }) (nb:=nb+vecs.length) has hcs hps hcx hy (Nat.le_trans hlo' (Nat.le_add_right _ _)) rfl (okTmps_mono (Nat.le_add_right _ _) hok) (Imm.le_trans hs.I0 hle) hnl (fun d hd e=>by
         obtain ⟨R,e',h3,_⟩:=hs1.marks d hd (fun hD=>hcx.d _ hD _ e)
         rw [e'] at e;cases e
         rw [h3] at hl1;cases hl1) hbody hplain)
        ⟨_,σ.y,β3,_,S,.ready,none,Imm.le_refl _,hs3',ht3,hSl,hs3'.dep,heap_lt hl1,hl1,.inl ⟨0,rfl,Nat.zero_le _,hinv0,rfl,rfl⟩⟩ (fun B hB=>hB)
      have earr:(#[Value.func (.yield l) #[] #[]]++us:Array Value)=(Value.func (.yield l) #[] #[]::us.toList).toArray:=by apply Array.toList_inj.1;simp
      rw [earr]
      refine (hF.calls hcall).mono ?_
      rintro e w' ⟨v,y',S',rfl,⟨bs,y,β',I',S₀,st,pe,h3,h4,h5,h6,h7,h8,h9,hcase⟩,hyy,hS'⟩
      have hend:=run_endLoop (P:=P) h9 (by rcases hcase with ⟨_,_,_,_,rfl,_⟩ | ⟨_,rfl,_⟩ <;> simp)
      have hs4:=h4.putLoop hcx h9 h6 hnl (.loop { state:=.exhausted,pending:=pe,fn:=fn,tmps:=a.tmps,params:=ps,assign:=as,body:=c,defers:=Df })
      refine ⟨pe,_,hend,?_⟩
      rcases hcase with ⟨i,hy',hi,hinv,rfl,rfl⟩ | ⟨hy',rfl,c',rfl,hq⟩
      · have hxs:xs.drop i=[]:=by
          rcases hyy with ⟨l',h⟩ | h
          ·rw [hy'] at h;exact (Yst.rem.inj h).2
          ·rw [hy'] at h;cases h
        have:i=xs.length:=by simp at hxs;omega
        subst this
        exact ⟨⟨σ.tmps,bs,y⟩,hdone bs y hinv,β',I',S₀,hs4,h5⟩
      ·rcases hq with ⟨rfl,hq⟩ | ⟨id,rfl,hq⟩
       ·exact wpIn_ret ⟨⟨σ.tmps,bs,y⟩,hq,β',I',S₀,hs4,h5⟩
       ·exact wpIn_exit ⟨⟨σ.tmps,bs,y⟩,hq,β',I',S₀,hs4,h5⟩
   | _=>exact hW.elim
  | _=>exact hW.elim

omit [Glb] in
theorem FS.ev {x:Operand} {d:D} (h:FS cx σ N a w) (hd:σ.ev x=some d):∃ β I,Rel I β (a.eval x) d:=by
 obtain ⟨β,I,S,hs,_⟩:=h
 exact ⟨β,I,hs.ev (fun t e=>trivial) hd⟩

theorem W_sound (hT:TOK P T) (hmix:P.follows .mixedOrders=true):∀ (c:Code),bounded N c=true→Snd P sh ish T N c:=by
 intro c
 induction c with
 | skip=>intro _ lo σ Q cx F n a w hW _ _ _ _ _ hfs;exact wpIn_skip ⟨σ,hW,hfs⟩
 | region id ops dr =>
  intro hb lo σ Q cx F n a w hW hF hcx hR hy hlo hfs
  have hdst:∀ o∈ops.toList,∀ t,o.dst=some t→t<N:=fun o ho t ht=>by
   simp only [bounded,List.all_eq_true] at hb
   have:=hb o ho
   rw [ht] at this
   exact blt_lt this
  cases dr with
  | true=>exact region_sound4 (dr:=true) hlo hT hmix hF hcx hy hdst hfs (K:=fun σ'=>Q .normal σ') (fun σ' a' w' hK hfs'=>⟨σ',hK,hfs'⟩) hW
  | false =>
   simp only [W] at hW
   cases hp:panics (CD P sh) ops.toList with
   | true=>rw [hp] at hW;exact pan_sound hlo hT hF hcx hy hdst hfs hW
   | false=>rw [hp] at hW;exact region_sound4 (dr:=false) hlo hT hmix hF hcx hy hdst hfs (K:=fun σ'=>Q .normal σ') (fun σ' a' w' hK hfs'=>⟨σ',hK,hfs'⟩) hW
 | seq x y ihx ihy =>
  intro hb lo σ Q cx F n a w hW hF hcx hR hy hlo hfs
  simp only [bounded] at hb
  cases hbx:bounded N x with
  | false=>rw [hbx] at hb;cases hb
  | true =>
   rw [hbx] at hb
   refine wpIn_seq (wpIn_mono (ihx hbx lo σ _ cx F n a w hW hF hcx hR hy hlo hfs) ?_)
   intro e a' w' hq
   cases e with
   | normal=>obtain ⟨σ',h1,h2⟩:=hq;exact ihy hb lo σ' Q cx F n a' w' h1 hF hcx hR hy hlo h2
   | exit id=>exact hq
   | ret=>exact hq
   | goto l=>exact hq
   | panic ch=>exact hq
   | outgrown=>exact hq
 | cond x y z ihy ihz =>
  intro hb lo σ Q cx F n a w hW hF hcx hR hy hlo hfs
  simp only [bounded] at hb
  cases hby:bounded N y with
  | false=>rw [hby] at hb;cases hb
  | true =>
   rw [hby] at hb
   simp only [W] at hW
   cases hx:σ.ev x with
   | none=>rw [hx] at hW;exact hW.elim
   | some d =>
    rw [hx] at hW
    obtain ⟨β,I,hr⟩:=hfs.ev hx
    cases d with
    | tt=>exact wpIn_cond_true hr.tt_inv (ihy hby lo σ Q cx F n a w hW hF hcx hR hy hlo hfs)
    | ff=>exact wpIn_cond_false hr.ff_inv (ihz hb lo σ Q cx F n a w hW hF hcx hR hy hlo hfs)
    | bool t=>exact wpIn_cond_split hr.bool_inv (fun ht=>ihy hby lo σ Q cx F n a w (hW.1 ht) hF hcx hR hy hlo hfs) (fun ht=>ihz hb lo σ Q cx F n a w (hW.2 ht) hF hcx hR hy hlo hfs)
    | _=>exact hW.elim
 | block id x ih =>
  intro hb lo σ Q cx F n a w hW hF hcx hR hy hlo hfs
  refine wpIn_block (wpIn_mono (ih hb lo σ _ cx F n a w hW hF hcx hR hy hlo hfs) ?_)
  intro e a' w' hq
  cases e with
  | normal=>exact hq
  | exit id' =>
   obtain ⟨σ',h1,h2⟩:=hq
   simp only at h1
   show if id'=id then _ else _
   cases hbq:Nat.beq id' id with
   | true=>rw [hbq] at h1;rw [if_pos (Nat.eq_of_beq_eq_true hbq)];exact ⟨σ',h1,h2⟩
   | false=>rw [hbq] at h1;rw [if_neg (fun e=>by subst e;simp at hbq)];exact ⟨σ',h1,h2⟩
  | ret=>exact hq
  | goto l=>exact hq
  | panic ch=>exact hq
  | outgrown=>exact hq
 | loop x ih =>
  intro hb lo σ Q cx F n a w hW hF hcx hR hy hlo hfs
  obtain ⟨keep,nb,vs,Inv,μ,hnb,hgood,hinv,hround⟩:=hW
  have hlo':cx.lo≤nb:=Nat.le_trans hlo (Nat.le_of_ble_eq_true hnb)
  refine wpIn_loop_at (fun k a w=>∃ σ',Inv σ'∧μ σ'=k∧FS cx σ' N a w) ⟨((σ.fzs lo vs).clean keep nb).vec vs,hinv,rfl,((FS.fzs hcx hlo vs hfs).clean hcx hlo' hgood).vec hcx vs⟩ ?_
  rintro k a w ⟨σ',hi,rfl,hfs'⟩
  refine wpIn_mono (ih hb lo σ' _ cx F n a w (hround σ' hi) hF hcx hR hy hlo hfs') ?_
  intro e a' w' hq
  cases e with
  | normal =>
   obtain ⟨σ'',⟨h1,h2,h3⟩,h4⟩:=hq
   exact ⟨_,h3,_,h2,rfl,(FS.fzs hcx hlo vs h4).clean hcx (Nat.le_trans hlo' (Nat.le_add_right _ _)) h1⟩
  | exit id=>exact hq
  | ret=>exact hq
  | goto l=>exact hq
  | panic ch=>exact hq
  | outgrown=>exact hq
 | rangeFunc f ps as x iha ihx =>
  intro hb
  simp only [bounded] at hb
  cases h1:bounded N as with
  | false=>rw [h1] at hb;cases hb
  | true =>
   cases h2:bounded N x with
   | false=>rw [h1,h2] at hb;cases hb
   | true =>
    rw [h1,h2] at hb
    simp only [List.all_eq_true] at hb
    exact range_sound (iha h1) (ihx h2) fun p hp=>blt_lt (hb p hp)
 | exit id=>intro _ lo σ Q cx F n a w hW _ _ _ _ _ hfs;exact wpIn_exit ⟨σ,hW,hfs⟩
 | scope x ih =>
  intro hb lo σ Q cx F n a w hW hF hcx hR hy hlo hfs
  exact wpIn_scope_straight (ih hb lo σ Q cx F n a w hW hF hcx hR hy hlo hfs) fun l a w h=>h
 | label l=>intro _ lo σ Q cx F n a w hW _ _ _ _ _ hfs;exact wpIn_label ⟨σ,hW,hfs⟩
 | goto l=>intro _ lo σ Q cx F n a w hW;exact hW.elim
 | ret=>intro _ lo σ Q cx F n a w hW _ _ _ _ _ hfs;exact wpIn_ret ⟨σ,hW,hfs⟩
 | refuse why=>intro _ lo σ Q cx F n a w hW;exact hW.elim

end
end Go.V

namespace Go.V
open Go.RowKit

section
variable {P:Program} [Glb] {sh:Kinds} {ish:Nat→Bool} {T:Nat→Option TI} {cx:Cx} {V:Nat→Prop} {σ:St} {β:BE} {I:Imm} {S:Nat→Prop} {N:Nat} {a:Act} {w:World}

omit [Glb] in
theorem args0_look:∀ (ds:List D) (i t:Nat) (d:D),look (args0 ds i) t=some d→i≤t∧ds[t - i]?=some d
 | [],_,_,_,h=>by cases h
 | e::r,i,t,d,h=>by
  simp only [args0,look] at h
  cases hb:Nat.beq i t with
  | true =>
   rw [hb] at h
   cases h
   obtain rfl:=Nat.eq_of_beq_eq_true hb
   simp
  | false =>
   rw [hb] at h
   obtain ⟨h1,h2⟩:=args0_look r (i+1) t d h
   refine ⟨by omega,?_⟩
   rw [show t - i=(t - (i+1))+1 by omega]
   simpa using h2

omit [Glb] in
theorem Sim.start {vs:List Value} {args:List D} {y:Yst} (hn:∀ k,cx.old k↔k<w.heap.size) (hI:cx.I0=I) (hfr:cx.Fr w) (hj:cx.J y S w) (hg:∀ v d,¬ cx.G v d) (hb0:cx.b0=nob) (hD:∀ d,¬ cx.dfr d) (hag:Agree I w) (hS:∀ B,S B→B<w.heap.size) (hrel:RelL I nob vs args) (hN:args.length≤N) :
    FS cx ⟨args0 args 0,[],y⟩ N { tmps:=vs.toArray++Array.replicate (N - vs.toArray.size) undef,defers:=[] } w:=by
  refine ⟨nob,I,S,{ tm:=?_,sz:=?_,agree:=hag,bx:=?_,apart:=?_,own:=?_,clear:=?_,fr:=hfr,n0:=fun k hk=>(hn k).1 hk,I0:=hI ▸ Imm.le_refl _,Iold:=fun _ _ _=>by rw [hI],j:=hj,sb:=hS,sI:=?_,gh:=fun v d h=>(hg v d h).elim,le0:=hb0 ▸ BE.le_refl _,nd:=.nil,pres:=fun d h=>(hD d h).elim,dn:=fun d h=>(hD d h).elim,marks:=fun d hd=>(by cases hd) },fun i hi=>absurd hi (by simp)⟩
  ·intro t d _ hl
   obtain ⟨_,h2⟩:=args0_look args 0 t d hl
   rw [Nat.sub_zero] at h2
   have ht:t<vs.length:=by rw [hrel.1];exact (List.getElem?_eq_some_iff.1 h2).1
   exact ⟨vs[t],by rw [Array.getElem?_append_left (by simpa using ht)];simp [ht],hrel.2 t _ d (List.getElem?_eq_getElem ht) h2⟩
  ·have:=hrel.1
   simp;omega
  ·intro i b h;cases h
  ·intro i j b c R h;cases h
  ·intro i b R h;cases h
  ·intro i b R box h;cases h
  ·intro B off v hv hB
   exact (hB ((hn B).2 (cell_lt (hag B off v hv)))).elim

omit [Glb] in
theorem leaves_marks {F:Fence} {n:Nat} {fn:Func} {tmps:Array Value} {R:Ending→World→Prop}:∀ (ds:List Deferred) (w:World),(ds.Pairwise fun d d'=>d.target≠d'.target) →
    (∀ d∈ds,∃ R,d={ target:=.collected R,args:=#[] }∧w.heap[R]?=some (.deferred (some [])))→(∀ w',Keep (fun k=>∀ d∈ds,d.target≠.collected k) w w'→LeavesIn F n P fn tmps R [] .returning w')→LeavesInM F n P fn tmps R ds .returning w
  | [],w,_,_,h=>h w (Keep.refl _ w)
  | d::ds,w,hp,hm,h=>by
   obtain ⟨hd,hp⟩:=List.pairwise_cons.1 hp
   obtain ⟨b,e,hb⟩:=hm d (by simp)
   refine ⟨by simp,.inl ⟨b,_,by rw [e],run_takeDeferred hb,leaves_marks ds _ hp (fun d' hd'=>?_) fun w' k=>h w' ?_⟩⟩
   ·obtain ⟨b',e',hb'⟩:=hm d' (by simp [hd'])
    refine ⟨b',e',?_⟩
    rw [World.putObj_heap_other (fun e2=>hd d' hd' (by rw [e,e',e2]))]
    exact hb'
   ·exact ((keep_put w b _).mono fun k hk e2=>hk d (by simp) (by rw [e,e2])).trans (k.mono fun k hk d' hd'=>hk d' (by simp [hd']))

def resRun (tmps:Array Value):ResultVar→Sem Value
 | .tmp t=>pure (tmps.getD t undef)
 | .cell p t=>do loadVar t (← asAddr (tmps.getD p undef))

omit [Glb] in
theorem resE_sound (hT:TOK P T) (hs:Sim cx (fun _=>True) σ β I S N a w) {r:ResultVar} {d:D} (h:resE T σ r=some d) :
    ∃ v,(resRun a.tmps r).run P w=.ok v w∧Rel I β v d:=by
  cases r with
  | tmp t =>
   obtain ⟨v,hv,hr⟩:=hs.tm t d trivial h
   exact ⟨v,by simp [resRun,Array.getD_eq_getD_getElem?,hv],hr⟩
  | cell p t =>
   simp only [resE] at h
   cases ht:T t with
   | none=>rw [ht] at h;cases h
   | some ti =>
    cases hp:look σ.tmps p with
    | none=>rw [ht,hp] at h;cases h
    | some dp =>
     rw [ht,hp] at h
     cases dp with
     | loc i off =>
      obtain ⟨pv,hpv,hpr⟩:=hs.tm p _ trivial hp
      have hl:loadE ti σ.boxes (.loc i off) (fun e=>e=.val d):=by
       simp only [loadE]
       simp only at h
       cases hb:σ.boxes[i]? with
       | none=>rw [hb] at h;cases h
       | some box =>
        rw [hb] at h
        cases box with
        | rows=>cases h
        | map=>cases h
        | siter=>cases h
        | miter=>cases h
        | flat fz cells =>
         simp only at h ⊢
         cases ha:ti.agg with
         | true=>rw [ha] at h;simp only [forceA_eq] at h ⊢;rw [h]
         | false=>rw [ha] at h;simp only at h ⊢;rw [h]
      obtain ⟨v,d',hrun,he,hrel⟩:=loadE_sound (hT _ _ ht) hs hpr hl
      cases he
      obtain ⟨R,rfl⟩:=hpr.loc_inv
      refine ⟨v,?_,hrel⟩
      simp only [resRun,Array.getD_eq_getD_getElem?,hpv,Option.getD_some,asAddr]
      simpa [Instr.loadAt,Instr.sureAddr] using hrun
     | _=>cases h

omit [Glb] in
theorem resL_sound (hT:TOK P T) (hs:Sim cx (fun _=>True) σ β I S N a w):∀ {rs:List ResultVar} {ds:List D},resL T σ rs=some ds →
    ∃ vs,(rs.mapM (m:=Sem) (resRun a.tmps)).run P w=.ok vs w∧RelL I β vs ds
  | [],ds,h=>by cases h;exact ⟨[],by simp,.nil⟩
  | r::rs,ds,h=>by
   simp only [resL] at h
   cases h1:resE T σ r with
   | none=>rw [h1] at h;cases h
   | some d =>
    rw [h1] at h
    cases h2:resL T σ rs with
    | none=>rw [h2] at h;cases h
    | some l =>
     rw [h2] at h
     cases h
     obtain ⟨v,hv,hr⟩:=resE_sound hT hs h1
     obtain ⟨vs,hvs,hrl⟩:=resL_sound hT hs h2
     refine ⟨v::vs,?_,RelL.cons hr hrl⟩
     rw [List.mapM_cons]
     simp only [Sem.run_bind,hv,Result.andThen_ok,hvs,Sem.run_pure]

omit [Glb] in
theorem results_sound (hT:TOK P T) (hs:Sim cx (fun _=>True) σ β I S N a w) {fn:Func} {d:D} (h:resultD T fn σ=some d) :
    ∃ v L,(results fn a.tmps).run P w=.ok v w∧Rel (plusB L β w I) nob v d:=by
  unfold resultD at h
  cases hl:resL T σ fn.results.toList with
  | none=>rw [hl] at h;cases h
  | some l =>
   rw [hl] at h
   obtain ⟨vs,hvs,hrl⟩:=resL_sound hT hs hl
   have hm:(fn.results.mapM (m:=Sem) (resRun a.tmps)).run P w=.ok vs.toArray w:=by
    rw [Array.mapM_eq_mapM_toList]
    simp only [Sem.run_map,hvs]
    rfl
   have main:∀ {v:Value} {e:D},Rel I β v e→reify σ.boxes fuel e=some d→∃ L,Rel (plusB L β w I) nob v d:=fun hr he =>
    ⟨_,reify_sound hs.agree hs.bx (touch σ.boxes fuel _) fuel hr he fun i hi=>hi⟩
   have hres:(results fn a.tmps).run P w=.ok (if h:vs.toArray.size=1 then vs.toArray[0] else .tuple vs.toArray) w:=by
    have e:results fn a.tmps=(do let vs ← fn.results.mapM (m:=Sem) (resRun a.tmps);pure (if h:vs.size=1 then vs[0] else .tuple vs)):=by
     unfold results
     congr 1
    rw [e,Sem.run_bind,hm]
    simp only [Result.andThen_ok,Sem.run_pure]
   cases l with
   | nil =>
    have:=hrl.nil_inv
    subst this
    obtain ⟨L,hL⟩:=main (Rel.mkTup (I:=I) (β:=β) RelL.nil) h
    exact ⟨_,L,hres,by simpa using hL⟩
   | cons e l =>
    cases l with
    | nil =>
     obtain ⟨v,rfl,hv⟩:=hrl.one_inv
     obtain ⟨L,hL⟩:=main hv h
     exact ⟨_,L,hres,by simpa using hL⟩
    | cons e' l =>
     obtain ⟨L,hL⟩:=main (Rel.mkTup hrl) h
     refine ⟨_,L,hres,?_⟩
     have:¬ vs.toArray.size=1:=by have:=hrl.1;simp at this ⊢;omega
     rw [dif_neg this]
     exact hL

theorem Sim.left (hcx:cx.Ok) (h:Sim cx V σ β I S N a w) (hD:∀ d,¬ cx.dfr d) {w':World} (k:Keep (fun k=>∀ d∈a.defers,d.target≠.collected k) w w'):Sim cx V σ β I S N { a with defers:=[] } w':=by
 have h0:Sim cx V σ β I S N { a with defers:=[] } w:={ h with tm:=h.tm,sz:=h.sz,nd:=.nil,pres:=fun d hd=>(hD d hd).elim,marks:=(fun d hd=>by cases hd) }
 refine h0.keepS hcx { lo:=?_,im:=?_,bx:=?_,ss:=?_,mks:=fun d hd=>(by cases hd) } k
 ·intro k hk d hd e
  obtain ⟨R,e1,_,h3,_⟩:=h.marks d hd (hD d)
  rw [e1] at e;cases e
  exact h3 hk
 ·intro B off v hv d hd e
  obtain ⟨R,e1,h2,_⟩:=h.marks d hd (hD d)
  rw [e1] at e;cases e
  exact not_cell' h2 (h.agree B off v hv) rfl
 ·intro i b R hb hR d hd e
  obtain ⟨R',e1,h2,_⟩:=h.marks d hd (hD d)
  rw [e1] at e;cases e
  obtain ⟨_,_,h3⟩:=h.bx i b hb
  obtain ⟨_,hmem,hh⟩:=h3.lt hR
  rw [hh] at h2;cases h2;exact Bool.noConfusion hmem
 ·intro k hk d hd e
  obtain ⟨R,e1,_,_,h4⟩:=h.marks d hd (hD d)
  rw [e1] at e;cases e
  exact h4 hk

omit [Glb] in
theorem Wk.tlen {x y:D} (h:Wk x y):∀ {r s:List D},x=.tup r→y=.tup s→r.length=s.length:=by
 induction h with
 | refl d=>intro r s h1 h2;rw [h1] at h2;cases h2;rfl
 | nil a b=>intro r s h1;cases h1
 | rows sz rows=>intro r s h1;cases h1
 | und d=>intro r s _ h2;cases h2
 | tnil=>intro r s h1 h2;cases h1;cases h2;rfl
 | tcons h1 h2 ih1 ih2=>intro r s e1 e2;cases e1;cases e2;simp [ih2 rfl rfl]


omit [Glb] in
theorem Wk.rel {x y:D} (h:Wk x y):∀ {I:Imm} {β:BE} {v:Value},Rel I β v x→Rel I β v y:=by
 induction h with
 | refl d=>intro I β v h;exact h
 | nil a b =>
  intro I β v h
  cases h with
  | list0 a cap _=>exact .list0 a cap b
  | list B off cap sz rows u hc hrow hI h1 h=>exact .list0 _ _ b
 | rows sz rows =>
  intro I β v h
  cases h with
  | list0 a cap _=>exact .list0 a cap _
  | list B off cap sz rows u hc hrow hI h1 h =>
   have e:rows.length=(rows.map (·.map normB)).length:=by simp
   rw [e]
   refine .list B off cap sz _ u (by simpa using hc) (fun r row hr=>?_) (fun r j hr hj=>hI r j (by simpa using hr) hj) (fun r j hr hj=>h1 r j (by simpa using hr) hj) fun r row j d hr hd=>?_
   ·rw [List.getElem?_map] at hr
    cases hr':rows[r]? with
    | none=>rw [hr'] at hr;cases hr
    | some row'=>rw [hr'] at hr;cases hr;rw [List.length_map];exact hrow r row' hr'
   ·rw [List.getElem?_map] at hr
    cases hr':rows[r]? with
    | none=>rw [hr'] at hr;cases hr
    | some row' =>
     rw [hr'] at hr
     cases hr
     rw [List.getElem?_map] at hd
     cases hd':row'[j]? with
     | none=>rw [hd'] at hd;cases hd
     | some d' =>
      rw [hd'] at hd
      cases hd
      have:=h r row' j d' hr' hd'
      revert this
      generalize u r j=x
      intro this
      cases d' with
      | tt=>rw [this.tt_inv];exact .bool true
      | ff=>rw [this.ff_inv];exact .bool false
      | _=>exact this
 | und d=>intro I β v _;exact .und v
 | tnil=>intro I β v h;exact h
 | tcons h1 h2 ih1 ih2 =>
  intro I β v h
  obtain ⟨cs,rfl,hl,hr⟩:=h.tup_inv
  have hlen:=(Wk.tcons h1 h2).tlen rfl rfl
  refine .tup cs _ (hl.trans hlen) fun i v d hv hd=>?_
  cases i with
  | zero =>
   simp at hd;subst hd
   exact ih1 (hr 0 v _ hv rfl)
  | succ i =>
   obtain ⟨cv,hcs⟩:∃ cv:List Value,cs.toList=cv:=⟨_,rfl⟩
   rw [hcs] at hl hr hv
   cases cv with
   | nil=>simp at hl
   | cons u us =>
    have hrest:Rel I β (.tuple us.toArray) (.tup _):=.tup us.toArray _ (by simpa using hl) fun k v d hv hd=>hr (k+1) v d (by simpa using hv) (by simpa using hd)
    obtain ⟨cs',e',hl',hr'⟩:=(ih2 hrest).tup_inv
    cases e'
    exact hr' i v d (by simpa using hv) (by simpa using hd)


omit [Glb] in
theorem Den.args [Glb] {P:Program} {k:FuncId} {args args':List D} {d:D} (h:Den P k args' d) (hw:Wk (.tup args) (.tup args')):Den P k args d :=
 ⟨h.1,fun w I vs ha hg hr=>h.2 w I vs ha hg (by
  have h1:Rel I nob (.tuple vs.toArray) (.tup args):=Rel.mkTup hr
  obtain ⟨cs,e,h2⟩:=(hw.rel h1).tup_inv
  cases e
  simpa using h2)⟩

theorem den_of_bodyG {d:D} (R:Option D→Prop) (hR:∀ x,R x→∃ d0,x=some d0∧Wk d0 d) (hT:TOK P T) (hmix:P.follows .mixedOrders=true) {f:FuncId} {fn:Func} {c:Code} (hf:P.funcs[f]?=some fn) (hb:fn.body=some c) (he:Enters P f) (hbd:bounded fn.ntmps c=true) {args:List D} (hn:args.length≤fn.ntmps)
    (h:match fn.body with | some c=>W T (CD P sh) (ItD P ish) 0 c ⟨args0 args 0,[],.non⟩ (fun e σ=>match e with | .exit _=>False | .panic _=>False | _=>R (resultD T fn σ)) | none=>False):Den P f args d:=by
  refine ⟨he,fun w I vs hag hgl hrel=>?_⟩
  rw [hb] at h
  simp only at h
  let cx:Cx:=⟨(·<w.heap.size),fun w'=>Keep (·<w.heap.size) w w',fun y _ _=>y=.non,I,fun _ _=>False,0,nob,fun _=>False⟩
  have hD:∀ d,¬ cx.dfr d:=fun _ h=>h
  have hcx:cx.Ok:=⟨hgl,fun w' w'' h1 h2=>h1.trans h2,fun _ _ _ _ h _=>h,fun _ _ h=>h.elim,fun _ _ h=>(by cases h),fun _ h=>h.elim⟩
  have hy:YieldOK P cx:=fun l x r S w' I' vs' G hj=>by cases hj
  have hfs:=Sim.start (cx:=cx) (S:=fun _=>False) (y:=.non) (N:=fn.ntmps) (fun _=>Iff.rfl) rfl (Keep.refl _ w) rfl (fun _ _ h=>h) rfl (fun _ h=>h) hag (fun _ h=>h.elim) hrel hn
  refine callsIn_wide.1 (callsIn_of_wp_marks (n:=0) hf hb trivial ?_)
  refine wpIn_mono (W_sound hT hmix c hbd 0 _ _ cx Fence.wide 0 _ w h (.inl rfl) hcx (fun l y S w' hl=>by cases hl) hy (Nat.le_refl _) hfs) ?_
  have fin:∀ σ a' w',R (resultD T fn σ)→FS cx σ fn.ntmps a' w'→LeavesInM Fence.wide 0 P fn a'.tmps (fun e w'=>∃ v I',e=.returned v∧Keep (·<w.heap.size) w w'∧Grow w.heap.size I I'∧Agree I' w'∧Rel I' nob v d) a'.defers .returning w':=by
   rintro σ a' w' hRr ⟨β,I',S,hs,_⟩
   obtain ⟨d0,hres,hwk⟩:=hR _ hRr
   refine leaves_marks a'.defers w' hs.nd (fun d hd=>let ⟨R,h1,h2,_⟩:=hs.marks d hd (hD d);⟨R,h1,h2⟩) fun w'' k=>?_
   have hs':=hs.left hcx hD k
   obtain ⟨v,L,hrun,hrel'⟩:=results_sound hT hs' hres
   refine ⟨v,hrun,v,_,rfl,hs'.fr,⟨Imm.le_trans hs'.I0 (plusB_le hs'.agree L β),fun B off hB=>?_⟩,plusB_agree hs'.agree L β,hwk.rel hrel'⟩
   unfold plusB
   rw [if_neg]
   ·exact hs'.Iold B off hB
   ·rintro ⟨i,b,_,hbi,hR⟩
    have:=(hs'.own i b B hbi hR).1
    exact this hB
  intro e a' w' hq
  cases e with
  | normal=>obtain ⟨σ,h1,h2⟩:=hq;exact fin σ a' w' h1 h2
  | ret=>obtain ⟨σ,h1,h2⟩:=hq;exact fin σ a' w' h1 h2
  | exit id=>obtain ⟨σ,h1,h2⟩:=hq;exact h1.elim
  | goto l=>exact hq.elim
  | panic ch=>obtain ⟨_,_,_,h1,_⟩:=hq;exact h1.elim
  | outgrown=>exact hq.elim

theorem den_of_body (hT:TOK P T) (hmix:P.follows .mixedOrders=true) {f:FuncId} {fn:Func} {c:Code} (hf:P.funcs[f]?=some fn) (hb:fn.body=some c) (he:Enters P f) (hbd:bounded fn.ntmps c=true) {args:List D} (hn:args.length≤fn.ntmps) {d:D}
    (h:Body T (CD P sh) (ItD P ish) fn args d):Den P f args d :=
  den_of_bodyG (fun x=>x=some d) (fun _ h=>⟨d,h,.refl d⟩) hT hmix hf hb he hbd hn (by
   unfold Body at h
   rw [hb] at h ⊢
   simp only [forceL_eq,WR_eq] at h
   exact h)

theorem den_of_bodyW (hT:TOK P T) (hmix:P.follows .mixedOrders=true) {f:FuncId} {fn:Func} {c:Code} (hf:P.funcs[f]?=some fn) (hb:fn.body=some c) (he:Enters P f) (hbd:bounded fn.ntmps c=true) {args:List D} (hn:args.length≤fn.ntmps) {d:D}
    (h:BodyW T (CD P sh) (ItD P ish) fn args d):Den P f args d :=
  den_of_bodyG (fun x=>∃ d0,x=some d0∧Wk d0 d) (fun _ h=>h) hT hmix hf hb he hbd hn (by
   unfold BodyW at h
   rw [hb] at h ⊢
   simp only [forceL_eq,WR_eq] at h
   exact h)

theorem iter_of_body (hT:TOK P T) (hmix:P.follows .mixedOrders=true) {f:FuncId} {fn:Func} {c:Code} (hf:P.funcs[f]?=some fn) (hb:fn.body=some c) (he:Enters P f) (hbd:bounded fn.ntmps c=true) {args:List D} (hn:args.length+1≤fn.ntmps)
    {xs:List (List D)} (h:BodyIter T (CD P sh) (ItD P ish) fn args xs):IterDen P f args xs:=by
  refine ⟨he,fun w I vs l J S hag hgl hrel hstable hy hj hS=>?_⟩
  unfold BodyIter at h
  rw [hb] at h
  have h:=h l
  rw [forceL_eq,WR_eq] at h
  let cx:Cx:=⟨(·<w.heap.size),fun _=>True,J,I,fun _ _=>False,0,nob,fun _=>False⟩
  have hD:∀ d,¬ cx.dfr d:=fun _ h=>h
  have hcx:cx.Ok:=⟨hgl,fun _ _ _ _=>trivial,hstable,fun _ _ h=>h.elim,fun _ _ h=>(by cases h),fun _ h=>h.elim⟩
  have hfs:=Sim.start (cx:=cx) (S:=S) (y:=.rem l xs) (N:=fn.ntmps) (args:=.yld l::args) (vs:=.func (.yield l) #[] #[]::vs) (fun _=>Iff.rfl) rfl trivial hj (fun _ _ h=>h) rfl (fun _ h=>h) hag hS (RelL.cons (.yld l) hrel) (by simpa using hn)
  refine callsIn_wide.1 (callsIn_of_wp_marks (n:=0) hf hb trivial ?_)
  refine wpIn_mono (W_sound hT hmix c hbd 0 _ _ cx Fence.wide 0 _ w h (.inl rfl) hcx (fun l y S w' hl=>by cases hl) hy (Nat.le_refl _) hfs) ?_
  have fin:∀ σ a' w',fn.results.toList.length=0→((∃ l',σ.y=.rem l' [])∨σ.y=.stopped)→FS cx σ fn.ntmps a' w'→LeavesInM Fence.wide 0 P fn a'.tmps (fun e w'=>∃ v y S',e=.returned v∧J y S' w'∧((∃ l',y=.rem l' [])∨y=.stopped)∧(∀ B,S' B→B<w'.heap.size)) a'.defers .returning w':=by
   rintro σ a' w' hres hyy ⟨β,I',S',hs,_⟩
   refine leaves_marks a'.defers w' hs.nd (fun d hd=>let ⟨R,h1,h2,_⟩:=hs.marks d hd (hD d);⟨R,h1,h2⟩) fun w'' k=>?_
   have hs':=hs.left hcx hD k
   have hr0:fn.results=#[]:=Array.toList_inj.1 (by simpa using List.eq_nil_of_length_eq_zero hres)
   exact ⟨.tuple #[],by simp [results,hr0],_,σ.y,S',rfl,hs'.j,hyy,hs'.sb⟩
  intro e a' w' hq
  cases e with
  | normal =>
   obtain ⟨σ,h1,h2⟩:=hq
   cases hyy:σ.y with
   | non=>rw [hyy] at h1;exact h1.elim
   | stopped=>rw [hyy] at h1;exact fin σ a' w' h1 (.inr hyy) h2
   | rem l' ys =>
    rw [hyy] at h1
    cases ys with
    | nil=>exact fin σ a' w' h1 (.inl ⟨l',hyy⟩) h2
    | cons y ys=>exact h1.elim
  | ret =>
   obtain ⟨σ,h1,h2⟩:=hq
   cases hyy:σ.y with
   | non=>rw [hyy] at h1;exact h1.elim
   | stopped=>rw [hyy] at h1;exact fin σ a' w' h1 (.inr hyy) h2
   | rem l' ys =>
    rw [hyy] at h1
    cases ys with
    | nil=>exact fin σ a' w' h1 (.inl ⟨l',hyy⟩) h2
    | cons y ys=>exact h1.elim
  | exit id=>obtain ⟨σ,h1,h2⟩:=hq;exact h1.elim
  | goto l=>exact hq.elim
  | panic ch=>obtain ⟨_,_,_,h1,_⟩:=hq;exact h1.elim
  | outgrown=>exact hq.elim

omit [Glb] in
theorem resultsY_sound (hT:TOK P T) (hs:Sim cx (fun _=>True) σ β I S N a w) {fn:Func} {d:D} (h:resultY T fn σ=some d) :
    ∃ v,(results fn a.tmps).run P w=.ok v w∧Rel I β v d:=by
  unfold resultY at h
  cases hl:resL T σ fn.results.toList with
  | none=>rw [hl] at h;cases h
  | some l =>
   rw [hl] at h
   obtain ⟨vs,hvs,hrl⟩:=resL_sound hT hs hl
   have hm:(fn.results.mapM (m:=Sem) (resRun a.tmps)).run P w=.ok vs.toArray w:=by
    rw [Array.mapM_eq_mapM_toList]
    simp only [Sem.run_map,hvs]
    rfl
   have hres:(results fn a.tmps).run P w=.ok (if h:vs.toArray.size=1 then vs.toArray[0] else .tuple vs.toArray) w:=by
    have e:results fn a.tmps=(do let vs ← fn.results.mapM (m:=Sem) (resRun a.tmps);pure (if h:vs.size=1 then vs[0] else .tuple vs)):=by
     unfold results
     congr 1
    rw [e,Sem.run_bind,hm]
    simp only [Result.andThen_ok,Sem.run_pure]
   cases l with
   | nil =>
    have:=hrl.nil_inv
    subst this
    cases h
    exact ⟨_,hres,by simpa using Rel.mkTup (I:=I) (β:=β) RelL.nil⟩
   | cons e l =>
    cases l with
    | nil =>
     obtain ⟨v,rfl,hv⟩:=hrl.one_inv
     cases h
     exact ⟨_,hres,by simpa using hv⟩
    | cons e' l =>
     cases h
     refine ⟨_,hres,?_⟩
     have:¬ vs.toArray.size=1:=by have:=hrl.1;simp at this ⊢;omega
     rw [dif_neg this]
     exact Rel.mkTup hrl

theorem denY_of_body (hT:TOK P T) (hmix:P.follows .mixedOrders=true) {f:FuncId} {fn:Func} {c:Code} (hf:P.funcs[f]?=some fn) (hb:fn.body=some c) (he:Enters P f) (hbd:bounded fn.ntmps c=true) {args:List D} (hn:args.length≤fn.ntmps)
    {bs:List Box} {y:Yst} {Q:D→List Box→Yst→Prop} (h:BodyY T (CD P sh) (ItD P ish) fn args bs y Q):DenY P f args bs y Q:=by
  refine ⟨he,fun cx w β I S vs hcx hy hlo hH hrel=>?_⟩
  obtain ⟨hsim,htot⟩:=hH
  have hD:∀ d,¬ cx.dfr d:=fun d h=>by have:=hsim.pres d h;cases this
  unfold BodyY at h
  rw [hb] at h
  simp only [forceL_eq,WR_eq] at h
  have hfs:FS cx ⟨args0 args 0,bs,y⟩ fn.ntmps { tmps:=vs.toArray++Array.replicate (fn.ntmps - vs.toArray.size) undef,defers:=[] } w:=by
   refine ⟨β,I,S,{ hsim with tm:=?_,sz:=?_ },htot⟩
   ·intro t d _ hl
    obtain ⟨_,h2⟩:=args0_look args 0 t d hl
    rw [Nat.sub_zero] at h2
    have ht:t<vs.length:=by rw [hrel.1];exact (List.getElem?_eq_some_iff.1 h2).1
    exact ⟨vs[t],by rw [Array.getElem?_append_left (by simpa using ht)];simp [ht],hrel.2 t _ d (List.getElem?_eq_getElem ht) h2⟩
   ·have:=hrel.1
    simp;omega
  refine callsIn_wide.1 (callsIn_of_wp_marks (n:=0) hf hb trivial ?_)
  refine wpIn_mono (W_sound hT hmix c hbd bs.length _ _ cx Fence.wide 0 _ w h (.inl rfl) hcx (fun l y S w' hl=>by cases hl) hy hlo hfs) ?_
  have fin:∀ σ a' w',(∃ d,resultY T fn σ=some d∧Q d σ.boxes σ.y)→FS cx σ fn.ntmps a' w'→LeavesInM Fence.wide 0 P fn a'.tmps (fun e w'=>∃ v d bs' y' β' I' S',e=.returned v∧Q d bs' y'∧Hp cx bs' y' β' I' S' w'∧Rel I' β' v d) a'.defers .returning w':=by
   rintro σ a' w' ⟨d,hres,hq⟩ ⟨β',I',S',hs,ht⟩
   refine leaves_marks a'.defers w' hs.nd (fun d hd=>let ⟨R,h1,h2,_⟩:=hs.marks d hd (hD d);⟨R,h1,h2⟩) fun w'' k=>?_
   have hs':=hs.left hcx hD k
   obtain ⟨v,hrun,hrel'⟩:=resultsY_sound hT hs' hres
   exact ⟨v,hrun,v,d,σ.boxes,σ.y,β',I',S',rfl,hq,⟨{ hs' with tm:=fun t d _ hl=>(by cases hl),sz:=rfl,nd:=.nil,pres:=fun d hd=>(hD d hd).elim,marks:=fun d hd=>(by cases hd) },ht⟩,hrel'⟩
  intro e a' w' hq
  cases e with
  | normal=>obtain ⟨σ,h1,h2⟩:=hq;exact fin σ a' w' h1 h2
  | ret=>obtain ⟨σ,h1,h2⟩:=hq;exact fin σ a' w' h1 h2
  | exit id=>obtain ⟨σ,h1,h2⟩:=hq;exact h1.elim
  | goto l=>exact hq.elim
  | panic ch=>obtain ⟨_,_,_,h1,_⟩:=hq;exact h1.elim
  | outgrown=>exact hq.elim



end
#print axioms den_of_body
#print axioms denY_of_body
#print axioms iter_of_body
end Go.V
