/- The state of a frame behind an operation; A store, and an append; An append. No condition. -/
import Derived.Laws.AppendOwn
import Derived.Test.YtfdflbdnjimfaaaPackUD

namespace Go.V
open Go.RowKit

section
variable {P:Program} [Glb] {T:Nat→Option TI} {cx:Cx} {V:Nat→Prop} {σ:St} {β:BE} {I:Imm} {S:Nat→Prop} {N:Nat} {a:Act} {w:World}

theorem Sim.keep (hcx:cx.Ok) (h:Sim cx V σ β I S N a w) {w':World} (k:Keep (·<w.heap.size) w w'):Sim cx V σ β I S N a w' :=
 { h with
   agree:=h.agree.keep k
   bx:=fun i b hb=>let ⟨box,h1,h2⟩:=h.bx i b hb;⟨box,h1,h2.mono I.le_refl (BE.le_refl β) fun R hR=>k.block R (h2.slt hR)⟩
   fr:=hcx.fr _ _ h.fr (k.mono fun B hB=>h.n0 B hB)
   n0:=fun B hB=>Nat.lt_of_lt_of_le (h.n0 B hB) k.size
   j:=hcx.j _ _ _ _ h.j (k.mono fun B hB=>h.sb B hB)
   sb:=fun B hB=>Nat.lt_of_lt_of_le (h.sb B hB) k.size
   marks:=fun d hd hD=>let ⟨R,h1,h2,h3⟩:=h.marks d hd hD;⟨R,h1,(k.block R (heap_lt h2)).trans h2,h3⟩ }

omit [Glb] in
theorem Sim.freeze (h:Sim cx V σ β I S N a w) {bs:List Box} (hb:∀ (i:Nat) (box:Box),σ.boxes[i]?=some box→bs[i]?=some box∨bs[i]?=some box.freeze) (hl:bs.length=σ.boxes.length) :
    Sim cx V ⟨σ.tmps,bs,σ.y⟩ β I S N a w :=
  { h with
    tm:=h.tm
    j:=h.j
    bx:=fun i b hβ=>by
     obtain ⟨box,h1,h2⟩:=h.bx i b hβ
     rcases hb i box h1 with h3 | h3
     ·exact ⟨box,h3,h2⟩
     ·exact ⟨_,h3,by cases box <;> exact h2⟩
    clear:=fun i b R box hβ hR hbox hf=>by
     have hi:i<σ.boxes.length:=by rw [← hl];exact (List.getElem?_eq_some_iff.1 hbox).1
     have h0:σ.boxes[i]?=some σ.boxes[i]:=List.getElem?_eq_getElem hi
     rcases hb i _ h0 with h3 | h3
     ·have hbox:bs[i]?=some box:=hbox
      rw [hbox] at h3;cases h3
      exact h.clear i b R _ hβ hR h0 hf
     ·have hbox:bs[i]?=some box:=hbox
      rw [hbox] at h3
      cases h3
      revert hf
      generalize σ.boxes[i]=bb
      cases bb <;> (intro hf;cases hf) }

omit [Glb] in
theorem freezeIn_get:∀ (bs:List Box) (k:Nat) (l:List Nat) (i:Nat) (box:Box),bs[i]?=some box→(freezeIn bs k l)[i]?=some (match l.contains (k+i) with | true=>box.freeze | false=>box)
 | [],_,_,_,_,h=>by simp at h
 | b::r,k,l,0,box,h=>by
  simp only [List.getElem?_cons_zero,Option.some.injEq] at h
  subst h
  simp only [freezeIn,List.getElem?_cons_zero,Nat.add_zero]
  cases l.contains k <;> rfl
 | b::r,k,l,i+1,box,h=>by
  simp only [freezeIn,List.getElem?_cons_succ]
  have:=freezeIn_get r (k+1) l i box (by simpa using h)
  rw [this,Nat.add_assoc,Nat.add_comm 1 i]
omit [Glb] in
theorem freezeIn_len:∀ (bs:List Box) (k:Nat) (l:List Nat),(freezeIn bs k l).length=bs.length
 | [],_,_=>rfl
 | _::r,k,l=>by simp [freezeIn,freezeIn_len r (k+1) l]

omit [Glb] in
theorem Box.freeze_fz (b:Box):b.freeze.fz=true:=by cases b <;> rfl

omit [Glb] in
theorem plainAll_get:∀ {ds:List D} {i:Nat} {d:D},plainAll ds=true→ds[i]?=some d→plain d=true
 | [],i,d,_,h=>by simp at h
 | e::r,i,d,hp,h=>by
  simp only [plainAll] at hp
  cases he:plain e with
  | false=>rw [he] at hp;cases hp
  | true =>
   rw [he] at hp
   cases i with
   | zero=>simp at h;subst h;exact he
   | succ i=>exact plainAll_get hp (by simpa using h)

omit [Glb] in
theorem Rel.of_plain {I I':Imm} {β β':BE} {v:Value} {d:D} (h:Rel I β v d):plain d=true→Rel I' β' v d:=by
 induction h with
 | und v=>intro _;exact .und v
 | skp | loc | aloc | rloc | rstale | sl | mstale | yld | mloc | sit | asl | gp=>intro hp;cases hp
 | ro=>intro hp;cases hp
 | mro=>intro hp;cases hp
 | nilm=>intro _;exact .nilm
 | tt=>intro _;exact .tt
 | ff=>intro _;exact .ff
 | bool b=>intro _;exact .bool b
 | int k n=>intro _;exact .int k n
 | str s=>intro _;exact .str s
 | agg cs ds hl h1 _ ih=>intro hp;exact .agg cs ds hl h1 fun i v d hv hd=>ih i v d hv hd (plainAll_get (by simpa [plain] using hp) hd)
 | tup cs ds hl _ ih=>intro hp;exact .tup cs ds hl fun i v d hv hd=>ih i v d hv hd (plainAll_get (by simpa [plain] using hp) hd)
 | nilp=>intro _;exact .nilp
 | list0=>intro hp;cases hp
 | list=>intro hp;cases hp
 | nils a=>intro _;exact .nils a
 | clo fn vs us ds es hl hm _ _ ih ih' =>
  intro hp
  simp only [plain] at hp
  cases hd:plainAll ds with
  | false=>rw [hd] at hp;cases hp
  | true =>
   rw [hd] at hp
   exact .clo fn vs us ds es hl hm (fun i v d hv hd'=>ih i v d hv hd' (plainAll_get hd hd')) fun i v d hv hd'=>ih' i v d hv hd' (plainAll_get hp hd')
 | nilf=>intro _;exact .nilf

open Classical in
noncomputable def backI (σ:St) (β:BE) (I I':Imm):Imm:=fun B off =>
 if ∃ i b box,β i=some b∧b.R=some B∧σ.boxes[i]?=some box∧box.fz=false then I B off else I' B off

theorem Sim.res (hcx:cx.Ok) (h:Sim cx V σ β I S N a w) {w':World} (k:Keep (·<w.heap.size) w w') {L:List Nat} {I':Imm} (hg:Grow w.heap.size (plusB L β w I) I') (ha:Agree I' w') {v:Value} {d:D} (hr:Rel I' nob v d)
    (hL:plain d=true∨∀ (i:Nat) (box:Box),i∈L→σ.boxes[i]?=some box→box.fz=true) :
    ∃ I'',Sim cx V σ β I'' S N a w'∧Rel I'' β v d∧I.le I'':=by
  have hk:=h.keep hcx k
  have hle:I.le I':=Imm.le_trans (plusB_le h.agree L β) hg.1
  have hle':I.le (backI σ β I I'):=fun B off v hv=>by
   unfold backI
   split
   ·exact hv
   ·exact hle B off v hv
  have hagree:Agree (backI σ β I I') w':=fun B off v hv=>by
   unfold backI at hv
   split at hv
   ·exact hk.agree B off v hv
   ·exact ha B off v hv
  refine ⟨backI σ β I I',{ hk with tm:=?_,agree:=hagree,bx:=?_,clear:=?_,I0:=Imm.le_trans h.I0 hle',Iold:=?_,sI:=?_,gh:=fun v d hg=>(h.gh v d hg).mono hle' (BE.le_refl β) },?_,hle'⟩
  ·intro t e hV he
   obtain ⟨u,hu,hue⟩:=h.tm t e hV he
   exact ⟨u,hu,hue.mono hle' (BE.le_refl β)⟩
  ·intro i b hb
   obtain ⟨box,h1,h2⟩:=hk.bx i b hb
   exact ⟨box,h1,h2.mono hle' (BE.le_refl β) fun R hR=>rfl⟩
  ·intro i b R box hb hR hbox hf off
   unfold backI
   rw [if_pos ⟨i,b,box,hb,hR,hbox,hf⟩]
   exact h.clear i b R box hb hR hbox hf off
  ·intro B off hB
   unfold backI
   split
   ·exact h.Iold B off hB
   ·rw [hg.2 B off (h.n0 B hB)]
    unfold plusB
    rw [if_neg]
    ·exact h.Iold B off hB
    ·rintro ⟨i,b,_,hb,hR⟩
     exact (h.own i b B hb hR).1 hB
  ·intro B off v hv hB
   unfold backI at hv
   split at hv
   ·exact h.sI B off v hv hB
   ·intro hS
    have hlt:=h.sb B hS
    rw [hg.2 B off hlt] at hv
    unfold plusB at hv
    split at hv
    ·rename_i hx
     obtain ⟨i,b,_,hb,hR⟩:=hx
     exact (h.own i b B hb hR).2 hS
    ·exact h.sI B off v hv hB hS
  ·rcases hL with hp | hfz
   ·exact hr.of_plain hp
   ·refine hr.mono (fun B off u hu=>?_) (nob_le β)
    unfold backI
    split
    ·rename_i hx
     obtain ⟨i,b,box,hb,hR,hbox,hf⟩:=hx
     obtain ⟨_,_,hh⟩:=(let ⟨bx,h1,h2⟩:=h.bx i b hb;h2.lt hR)
     rw [hg.2 B off (heap_lt hh)] at hu
     unfold plusB at hu
     split at hu
     ·rename_i hy
      obtain ⟨i',b',hi',hb',hR'⟩:=hy
      obtain rfl:=h.apart i i' b b' B hb hb' hR hR'
      rw [hfz i box hi' hbox] at hf
      cases hf
     ·exact hu
    ·exact hu

theorem Sim.new (hcx:cx.Ok) (h:Sim cx V σ β I S N a w) {w':World} (k:Keep (·<w.heap.size) w w') {bs:List Box} {n:Nat} {b:Box} {bi:BI} (hn:β n=none) (hbs:bs[n]?=some b)
    (hold:∀ (i:Nat),(β i).isSome=true→bs[i]?=σ.boxes[i]?) (hR:∀ R,bi.R=some R→w.heap.size≤R) (hbr:BoxRel I β w' bi b) :
    Sim cx V ⟨σ.tmps,bs,σ.y⟩ (fun i=>if i=n then some bi else β i) I S N a w'∧β.le (fun i=>if i=n then some bi else β i):=by
  have hk:=h.keep hcx k
  have hle:β.le (fun i=>if i=n then some bi else β i):=by
   intro i b' hb
   have:i≠n:=fun e=>by subst e;rw [hn] at hb;cases hb
   exact ⟨b',by simp [this,hb],.inl rfl⟩
  have hcase:∀ {i b'},(if i=n then some bi else β i)=some b'→(i=n∧b'=bi)∨(i≠n∧β i=some b'):=by
   intro i b' hb
   by_cases hi:i=n
   ·rw [if_pos hi] at hb;cases hb;exact .inl ⟨hi,rfl⟩
   ·rw [if_neg hi] at hb;exact .inr ⟨hi,hb⟩
  refine ⟨{ hk with tm:=?_,bx:=?_,apart:=?_,own:=?_,clear:=?_,j:=hk.j,gh:=fun v d hg=>(h.gh v d hg).mono I.le_refl hle,le0:=BE.le_trans h.le0 hle },hle⟩
  ·intro t e hV he
   obtain ⟨u,hu,hue⟩:=h.tm t e hV he
   exact ⟨u,hu,hue.mono I.le_refl hle⟩
  ·intro i b' hb
   rcases hcase hb with ⟨rfl,rfl⟩ | ⟨_,hb⟩
   ·exact ⟨b,hbs,hbr.mono I.le_refl hle fun R _=>rfl⟩
   ·obtain ⟨box,h1,h2⟩:=hk.bx i b' hb
    exact ⟨box,(hold i (by simp [hb])).trans h1,h2.mono I.le_refl hle fun R _=>rfl⟩
  ·intro i j b1 b2 R h1 h2 hR1 hR2
   rcases hcase h1 with ⟨e1,e1'⟩ | ⟨hi,g1⟩ <;> rcases hcase h2 with ⟨e2,e2'⟩ | ⟨hj,g2⟩
   ·rw [e1,e2]
   ·obtain ⟨box,_,hb2⟩:=h.bx _ _ g2
    obtain ⟨_,_,hh⟩:=hb2.lt hR2
    have:=heap_lt hh
    have:=hR R (e1' ▸ hR1)
    omega
   ·obtain ⟨box,_,hb2⟩:=h.bx _ _ g1
    obtain ⟨_,_,hh⟩:=hb2.lt hR1
    have:=heap_lt hh
    have:=hR R (e2' ▸ hR2)
    omega
   ·exact h.apart i j b1 b2 R g1 g2 hR1 hR2
  ·intro i b' R hb hRR
   rcases hcase hb with ⟨rfl,rfl⟩ | ⟨_,hb⟩
   ·have:=hR R hRR
    exact ⟨fun ho=>by have:=h.n0 R ho;omega,fun hS=>by have:=h.sb R hS;omega⟩
   ·exact h.own i b' R hb hRR
  ·intro i b' R box hb hRR hbox hf off
   rcases hcase hb with ⟨rfl,rfl⟩ | ⟨_,hb⟩
   ·have hlt:=hR R hRR
    cases hI:I R off with
    | none=>rfl
    | some v=>have:=cell_lt (h.agree R off v hI);omega
   ·exact h.clear i b' R box hb hRR ((hold i (by simp [hb])).symm.trans hbox) hf off

theorem Sim.set (hcx:cx.Ok) (h:Sim cx V σ β I S N a w) {i:Nat} {b b':BI} {box box':Box} (hb:β i=some b) (hbox:σ.boxes[i]?=some box) (hf:box.fz=false) (hmit:∀ fz ks vs,box=.map fz ks vs→noMit i σ.boxes=true) {w':World}
    (k:Keep (fun B=>B<w.heap.size∧b.R≠some B) w w') (hR:∀ R,b'.R=some R→b.R=some R∨w.heap.size≤R) (hle:β.le (fun j=>if j=i then some b' else β j))
    (hbr:BoxRel I (fun j=>if j=i then some b' else β j) w' b' box') :
    Sim cx V ⟨σ.tmps,σ.boxes.set i box',σ.y⟩ (fun j=>if j=i then some b' else β j) I S N a w':=by
  have hcase:∀ {j c},(if j=i then some b' else β j)=some c→(j=i∧c=b')∨(j≠i∧β j=some c):=by
   intro j c hc
   by_cases hj:j=i
   ·rw [if_pos hj] at hc;cases hc;exact .inl ⟨hj,rfl⟩
   ·rw [if_neg hj] at hc;exact .inr ⟨hj,hc⟩
  have hil:i<σ.boxes.length:=(List.getElem?_eq_some_iff.1 hbox).1
  have hagree:Agree I w':=fun B off v hv=>by
   have h1:=h.agree B off v hv
   rw [k.cell ⟨cell_lt h1,fun e=>by have:=h.clear i b B box hb e hbox hf off;rw [this] at hv;cases hv⟩]
   exact h1
  have hother:∀ j c R,j≠i→β j=some c→c.R=some R→w'.heap[R]?=w.heap[R]?:=by
   intro j c R hj hc hcR
   obtain ⟨bx,_,h2⟩:=h.bx j c hc
   obtain ⟨_,_,hh⟩:=h2.lt hcR
   exact k.block R ⟨heap_lt hh,fun e=>hj (h.apart j i c b R hc hb hcR e)⟩
  refine { h with tm:=?_,agree:=hagree,bx:=?_,apart:=?_,own:=?_,clear:=?_,fr:=?_,n0:=fun B hB=>Nat.lt_of_lt_of_le (h.n0 B hB) k.size,j:=?_,sb:=fun B hB=>Nat.lt_of_lt_of_le (h.sb B hB) k.size,gh:=fun v d hg=>(h.gh v d hg).mono I.le_refl hle,le0:=BE.le_trans h.le0 hle,marks:=?_ }
  ·intro t e hV he
   obtain ⟨u,hu,hue⟩:=h.tm t e hV he
   exact ⟨u,hu,hue.mono I.le_refl hle⟩
  ·intro j c hc
   rcases hcase hc with ⟨rfl,rfl⟩ | ⟨hj,hc⟩
   ·exact ⟨box',by simp [hil],hbr⟩
   ·obtain ⟨bx,h1,h2⟩:=h.bx j c hc
    refine ⟨bx,by simp [Ne.symm hj,h1],h2.mono I.le_refl hle fun R hcR=>?_⟩
    rcases hcR with hcR | hcR
    ·exact hother j c R hj hc hcR
    ·cases bx with
     | miter fz q ks vs seen =>
      obtain ⟨bm,hbm,hbR⟩:=hcR
      by_cases hqi:q=i
      ·subst hqi
       obtain ⟨_,R',bm',Rm,es,clock,_,_,_,_,hbm',_,hRm,_,hmap,_⟩:=h2
       rw [hbm] at hbm';cases hbm'
       rw [hb] at hbm;cases hbm
       rw [hbR] at hRm;cases hRm
       obtain ⟨box0,h3,h4⟩:=h.bx q b hb
       rw [hbox] at h3;cases h3
       cases box with
       | map fz' ks' vs'=>exact absurd rfl (noMit_get (hmit _ _ _ rfl) h1)
       | flat=>obtain ⟨_,R2,c2,t2,e1,e2,_⟩:=h4;rw [hbR] at e1;cases e1;rw [hmap] at e2;cases e2
       | rows =>
        obtain ⟨_,_,_,_,_,_,h4⟩:=h4
        rw [hbR] at h4
        obtain ⟨c2,t2,e2,_⟩:=h4
        rw [hmap] at e2;cases e2
       | siter=>obtain ⟨_,R2,e1,e2⟩:=h4;rw [hbR] at e1;cases e1;rw [hmap] at e2;cases e2
       | miter=>obtain ⟨_,R2,_,_,_,_,_,_,_,e1,_,_,_,e2,_⟩:=h4;rw [hbR] at e1;cases e1;rw [hmap] at e2;cases e2
      ·exact hother q bm R hqi hbm hbR
     | _=>exact hcR.elim
  ·intro j1 j2 c1 c2 R h1 h2 hR1 hR2
   have hcross:∀ j c,j≠i→β j=some c→c.R=some R→b'.R=some R→False:=by
    intro j c hj hc hcR hbR
    rcases hR R hbR with e | e
    ·exact hj (h.apart j i c b R hc hb hcR e)
    ·obtain ⟨bx,_,h2⟩:=h.bx j c hc
     obtain ⟨_,_,hh⟩:=h2.lt hcR
     have:=heap_lt hh
     omega
   rcases hcase h1 with ⟨e1,e1'⟩ | ⟨hi,g1⟩ <;> rcases hcase h2 with ⟨e2,e2'⟩ | ⟨hj,g2⟩
   ·rw [e1,e2]
   ·exact (hcross _ _ hj g2 hR2 (e1' ▸ hR1)).elim
   ·exact (hcross _ _ hi g1 hR1 (e2' ▸ hR2)).elim
   ·exact h.apart j1 j2 c1 c2 R g1 g2 hR1 hR2
  ·intro j c R hc hcR
   rcases hcase hc with ⟨rfl,rfl⟩ | ⟨_,hc⟩
   ·rcases hR R hcR with e | e
    ·exact h.own j b R hb e
    ·exact ⟨fun ho=>by have:=h.n0 R ho;omega,fun hS=>by have:=h.sb R hS;omega⟩
   ·exact h.own j c R hc hcR
  ·intro j c R bx hc hcR hbx hfz off
   rcases hcase hc with ⟨rfl,rfl⟩ | ⟨hj,hc⟩
   ·rcases hR R hcR with e | e
    ·exact h.clear j b R box hb e hbox hf off
    ·cases hI:I R off with
     | none=>rfl
     | some v=>have:=cell_lt (h.agree R off v hI);omega
   · have hbx':σ.boxes[j]?=some bx:=by
       have:=hbx
       simp only [List.getElem?_set,if_neg (Ne.symm hj)] at this
       exact this
     exact h.clear j c R bx hc hcR hbx' hfz off
  ·refine hcx.fr _ _ h.fr (k.mono fun B hB=>⟨h.n0 B hB,fun e=>?_⟩)
   exact (h.own i b B hb e).1 hB
  ·refine hcx.j _ _ _ _ h.j (k.mono fun B hB=>⟨h.sb B hB,fun e=>(h.own i b B hb e).2 hB⟩)
  ·intro d hd hD
   obtain ⟨M,h1,h2,h3⟩:=h.marks d hd hD
   refine ⟨M,h1,(k.block M ⟨heap_lt h2,fun e=>?_⟩).trans h2,h3⟩
   obtain ⟨bx,_,hb2⟩:=h.bx i b hb
   obtain ⟨_,hmem,hh⟩:=hb2.lt e
   rw [h2] at hh
   cases hh;exact Bool.noConfusion hmem

end
end Go.V

namespace Go.V
open Go.RowKit

section
variable {P:Program} [Glb] {T:Nat→Option TI} {cx:Cx} {V:Nat→Prop} {σ:St} {β:BE} {I:Imm} {S:Nat→Prop} {N:Nat} {a:Act} {w:World}

omit [Glb] in
theorem Keep.setRow (w:World) (R:Nat) (cs:Array Value):Keep (fun B=>B<w.heap.size∧some R≠some B) w (w.setRow R cs) :=
 ⟨rfl,rfl,rfl,by simp [World.setRow],fun k hk=>setRow_other w R k cs (fun e=>hk.2 (by rw [e]))⟩

omit [Glb] in
theorem run_store_at {t:TypeId} {ti:TI} (h:TIok P t ti) {v:Value} (hl:v.cells.size=ti.size) {R off:Nat} {cur:Array Value} {t':TypeId} (hg:w.heap[R]?=some (.cells cur t' (0,0)))
    (hfit:off+v.cells.size≤cur.size) (h1:∀ u∈v.cells.toList,u.oneCell'=true) :
    (Instr.storeAt t (.pointer (some ⟨R,off,none⟩)) v).run P w=.ok () (w.setRow R (spliceV cur.toList off v.cells.toList).toArray):=by
  have hst:=run_storeCells_at P R off t' v.cells.toList 0 cur w hg (by simpa using hfit) h1
  have hne:¬ v.cells.size≠ti.size:=by omega
  simp only [Nat.add_zero] at hst
  have e:(List.take off cur.toList++v.cells.toList++List.drop (off+v.cells.toList.length) cur.toList)=spliceV cur.toList off v.cells.toList:=by
   simp [spliceV]
  rw [e] at hst
  unfold Instr.storeAt
  simp only [Instr.sureAddr,Sem.run_bind,Sem.run_pure,Result.andThen_ok,storeVar,h.run_sizeOf,Sem.run_ite,if_neg hne]
  exact hst

omit [Glb] in
theorem le_same {β:BE} {i:Nat} {b:BI} (hb:β i=some b):β.le (fun j=>if j=i then some b else β j):=by
 intro j c hc
 by_cases hj:j=i
 ·subst hj;rw [hb] at hc;cases hc;exact ⟨b,by simp,.inl rfl⟩
 ·exact ⟨c,by simp [hj,hc],.inl rfl⟩
omit [Glb] in
theorem same_fun {β:BE} {i:Nat} {b:BI} (hb:β i=some b):(fun j=>if j=i then some b else β j)=β:=by
 funext j
 by_cases hj:j=i
 ·subst hj;simp [hb]
 ·simp [hj]

theorem store_sound (hcx:cx.Ok) (hs:Sim cx V σ β I S N a w) {t:TypeId} {ti:TI} (h:TIok P t ti) {pv xv:Value} {p x:D} (hp:Rel I β pv p) (hx:Rel I β xv x) {k:Eff→Prop}
    (hk:storeE ti σ.boxes p x k):∃ w' i b,(Instr.storeAt t pv xv).run P w=.ok () w'∧k (.set i b .und)∧Sim cx V ⟨σ.tmps,σ.boxes.set i b,σ.y⟩ β I S N a w':=by
  unfold storeE at hk
  cases hc:cellsOf x with
  | none=>rw [hc] at hk;exact hk.elim
  | some ds =>
   rw [hc] at hk
   obtain ⟨hl,hk⟩:=iff'_true hk
   have hl:=Nat.eq_of_beq_eq_true hl
   have hxc:=hx.cells hc
   have hxl:xv.cells.size=ds.length:=by have:=hxc.1.1;simpa using this
   have flat:∀ (i off:Nat) (b:BI) (R:Nat) (cells:List D),β i=some b→b.R=some R→σ.boxes[i]?=some (.flat false cells)→off+ds.length≤cells.length →
       ∃ w',(Instr.storeAt t (.pointer (some ⟨R,off,none⟩)) xv).run P w=.ok () w'∧Sim cx V ⟨σ.tmps,σ.boxes.set i (.flat false (splice cells off ds)),σ.y⟩ β I S N a w':=by
     intro i off b R cells hb hR hbox hle
     obtain ⟨box,hbox',hbr⟩:=hs.bx i b hb
     rw [hbox] at hbox';cases hbox'
     obtain ⟨hfl,R',c,t',hR',hh,hr⟩:=hbr
     rw [hR] at hR';cases hR'
     have hcl:c.size=cells.length:=by have:=hr.1.1;simpa using this
     refine ⟨_,run_store_at h (by omega) hh (by omega) hxc.2,?_⟩
     have:=hs.set hcx hb hbox rfl (fun _ _ _ e=>by cases e) (w':=w.setRow R (spliceV c.toList off xv.cells.toList).toArray) (b':=b) (box':=.flat false (splice cells off ds)) (by rw [hR];exact Keep.setRow w R _) (fun R hR=>.inl hR) (le_same hb)
      ⟨hfl,R,_,t',hR,setRow_heap w R c _ t' _ hh,by rw [same_fun hb];exact hr.splice hxc off⟩
     rw [same_fun hb] at this
     exact this
   cases p with
   | loc i off =>
    cases hbox:σ.boxes[i]? with
    | none=>simp only [hbox] at hk
    | some box =>
     simp only [hbox] at hk
     cases box with
     | rows=>exact hk.elim
     | map=>exact hk.elim
     | siter=>exact hk.elim
     | miter=>exact hk.elim
     | flat fz cells =>
      cases fz with
      | true=>exact hk.elim
      | false =>
       simp only at hk
       cases hf:fits cells off ds.length with
       | false=>rw [hf] at hk;exact hk.elim
       | true =>
        rw [hf] at hk
        cases hp with
        | loc _ _ b R hb _ hR =>
         obtain ⟨w',h1,h2⟩:=flat i off b R cells hb hR hbox (Nat.le_of_ble_eq_true hf)
         exact ⟨w',i,_,h1,hk,h2⟩
   | aloc i off =>
    cases hbox:σ.boxes[i]? with
    | none=>simp only [hbox] at hk
    | some box =>
     simp only [hbox] at hk
     cases box with
     | rows=>exact hk.elim
     | map=>exact hk.elim
     | siter=>exact hk.elim
     | miter=>exact hk.elim
     | flat fz cells =>
      cases fz with
      | true=>exact hk.elim
      | false =>
       obtain ⟨hle,cs,rfl,hk⟩:=hk
       cases hp with
       | aloc _ _ b R hb _ hR =>
        obtain ⟨w',h1,h2⟩:=flat i off b R cells hb hR hbox hle
        exact ⟨w',i,_,h1,hk,h2⟩
   | rloc i g r off =>
    cases hbox:σ.boxes[i]? with
    | none=>simp only [hbox] at hk
    | some box =>
     simp only [hbox] at hk
     cases box with
     | flat=>exact hk.elim
     | map=>exact hk.elim
     | siter=>exact hk.elim
     | miter=>exact hk.elim
     | rows fz g' sz rs =>
      cases fz with
      | true=>exact hk.elim
      | false =>
       simp only at hk
       obtain ⟨hgf,row,hrow,hle,rs',rfl,hk⟩:=iff'_true hk
       cases hgg:Nat.beq g g' with
       | false=>rw [hgg] at hgf;cases hgf
       | true =>
        rw [hgg] at hgf
        have hgg:=Nat.eq_of_beq_eq_true hgg
        cases hp with
        | rstale _ _ _ _ _ b hb _ hg =>
         obtain ⟨box',hbox',hbr⟩:=hs.bx i b hb
         rw [hbox] at hbox';cases hbox'
         obtain ⟨_,h2,_⟩:=hbr
         omega
        | rloc _ _ _ _ b R hb _ hR hg =>
         obtain ⟨box',hbox',hbr⟩:=hs.bx i b hb
         rw [hbox] at hbox';cases hbox'
         obtain ⟨hfl,hg2,hsz,hn,hrows,hcap,hm⟩:=hbr
         rw [hR] at hm
         obtain ⟨c,t',hh,hcs,hd⟩:=hm
         have hrl:=hrows r row hrow
         have hrlt:r<rs.length:=(List.getElem?_eq_some_iff.1 hrow).1
         have hfit:r*sz+off+xv.cells.size≤c.size:=by
          rw [hcs,hxl]
          have:(r+1)*sz≤b.cap*sz:=Nat.mul_le_mul_right _ (by omega)
          rw [Nat.add_mul,Nat.one_mul] at this
          omega
         rw [hsz]
         refine ⟨_,i,_,run_store_at h (by omega) hh hfit hxc.2,hk,?_⟩
         have:=hs.set hcx hb hbox rfl (fun _ _ _ e=>by cases e) (w':=w.setRow R (spliceV c.toList (r*sz+off) xv.cells.toList).toArray) (b':=b) (box':=.rows false g' sz (rs.set r (splice row off ds))) (by rw [hR];exact Keep.setRow w R _) (fun R hR=>.inl hR) (le_same hb) (by
          rw [same_fun hb]
          refine ⟨hfl,hg2,hsz,by simp [hn],?_,by simp [hcap],?_⟩
          ·intro r' row' hr'
           rw [List.getElem?_set] at hr'
           split at hr'
           ·rename_i e
            simp only [Option.some.injEq] at hr'
            subst hr'
            rw [splice_len _ _ _ (by omega)];exact hrl
           ·exact hrows r' row' hr'
          ·rw [hR]
           refine ⟨_,t',setRow_heap w R c _ t' _ hh,?_,?_⟩
           ·simp only [List.size_toArray,spliceV,List.length_append,List.length_take,List.length_drop,Array.length_toList]
            omega
           ·intro r' row' j d hr' hj
            have hxl':xv.cells.toList.length=ds.length:=by simpa using hxl
            have hget:∀ m,(spliceV c.toList (r*sz+off) xv.cells.toList).toArray[m]?=if r*sz+off≤m∧m<r*sz+off+ds.length then xv.cells.toList[m - (r*sz+off)]? else c[m]?:=by
             intro m
             have:=spliceV_get c.toList xv.cells.toList (r*sz+off) m (by simp;omega)
             rw [hxl'] at this
             simpa using this
            rw [hget]
            rw [List.getElem?_set] at hr'
            split at hr'
            ·rename_i e
             subst e
             simp only [Option.some.injEq] at hr'
             subst hr'
             unfold splice at hj
             have htk:(row.take off).length=off:=by simp;omega
             by_cases h1:j<off
             ·rw [List.getElem?_append_left (by omega),List.getElem?_take,if_pos h1] at hj
              rw [if_neg (by omega)]
              exact hd r row j d hrow hj
             ·rw [List.getElem?_append_right (by omega),htk] at hj
              by_cases h2:j<off+ds.length
              ·rw [List.getElem?_append_left (by omega)] at hj
               rw [if_pos ⟨by omega,by omega⟩]
               obtain ⟨v,hv1,hv2,hv3⟩:=hxc.get hj
               exact ⟨v,by rw [← hv1];congr 1;omega,hv2.of_free (allFree_get hgf hj),hv3⟩
              ·rw [List.getElem?_append_right (by omega),List.getElem?_drop] at hj
               rw [if_neg (by omega)]
               exact hd r row j d hrow (by rw [← hj];congr 1;omega)
            ·rename_i e
             have hjl:j<sz:=by rw [← hrows r' row' hr'];exact (List.getElem?_eq_some_iff.1 hj).1
             have hne:¬ (r*sz+off≤r'*sz+j∧r'*sz+j<r*sz+off+ds.length):=by
              rcases Nat.lt_or_gt_of_ne e with hlt | hlt
              ·have:(r+1)*sz≤r'*sz:=Nat.mul_le_mul_right _ hlt
               rw [Nat.add_mul,Nat.one_mul] at this
               omega
              ·have:(r'+1)*sz≤r*sz:=Nat.mul_le_mul_right _ hlt
               rw [Nat.add_mul,Nat.one_mul] at this
               omega
             rw [if_neg hne]
             exact hd r' row' j d hr' hj)
         rw [same_fun hb] at this
         exact this
   | _=>exact hk.elim

end
end Go.V

namespace Go.V
open Go.RowKit

section
variable {P:Program} [Glb] {T:Nat→Option TI} {cx:Cx} {V:Nat→Prop} {σ:St} {β:BE} {I:Imm} {S:Nat→Prop} {N:Nat} {a:Act} {w:World}

omit [Glb] in
theorem rows_of_fun {size:Nat} {rows:List (List D)} {f:Nat→Value} (hrow:∀ (r:Nat) (row:List D),rows[r]?=some row→row.length=size)
    (h:∀ (r:Nat) (row:List D) (j:Nat) (d:D),rows[r]?=some row→row[j]?=some d→Rel I nob (f (r*size+j)) d∧(f (r*size+j)).oneCell'=true) :
    RowsAt I size ((List.range (rows.length*size)).map f) rows:=by
  refine ⟨by simp,hrow,fun r row j d hr hj=>?_⟩
  have hrl:r<rows.length:=(List.getElem?_eq_some_iff.1 hr).1
  have hjl:j<size:=by rw [← hrow r row hr];exact (List.getElem?_eq_some_iff.1 hj).1
  have hin:r*size+j<rows.length*size:=by
   calc r*size+j<r*size+size:=by omega
    _=(r+1)*size:=by rw [Nat.add_mul,Nat.one_mul]
    _≤rows.length*size:=Nat.mul_le_mul_right _ hrl
  obtain ⟨h1,h2⟩:=h r row j d hr hj
  exact ⟨_,by simp [hin],h1,h2⟩

omit [Glb] in
theorem rows_read (hs:Sim cx V σ β I S N a w) {v:Value} {d:D} (hv:Rel I β v d) {sz:Nat} {rows:List (List D)} (hr:rowsOf σ.boxes d=some (sz,rows)) {size:Nat} (hpos:0<size) (hsz:rows=[]∨sz=size) :
    ∃ A c2 f,v=.slice A rows.length c2∧(0<rows.length→∃ B o,A=some ⟨B,o,none⟩∧∀ n,n<rows.length*size→w.cell? ⟨B,o+n,none⟩=some (f n))∧RowsAt I size ((List.range (rows.length*size)).map f) rows:=by
  have empty:∀ A c2,v=.slice A 0 c2→rows=[]→∃ A c2 f,v=.slice A rows.length c2∧(0<rows.length→∃ B o,A=some ⟨B,o,none⟩∧∀ n,n<rows.length*size→w.cell? ⟨B,o+n,none⟩=some (f n))∧RowsAt I size ((List.range (rows.length*size)).map f) rows:=by
   intro A c2 hv hr
   subst hr
   exact ⟨A,c2,fun _=>undef,hv,fun h=>absurd h (by simp),⟨by simp,fun r row h=>by simp at h,fun r row j d h=>by simp at h⟩⟩
  unfold rowsOf at hr
  cases d with
  | list sz' rows' =>
   cases hr
   cases hv with
   | list0 A cap _=>exact empty A cap rfl rfl
   | list B off cap _ _ u hcap hrow hI h1 hu =>
    rcases hsz with rfl | rfl
    ·exact empty _ _ rfl rfl
    ·refine ⟨some ⟨B,off,none⟩,cap,fun n=>u (n / sz) (n % sz),rfl,fun hl=>⟨B,off,rfl,fun n hn=>?_⟩,?_⟩
     ·have h1':n / sz<rows.length:=Nat.div_lt_of_lt_mul (by rw [Nat.mul_comm];exact hn)
      have h2':n % sz<sz:=Nat.mod_lt _ hpos
      have:=cellM_one (hs.agree _ _ _ (hI (n / sz) (n % sz) h1' h2')) (h1 (n / sz) (n % sz) h1' h2')
      have e:n / sz*sz+n % sz=n:=by rw [Nat.mul_comm];exact Nat.div_add_mod n sz
      rw [e] at this
      exact this
     ·refine rows_of_fun hrow fun r row j d hr hj=>?_
      have hjl:j<sz:=by rw [← hrow r row hr];exact (List.getElem?_eq_some_iff.1 hj).1
      have e1:(r*sz+j) / sz=r:=by rw [Nat.mul_comm,Nat.mul_add_div hpos,Nat.div_eq_of_lt hjl,Nat.add_zero]
      have e2:(r*sz+j) % sz=j:=by rw [Nat.mul_comm,Nat.mul_add_mod,Nat.mod_eq_of_lt hjl]
      simp only [e1,e2]
      exact ⟨hu r row j d hr hj,h1 r j (List.getElem?_eq_some_iff.1 hr).1 hjl⟩
  | nils =>
   cases hr
   cases hv with | nils A=>?_
   exact empty A 0 rfl rfl
  | sl i g off len =>
   simp only at hr
   cases hb:σ.boxes[i]? with
   | none=>rw [hb] at hr;cases hr
   | some box =>
    rw [hb] at hr
    cases box with
    | flat=>cases hr
    | map=>cases hr
    | siter=>cases hr
    | miter=>cases hr
    | rows fz g' sz' rs =>
     simp only at hr
     cases hgg:Nat.beq g g' with
     | false=>rw [hgg] at hr;cases hr
     | true =>
      rw [hgg] at hr
      cases hr
      have hgg:=Nat.eq_of_beq_eq_true hgg
      cases hv with
      | mstale _ _ _ _ _ _ b hβ _ hg =>
       obtain ⟨box',hbx',hbr⟩:=hs.bx i b hβ
       rw [hb] at hbx';cases hbx'
       obtain ⟨_,h2,_⟩:=hbr
       omega
      | sl A c _ _ _ _ b hβ _ hg hc hl hn ha =>
       obtain ⟨box',hbx',hbr⟩:=hs.bx i b hβ
       rw [hb] at hbx';cases hbx'
       obtain ⟨_,_,hbsz,hnr,hrow,hcap,hm⟩:=hbr
       have hlen:((rs.drop off).take len).length=len:=by simp;omega
       rcases hsz with he | rfl
       ·have h0:len=0:=by rw [← hlen,he];rfl
        subst h0
        exact empty A c rfl he
       ·rcases Nat.eq_zero_or_pos len with h0 | h0
        ·subst h0
         exact empty A c rfl rfl
        ·obtain ⟨R,hR,rfl⟩:=ha (by omega)
         rw [hR] at hm
         obtain ⟨cc,t,hh,hcs,hd⟩:=hm
         have hget:∀ (r:Nat) (row:List D),((rs.drop off).take len)[r]?=some row→rs[off+r]?=some row:=by
          intro r row hr
          rw [List.getElem?_take] at hr
          split at hr
          ·simpa using hr
          ·cases hr
         rw [hlen]
         refine ⟨some ⟨R,off*b.sz,none⟩,c,fun n=>cc.getD (off*sz+n) undef,rfl,fun _=>⟨R,off*b.sz,rfl,fun n hn'=>?_⟩,?_⟩
         ·rw [cell_of_cells hh,hbsz]
          have:off*sz+n<cc.size:=by
           rw [hcs]
           have:(off+len)*sz≤b.cap*sz:=Nat.mul_le_mul_right _ (by omega)
           rw [Nat.add_mul] at this
           omega
          simp [Array.getD_eq_getD_getElem?,Array.getElem?_eq_getElem this]
         · have:=rows_of_fun (I:=I) (size:=sz) (rows:=(rs.drop off).take len) (f:=fun n=>cc.getD (off*sz+n) undef) (fun r row hr=>hrow _ _ (hget r row hr)) (fun r row j d hr hj=>by
             obtain ⟨v,h3,h4,h5⟩:=hd (off+r) row j d (hget r row hr) hj
             have e:off*sz+(r*sz+j)=(off+r)*sz+j:=by rw [Nat.add_mul];omega
             simp only [e,Array.getD_eq_getD_getElem?,h3,Option.getD_some]
             exact ⟨h4,h5⟩)
           rw [hlen] at this
           exact this
  | _=>cases hr

omit [Glb] in
theorem run_firstCells {A:Option Addr} {m c2 size:Nat} {f:Nat→Value} (h:0<m→∃ B o,A=some ⟨B,o,none⟩∧∀ n,n<m*size→w.cell? ⟨B,o+n,none⟩=some (f n)) {w':World} (k:Keep (·<w.heap.size) w w') :
    (Builtin.firstCells size m (.slice A m c2)).run P w'=.ok ((List.range (m*size)).map f).toArray w':=by
  rcases Nat.eq_zero_or_pos m with rfl | hm
  ·cases A with
   | none=>simp [Builtin.firstCells]
   | some A=>simp [Builtin.firstCells,loadCells,loadCellsFrom]
  ·obtain ⟨B,o,rfl,hc⟩:=h hm
   have:(loadCells ⟨B,o,none⟩ (m*size)).run P w'=.ok ((List.range (m*size)).map f).toArray w':=run_loadCells w' ⟨B,o,none⟩ (m*size) f (fun j hj=>by
    have:=hc j hj
    rw [add_none,k.cellW (cellW_lt this)]
    exact this)
   simpa [Builtin.firstCells] using this

omit [Glb] in
theorem run_append_here {t t1:TypeId} {ti ti1 te:TI} (h:TIok P t ti) {e e1:TypeId} (hd:ti.desc=.slice e) (he:TIok P e te) (h1:TIok P t1 ti1) (hd1:ti1.desc=.slice e1) {ats:Array TypeId} (h0:ats[0]?=some t) (h0':ats[1]?=some t1)
    (ty:TypeId) (A B:Option Addr) (len c m c2:Nat) (hroom:len+m≤c) {news:Array Value} (hf:(Builtin.firstCells te.size m (.slice B m c2)).run P w=.ok news w) {w':World}
    (hst:match (A:Option Addr) with | some a=>(storeCells (a.add (len*te.size)) news.toList).run P w=.ok () w' | none=>w'=w) :
    (Builtin.append_ ats ty #[.slice A len c,.slice B m c2]).run P w=.ok (.slice A (len+m) c) w':=by
  cases A with
  | none =>
   subst hst
   simp [Builtin.append_,h0,h0',run_underlying h.desc,hd,run_underlying h1.desc,hd1,he.run_sizeOf,Builtin.lenOf,hroom,hf]
  | some a =>
   simp only at hst
   simp [Builtin.append_,h0,h0',run_underlying h.desc,hd,run_underlying h1.desc,hd1,he.run_sizeOf,Builtin.lenOf,hroom,hf,hst]

omit [Glb] in
theorem run_append_anew {t t1:TypeId} {ti ti1 te:TI} (h:TIok P t ti) {e e1:TypeId} (hd:ti.desc=.slice e) (he:TIok P e te) (h1:TIok P t1 ti1) (hd1:ti1.desc=.slice e1) {ats:Array TypeId} (h0:ats[0]?=some t) (h0':ats[1]?=some t1)
    (ty:TypeId) (A B:Option Addr) (len c m c2:Nat) (hgrow:c<len+m) (hbpos:0<te.bytes) (hmost:(len+m)*te.bytes≤mostBytes) {olds news:Array Value} (ho:(Builtin.firstCells te.size len (.slice A len c)).run P w.drew=.ok olds w.drew)
    (hf:(Builtin.firstCells te.size m (.slice B m c2)).run P w.drew=.ok news w.drew) :
    ∃ z:Value,z.cells.size=te.size∧(Builtin.append_ ats ty #[.slice A len c,.slice B m c2]).run P w =
     .ok (.slice (some ⟨w.heap.size,0,none⟩) (len+m) (grownCap w (len+m) c e)) (w.drew.alloc (.cells (olds++news++Builtin.zeroCells z.cells (grownCap w (len+m) c e - (len+m))) e)):=by
  obtain ⟨i,hi,his,hib,hp,z,hz,hzl,_⟩:=he.run_typeInfo (P:=P) w
  have hzs:z.cells.size=te.size:=by have:=he.zlen;simp at hzl;omega
  refine ⟨z,hzs,?_⟩
  have hnr:¬ len+m≤c:=by omega
  have hsmall:(len+m)*1≤(len+m)*te.bytes:=Nat.mul_le_mul_left _ hbpos
  have h63:¬ ((9223372036854775807:Int)<((len:Int)+(m:Int))):=by unfold mostBytes at hmost;omega
  have hfit:Builtin.nextslicecap (len+m) c*i.bytes≤281474976710656:=growslice_fits hgrow (by rw [hib];unfold mostBytes at hmost;omega)
  have h48:¬ (281474976710656<Builtin.nextslicecap (len+m) c*i.bytes):=by omega
  have hzv:(zeroValue e).run P w.drew=.ok z w.drew:=by simp [zeroValue,typeInfo,hp,hz]
  have hti:∀ w:World,(typeInfo e).run P w=.ok i w:=fun w=>by simp [typeInfo,hp]
  simp [Builtin.append_,h0,h0',run_underlying h.desc,hd,run_underlying h1.desc,hd1,he.run_sizeOf,Builtin.lenOf,hnr,h63,hti,h48,Question.forced,ho,hf,hzv,newRow,grownCap]

omit [Glb] in
theorem size_zeroCells' (z:Array Value) (n:Nat):(Builtin.zeroCells z n).size=n*z.size:=by simp [Builtin.zeroCells]

omit [Glb] in
theorem new_grown {size n cap:Nat} {c:Array Value} {cs more:List Value} {e:TypeId} {rows:List (List D)} (hr:RowsAt I size cs rows) (hn:rows.length=n) (hcap:n≤cap) (hc:c.toList=cs++more) (hsz:c.size=cap*size) (w:World) (g:Nat) :
    BoxRel I β (w.alloc (.cells c e)) ⟨some w.heap.size,false,g,size,cap,n⟩ (.rows false g size rows):=by
  refine ⟨rfl,rfl,rfl,hn.symm,hr.row,by simp [hn,hcap],c,e,World.alloc_heap_new w _,hsz,?_⟩
  intro r row j d h1 h2
  obtain ⟨v,h3,h4,h5⟩:=hr.cell r row j d h1 h2
  refine ⟨v,?_,h4,h5⟩
  have:c.toList[r*size+j]?=some v:=by
   rw [hc,List.getElem?_append_left (List.getElem?_eq_some_iff.1 h3).1];exact h3
  simpa using this

omit [Glb] in
theorem RowsAt.append {size:Nat} {cs ds:List Value} {xs ys:List (List D)} (h:RowsAt I size cs xs) (h':RowsAt I size ds ys):RowsAt I size (cs++ds) (xs++ys):=by
 refine ⟨by simp [h.len,h'.len,Nat.add_mul],?_,?_⟩
 ·intro r row hr
  by_cases hi:r<xs.length
  ·rw [List.getElem?_append_left hi] at hr;exact h.row r row hr
  ·rw [List.getElem?_append_right (by omega)] at hr;exact h'.row _ row hr
 ·intro r row j d hr hj
  by_cases hi:r<xs.length
  ·rw [List.getElem?_append_left hi] at hr
   obtain ⟨v,h1,h2⟩:=h.cell r row j d hr hj
   exact ⟨v,by rw [List.getElem?_append_left (List.getElem?_eq_some_iff.1 h1).1];exact h1,h2⟩
  ·rw [List.getElem?_append_right (by omega)] at hr
   obtain ⟨v,h1,h2⟩:=h'.cell _ row j d hr hj
   have hle:xs.length*size≤r*size:=Nat.mul_le_mul_right _ (by omega)
   refine ⟨v,?_,h2⟩
   rw [List.getElem?_append_right (by rw [h.len];omega),h.len,← h1]
   congr 1
   rw [Nat.sub_mul];omega

omit [Glb] in
theorem box_rows {b:BI} {fz:Bool} {g sz:Nat} {rs:List (List D)} (h:BoxRel I β w b (.rows fz g sz rs)) {R:Nat} (hR:b.R=some R) :
    ∃ c t,w.heap[R]?=some (.cells c t (0,0))∧c.size=b.cap*sz∧RowsAt I sz (c.toList.take (rs.length*sz)) rs:=by
  obtain ⟨_,_,_,_,hrow,hcap,hm⟩:=h
  rw [hR] at hm
  obtain ⟨c,t,hh,hcs,hd⟩:=hm
  have hle:rs.length*sz≤c.size:=by rw [hcs];exact Nat.mul_le_mul_right _ hcap
  refine ⟨c,t,hh,hcs,by simp;omega,hrow,fun r row j d hr hj=>?_⟩
  obtain ⟨v,h1,h2⟩:=hd r row j d hr hj
  have hrl:r<rs.length:=(List.getElem?_eq_some_iff.1 hr).1
  have hjl:j<sz:=by rw [← hrow r row hr];exact (List.getElem?_eq_some_iff.1 hj).1
  have hin:r*sz+j<rs.length*sz:=by
   calc r*sz+j<r*sz+sz:=by omega
    _=(r+1)*sz:=by rw [Nat.add_mul,Nat.one_mul]
    _≤rs.length*sz:=Nat.mul_le_mul_right _ hrl
  exact ⟨v,by rw [List.getElem?_take,if_pos hin];simpa using h1,h2⟩

theorem append_sound (hcx:cx.Ok) (hs:Sim cx V σ β I S N a w) {t t1:TypeId} {ti ti1 te:TI} (h:TIok P t ti) {e e1:TypeId} (hd:ti.desc=.slice e) (he:TIok P e te) (h1:TIok P t1 ti1) (hd1:ti1.desc=.slice e1)
    {ats:Array TypeId} (h0:ats[0]?=some t) (h0':ats[1]?=some t1) (ty:TypeId) (hpos:0<te.size) (hbpos:0<te.bytes) {sv xv:Value} {s x:D} (hsv:Rel I β sv s) (hxv:Rel I β xv x) (hlast:∀ i,(β i).isSome=true→i<σ.boxes.length) {k:Eff→Prop}
    (hk:appendE σ.boxes te.size te.bytes s x k) :
    ∃ v w' eff,(Builtin.append_ ats ty #[sv,xv]).run P w=.ok v w'∧k eff∧∃ β',Sim cx V ⟨σ.tmps,effBoxes σ eff,σ.y⟩ β' I S N a w'∧Rel I β' v (effVal σ eff)∧(effY σ eff=σ.y∧effT σ eff=σ.tmps) ∧
     ((∀ i,i<(effBoxes σ eff).length→(i<σ.boxes.length→(β i).isSome=true)→(β' i).isSome=true)∧∀ i,i<σ.boxes.length→(β' i).isSome=(β i).isSome):=by
  unfold appendE at hk
  cases hr:rowsOf σ.boxes x with
  | none=>rw [hr] at hk;exact hk.elim
  | some q =>
   obtain ⟨sz,rows⟩:=q
   rw [hr] at hk
   simp only at hk
   obtain ⟨hsz,hk⟩:=hk
   have hsz':rows=[]∨sz=te.size:=by
    split at hsz
    ·rename_i hq;exact .inr (Nat.eq_of_beq_eq_true hq)
    ·exact .inl hsz
   obtain ⟨B,c2,f,rfl,hread,hrows⟩:=rows_read hs hxv hr hpos hsz'
   have hf:∀ w',Keep (·<w.heap.size) w w'→(Builtin.firstCells te.size rows.length (.slice B rows.length c2)).run P w'=.ok ((List.range (rows.length*te.size)).map f).toArray w':=fun w' kk=>run_firstCells hread kk
   have hnews:∀ u∈((List.range (rows.length*te.size)).map f),u.oneCell'=true:=by
    intro u hu
    obtain ⟨n,hn,rfl⟩:=List.getElem_of_mem hu
    have hn':n<rows.length*te.size:=by simpa using hn
    have hr':n / te.size<rows.length:=Nat.div_lt_of_lt_mul (by rw [Nat.mul_comm];exact hn')
    have hj':n % te.size<te.size:=Nat.mod_lt _ hpos
    have hrow:=hrows.row _ _ (List.getElem?_eq_getElem hr')
    obtain ⟨v,h2,_,h3⟩:=hrows.cell (n / te.size) _ (n % te.size) _ (List.getElem?_eq_getElem hr') (List.getElem?_eq_getElem (by rw [hrow];exact hj'))
    have e':n / te.size*te.size+n % te.size=n:=by rw [Nat.mul_comm];exact Nat.div_add_mod n te.size
    rw [e',List.getElem?_eq_getElem hn] at h2
    cases h2
    exact h3
   cases s with
   | nils =>
    obtain ⟨hmost,hk⟩:=hk
    cases hsv with | nils A0=>?_
    have hn:β σ.boxes.length=none:=by
     cases hb:β σ.boxes.length with
     | none=>rfl
     | some b=>exact absurd (hlast _ (by simp [hb])) (Nat.lt_irrefl _)
    have hold:∀ (b:Box) (i:Nat),(β i).isSome=true→(σ.boxes++[b])[i]?=σ.boxes[i]?:=fun b i hi=>List.getElem?_append_left (hlast i hi)
    have htot:∀ (b:Box) (bi:BI),(∀ (i:Nat),i<(σ.boxes++[b]).length→(i<σ.boxes.length→(β i).isSome=true)→((fun i=>if i=σ.boxes.length then some bi else β i) i).isSome=true) ∧
        ∀ i,i<σ.boxes.length→((fun i=>if i=σ.boxes.length then some bi else β i) i).isSome=(β i).isSome:=by
      intro b bi
      refine ⟨fun i hi ht=>?_,fun i hi=>?_⟩
      ·by_cases hl:i=σ.boxes.length
       ·simp [hl]
       ·simp only [hl,if_false];exact ht (by simp at hi;omega)
      ·have hl:i≠σ.boxes.length:=by omega
       simp only [hl,if_false]
    rcases Nat.eq_zero_or_pos rows.length with h00 | hp
    ·have hrun:=run_append_here (w:=w) h hd he h1 hd1 h0 h0' ty A0 B 0 0 rows.length c2 (by omega) (hf w (Keep.refl _ w)) (w':=w) (by cases A0 with | none=>rfl | some A0=>simp [h00,storeCells])
     have hrn:rows=[]:=List.eq_nil_of_length_eq_zero h00
     obtain ⟨hsim,hle⟩:=hs.new hcx (Keep.refl _ w) (bs:=σ.boxes++[.rows false 0 te.size rows]) (n:=σ.boxes.length) (b:=.rows false 0 te.size rows) (bi:=⟨none,false,0,te.size,0,0⟩) hn (by simp) (hold _) (fun R h=>by cases h)
      ⟨rfl,rfl,rfl,h00.symm,hrows.row,by simp [h00],rfl⟩
     refine ⟨_,_,_,hrun,hk,_,hsim,?_,⟨rfl,rfl⟩,htot _ _⟩
     rw [h00]
     exact .sl A0 0 σ.boxes.length 0 0 0 ⟨none,false,0,te.size,0,0⟩ (by simp) rfl rfl rfl (Nat.le_refl _) (Nat.le_refl _) (fun h=>absurd h (by omega))
    ·obtain ⟨z,hz,hrun⟩:=run_append_anew (w:=w) h hd he h1 hd1 h0 h0' ty A0 B 0 0 rows.length c2 (by omega) hbpos (by simpa using hmost) (olds:=#[]) (by cases A0 with | none=>simp [Builtin.firstCells] | some A0=>simp [Builtin.firstCells,loadCells,loadCellsFrom]) (hf w.drew (Keep.drew _ w))
     have hge:=grownCap_ge w (0+rows.length) 0 e
     have hb:=new_grown (β:=β) (e:=e) (c:=#[]++((List.range (rows.length*te.size)).map f).toArray++Builtin.zeroCells z.cells (grownCap w (0+rows.length) 0 e - (0+rows.length))) (cap:=grownCap w (0+rows.length) 0 e)
      (more:=(Builtin.zeroCells z.cells (grownCap w (0+rows.length) 0 e - (0+rows.length))).toList) hrows (by simp) hge (by simp) (by
       simp only [Array.size_append,size_zeroCells',hz,List.size_toArray,List.length_map,List.length_range,Nat.zero_add,List.length_nil]
       have hge':=hge
       simp only [Nat.zero_add] at hge'
       rw [← Nat.add_mul];congr 1;omega) w.drew 0
     obtain ⟨hsim,hle⟩:=hs.new hcx ((Keep.drew _ w).trans (Keep.alloc w.drew _)) (bs:=σ.boxes++[.rows false 0 te.size rows]) (n:=σ.boxes.length) hn (by simp) (hold _) (fun R h=>by cases h;exact Nat.le_refl _) hb
     refine ⟨_,_,_,hrun,hk,_,hsim,?_,⟨rfl,rfl⟩,htot _ _⟩
     have:=Rel.sl (I:=I) (β:=fun i=>if i=σ.boxes.length then some ⟨some w.drew.heap.size,false,0,te.size,grownCap w (0+rows.length) 0 e,0+rows.length⟩ else β i) (some ⟨w.heap.size,0,none⟩) (grownCap w (0+rows.length) 0 e) σ.boxes.length 0 0 (0+rows.length) _ (by simp;rfl) rfl rfl (by simp) hge (by simp) (fun _=>⟨w.heap.size,rfl,by simp⟩)
     simpa [effVal] using this
   | sl i g off len =>
    simp only at hk
    cases hb:σ.boxes[i]? with
    | none=>rw [hb] at hk;exact hk.elim
    | some box =>
     rw [hb] at hk
     cases box with
     | flat=>exact hk.elim
     | map=>exact hk.elim
     | siter=>exact hk.elim
     | miter=>exact hk.elim
     | rows fz g' sz' rs =>
      cases fz with
      | true=>exact hk.elim
      | false =>
       simp only at hk
       obtain ⟨hbs,hlen,hmost,old,hold,all,hall,hko,hk2⟩:=iff'_true hk
       cases hgg:Nat.beq g g' with
       | false=>rw [hgg] at hbs;cases hbs
       | true =>
           rw [hgg] at hbs
           have hgg:=Nat.eq_of_beq_eq_true hgg
           obtain rfl:sz'=te.size:=Nat.eq_of_beq_eq_true hbs
           have hkp:k (.set i (.rows false (g+1) te.size (rs.take off++all)) (.sl i (g+1) off all.length)):=by
            by_cases ho:off=0
            ·subst ho;simpa using hk2
            ·exact offE_inv hko ho
           have htk:rs.take off++all=rs.take (off+len)++rows:=by rw [← hall,← hold,← List.append_assoc,← List.take_add]
           have holdl:old.length=len:=by rw [← hold];simp;omega
           have halll:all.length=len+rows.length:=by rw [← hall,List.length_append,holdl]
           have htl:(rs.take (off+len)++rows).length=off+len+rows.length:=by simp;omega
           have hgetold:∀ (r:Nat) (row:List D),old[r]?=some row→r<len∧rs[off+r]?=some row:=by
            intro r row hr
            rw [← hold,List.getElem?_take] at hr
            split at hr
            ·exact ⟨by assumption,by simpa using hr⟩
            ·cases hr
           rw [htk] at hkp
           rw [hgg] at hkp hk2
           cases hsv with
           | mstale _ _ _ _ _ _ b hβ _ hg =>
            obtain ⟨box',hbx',hbr⟩:=hs.bx i b hβ
            rw [hb] at hbx';cases hbx'
            obtain ⟨_,h2,_⟩:=hbr
            omega
           | sl A c _ _ _ _ b hβ hfl hg hc hl hn ha =>
            obtain ⟨box',hbx',hbr⟩:=hs.bx i b hβ
            rw [hb] at hbx';cases hbx'
            have hbr':=hbr
            obtain ⟨_,hg2,hbsz,hnr,hrow,hcap,hm⟩:=hbr
            have hle:∀ b':BI,b'.flat=false→b'.g=g'+1→β.le (fun j=>if j=i then some b' else β j):=by
             intro b' hb1 hb2 j cj hcj
             by_cases hj:j=i
             ·subst hj
              rw [hβ] at hcj;cases hcj
              exact ⟨b',by simp,.inr ⟨hfl,hb1,by omega⟩⟩
             ·exact ⟨cj,by simp [hj,hcj],.inl rfl⟩
            have htot:∀ (bx:Box) (bi:BI),(∀ (j:Nat),j<(σ.boxes.set i bx).length→(j<σ.boxes.length→(β j).isSome=true)→((fun j=>if j=i then some bi else β j) j).isSome=true) ∧
                ∀ j,j<σ.boxes.length→((fun j=>if j=i then some bi else β j) j).isSome=(β j).isSome:=by
              intro bx bi
              refine ⟨fun j hj ht=>?_,fun j hj=>?_⟩
              ·by_cases hl:j=i
               ·simp [hl]
               ·simp only [hl,if_false];exact ht (by simpa using hj)
              ·by_cases hl:j=i
               ·subst hl;simp [hβ]
               ·simp only [hl,if_false]
            by_cases hroom:len+rows.length≤c
            ·
             rcases Nat.eq_zero_or_pos c with hc0 | hcp
             ·have hlen0:len=0:=by omega
              have hrw0:rows=[]:=List.eq_nil_of_length_eq_zero (by omega)
              have hrun:=run_append_here (w:=w) h hd he h1 hd1 h0 h0' ty A B len c rows.length c2 hroom (hf w (Keep.refl _ w)) (w':=w) (by
               cases A with
               | none=>rfl
               | some A=>simp [hrw0,storeCells])
              have hoff:off=rs.length:=by omega
              have hsame:rs.take (off+len)++rows=rs:=by rw [hrw0,hlen0,hoff];simp
              have hsim:=hs.set hcx hβ hb rfl (fun _ _ _ e=>by cases e) (w':=w) (b':={ b with g:=g'+1 }) (box':=.rows false (g'+1) te.size (rs.take (off+len)++rows)) (Keep.refl _ w) (fun R hR=>.inl hR) (hle _ hfl rfl) (by
               rw [hsame]
               exact ⟨hfl,rfl,hbsz,hnr,hrow,hcap,hm⟩)
              refine ⟨_,_,.set i (.rows false (g'+1) te.size (rs.take (off+len)++rows)) (.sl i (g'+1) off all.length),hrun,hkp,_,hsim,?_,⟨rfl,rfl⟩,htot _ _⟩
              have:=Rel.sl (I:=I) (β:=fun j=>if j=i then some { b with g:=g'+1 } else β j) A c i (g'+1) off all.length { b with g:=g'+1 } (by simp) hfl rfl (by simp;omega) (by omega) (by show off+all.length≤b.n;rw [hnr];simp [halll,hrw0,hlen0];omega) (fun hpos'=>by omega)
              rw [halll] at this ⊢
              simpa [effVal] using this
             ·obtain ⟨R,hR,rfl⟩:=ha hcp
              rw [hR] at hm
              obtain ⟨cc,tt,hh,hcs,hdd⟩:=hm
              have hoff':off*b.sz+len*te.size=(off+len)*te.size:=by rw [hbsz,Nat.add_mul]
              have hfit:(off+len)*te.size+((List.range (rows.length*te.size)).map f).length≤cc.size:=by
               rw [hcs]
               simp only [List.length_map,List.length_range]
               rw [← Nat.add_mul]
               exact Nat.mul_le_mul_right _ (by omega)
              have hst:=run_storeCells_at P R (off*b.sz+len*te.size) tt ((List.range (rows.length*te.size)).map f) 0 cc w hh (by rw [hoff'];simpa using hfit) hnews
              have hrun:=run_append_here (w:=w) h hd he h1 hd1 h0 h0' ty (some ⟨R,off*b.sz,none⟩) B len c rows.length c2 hroom (hf w (Keep.refl _ w)) (w':=w.setRow R (spliceV cc.toList ((off+len)*te.size) ((List.range (rows.length*te.size)).map f)).toArray) (by
               simp only [add_none]
               rw [hst,hoff']
               simp [spliceV])
              have hsim:=hs.set hcx hβ hb rfl (fun _ _ _ e=>by cases e) (w':=w.setRow R (spliceV cc.toList ((off+len)*te.size) ((List.range (rows.length*te.size)).map f)).toArray) (b':={ b with g:=g'+1,n:=off+len+rows.length }) (box':=.rows false (g'+1) te.size (rs.take (off+len)++rows))
               (by rw [hR];exact Keep.setRow w R _) (fun R hR=>.inl hR) (hle _ hfl rfl) (by
                have hlt:∀ (r:Nat) (row:List D),(rs.take (off+len)++rows)[r]?=some row→(r<off+len∧rs[r]?=some row)∨(off+len≤r∧rows[r - (off+len)]?=some row):=by
                 intro r row hr'
                 have htl2:(rs.take (off+len)).length=off+len:=by simp;omega
                 by_cases hr1:r<off+len
                 ·rw [List.getElem?_append_left (by omega),List.getElem?_take,if_pos hr1] at hr'
                  exact .inl ⟨hr1,hr'⟩
                 ·rw [List.getElem?_append_right (by omega),htl2] at hr'
                  exact .inr ⟨by omega,hr'⟩
                refine ⟨hfl,rfl,hbsz,htl.symm,fun r row hr'=>?_,by rw [htl];show off+len+rows.length≤b.cap;omega,?_⟩
                ·rcases hlt r row hr' with ⟨_,h3⟩ | ⟨_,h3⟩
                 ·exact hrow _ _ h3
                 ·exact hrows.row _ _ h3
                show match b.R with
                 | none=>b.cap=0
                 | some R=>_
                rw [hR]
                refine ⟨_,tt,setRow_heap w R cc _ tt _ hh,?_,fun r row j d hr' hj=>?_⟩
                ·simp only [List.size_toArray,spliceV,List.length_append,List.length_take,List.length_drop,Array.length_toList]
                 simp only [List.length_map,List.length_range] at hfit ⊢
                 omega
                ·rw [List.getElem?_toArray]
                 unfold spliceV
                 have htkl:(cc.toList.take ((off+len)*te.size)).length=(off+len)*te.size:=by
                  rw [List.length_take,Array.length_toList];omega
                 rcases hlt r row hr' with ⟨h2,h3⟩ | ⟨h2,h3⟩
                 ·have hjl:j<te.size:=by rw [← hrow r row h3];exact (List.getElem?_eq_some_iff.1 hj).1
                  have hin:r*te.size+j<(off+len)*te.size:=by
                   calc r*te.size+j<r*te.size+te.size:=by omega
                    _=(r+1)*te.size:=by rw [Nat.add_mul,Nat.one_mul]
                    _≤(off+len)*te.size:=Nat.mul_le_mul_right _ h2
                  obtain ⟨v,h5,h6⟩:=hdd r row j d h3 hj
                  refine ⟨v,?_,h6⟩
                  rw [List.getElem?_append_left (by rw [htkl];exact hin),List.getElem?_take,if_pos hin]
                  simpa using h5
                 ·obtain ⟨v,h5,h6⟩:=hrows.cell _ row j d h3 hj
                  refine ⟨v,?_,h6⟩
                  have hle':(off+len)*te.size≤r*te.size:=Nat.mul_le_mul_right _ h2
                  rw [List.getElem?_append_right (by rw [htkl];omega),htkl]
                  have e':r*te.size+j - (off+len)*te.size=(r - (off+len))*te.size+j:=by rw [Nat.sub_mul];omega
                  rw [e',List.getElem?_append_left (List.getElem?_eq_some_iff.1 h5).1]
                  exact h5)
              refine ⟨_,_,.set i (.rows false (g'+1) te.size (rs.take (off+len)++rows)) (.sl i (g'+1) off all.length),hrun,hkp,_,hsim,?_,⟨rfl,rfl⟩,htot _ _⟩
              have:=Rel.sl (I:=I) (β:=fun j=>if j=i then some { b with g:=g'+1,n:=off+len+rows.length } else β j) (some ⟨R,off*b.sz,none⟩) c i (g'+1) off all.length { b with g:=g'+1,n:=off+len+rows.length } (by simp) hfl rfl (by simp;omega) (by omega) (by show off+all.length≤off+len+rows.length;omega) (fun _=>⟨R,hR,rfl⟩)
              rw [halll] at this ⊢
              simpa [effVal] using this
            ·
             have hol:(Builtin.firstCells te.size len (.slice A len c)).run P w.drew=.ok ((List.range (len*te.size)).map fun n=>(match b.R with | some R=>(w.cell? ⟨R,off*te.size+n,none⟩).getD undef | none=>undef)).toArray w.drew:=by
              refine run_firstCells (w:=w) (fun hp=>?_) (Keep.drew _ w)
              obtain ⟨R,hR,rfl⟩:=ha (by omega)
              refine ⟨R,off*b.sz,rfl,fun n hn'=>?_⟩
              obtain ⟨cc,tt,hh,hcs,hra⟩:=box_rows hbr' hR
              have hlt:off*te.size+n<cc.size:=by
               rw [hcs]
               have h5:(off+len)*te.size≤b.cap*te.size:=Nat.mul_le_mul_right _ (by omega)
               rw [Nat.add_mul] at h5
               omega
              simp [hR,hbsz,cell_of_cells hh,Array.getElem?_eq_getElem hlt]
             have hora:RowsAt I te.size ((List.range (old.length*te.size)).map fun n=>(match b.R with | some R=>(w.cell? ⟨R,off*te.size+n,none⟩).getD undef | none=>undef)) old:=by
              refine rows_of_fun (fun r row hr'=>hrow _ _ (hgetold r row hr').2) fun r row j d hr' hj=>?_
              cases hR:b.R with
              | none =>
               rw [hR] at hm
               have:=(hgetold r row hr').1
               omega
              | some R =>
               rw [hR] at hm
               obtain ⟨cc,tt,hh,hcs,hdd⟩:=hm
               obtain ⟨v,h3,h4,h5⟩:=hdd _ row j d (hgetold r row hr').2 hj
               have e':off*te.size+(r*te.size+j)=(off+r)*te.size+j:=by rw [Nat.add_mul];omega
               simp only [e',cell_of_cells hh,h3,Option.getD_some]
               exact ⟨h4,h5⟩
             rw [holdl] at hora
             obtain ⟨z,hz,hrun⟩:=run_append_anew (w:=w) h hd he h1 hd1 h0 h0' ty A B len c rows.length c2 (by omega) hbpos hmost hol (hf w.drew (Keep.drew _ w))
             have hge:=grownCap_ge w (len+rows.length) c e
             have hora2:=hora.append hrows
             rw [hall] at hora2
             have hbx:=fun β=>new_grown (β:=β) (e:=e) (c:=(((List.range (len*te.size)).map fun n=>(match b.R with | some R=>(w.cell? ⟨R,off*te.size+n,none⟩).getD undef | none=>undef)).toArray++((List.range (rows.length*te.size)).map f).toArray++Builtin.zeroCells z.cells (grownCap w (len+rows.length) c e - (len+rows.length)))) (cap:=grownCap w (len+rows.length) c e)
              (more:=(Builtin.zeroCells z.cells (grownCap w (len+rows.length) c e - (len+rows.length))).toList) hora2 halll hge (by simp) (by
               simp only [Array.size_append,size_zeroCells',hz,List.size_toArray,List.length_map,List.length_range]
               rw [← Nat.add_mul,← Nat.add_mul];congr 1;omega) w.drew (g'+1)
             have hsim:=hs.set hcx hβ hb rfl (fun _ _ _ e=>by cases e) (b':=⟨some w.drew.heap.size,false,g'+1,te.size,grownCap w (len+rows.length) c e,len+rows.length⟩) (box':=.rows false (g'+1) te.size all)
              (((Keep.drew _ w).trans (Keep.alloc w.drew _)).mono fun B hB=>hB.1) (fun R hR=>by cases hR;exact .inr (Nat.le_refl _)) (hle _ rfl rfl) (hbx _)
             refine ⟨_,_,.set i (.rows false (g'+1) te.size all) (.sl i (g'+1) 0 all.length),hrun,hk2,_,hsim,?_,⟨rfl,rfl⟩,htot _ _⟩
             have:=Rel.sl (I:=I) (β:=fun j=>if j=i then some ⟨some w.drew.heap.size,false,g'+1,te.size,grownCap w (len+rows.length) c e,len+rows.length⟩ else β j) (some ⟨w.heap.size,0,none⟩) (grownCap w (len+rows.length) c e) i (g'+1) 0 all.length
              ⟨some w.drew.heap.size,false,g'+1,te.size,grownCap w (len+rows.length) c e,len+rows.length⟩ (by simp) rfl rfl (by simp) (by rw [halll];exact hge) (by simp [halll]) (fun _=>⟨w.heap.size,rfl,by simp⟩)
             rw [halll] at this ⊢
             simpa [effVal] using this
   | _=>exact hk.elim

end
end Go.V
