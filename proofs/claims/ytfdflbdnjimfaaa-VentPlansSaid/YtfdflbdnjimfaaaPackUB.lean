/- How a value of the model, in a world, is told by an abstract value; how a frame's state is; The state of a frame of the model, told by an abstract state; Contracts: of functions that change nothing, of those that change boxes, of iterators; How single operations of the model run, told by abstract values: types, memory, numbers; How single operations of the model run, told by abstract values: addresses, slices, numbers; How single operations of the model run, told by abstract values: slices of slices, numbers, equality. No condition. -/
import Derived.RangeFuncNested
import Derived.OrdersIn
import Derived.Laws.Cells
import Derived.Laws.CopyRow
import Derived.KernelRfl
import Derived.Test.YtfdflbdnjimfaaaPackUA

namespace Go.V

abbrev Imm:=Nat→Nat→Option Value

structure BI where
 R:Option Nat
 flat:Bool
 g:Nat
 sz:Nat
 cap:Nat
 n:Nat

abbrev BE:=Nat→Option BI
def nob:BE:=fun _=>none

def encM (es:Array MapEntry):Value:=.tuple (es.map fun e=>.tuple #[e.key,e.val,.int .i64 e.born])

def BornOK (es:List MapEntry):Prop:=es.Pairwise fun e e'=>e.born<e'.born

inductive Rel (I:Imm):BE→Value→D→Prop
 | und {β} (v:Value):Rel I β v .und
 | skp {β}:Rel I β (.tuple #[]) .skp
 | tt {β}:Rel I β (.bool true) .tt
 | ff {β}:Rel I β (.bool false) .ff
 | bool {β} (b:Bool):Rel I β (.bool b) (.bool b)
 | int {β} (k:IntKind) (n:Int):Rel I β (.int k n) (.int k n)
 | str {β} (s:ByteArray):Rel I β (.string s) (.str s)
 | agg {β} (cs:Array Value) (ds:List D) (hl:cs.toList.length=ds.length) (h1:∀ v,v∈cs.toList→v.oneCell'=true) (h:∀ (i:Nat) (v:Value) (d:D),cs.toList[i]?=some v→ds[i]?=some d→Rel I β v d):Rel I β (.agg cs) (.agg ds)
 | tup {β} (cs:Array Value) (ds:List D) (hl:cs.toList.length=ds.length) (h:∀ (i:Nat) (v:Value) (d:D),cs.toList[i]?=some v→ds[i]?=some d→Rel I β v d):Rel I β (.tuple cs) (.tup ds)
 | nilp {β}:Rel I β (.pointer none) .nilp
 | loc {β} (i off:Nat) (b:BI) (R:Nat) (hb:β i=some b) (hf:b.flat=true) (hR:b.R=some R):Rel I β (.pointer (some ⟨R,off,none⟩)) (.loc i off)
 | aloc {β} (i off:Nat) (b:BI) (R:Nat) (hb:β i=some b) (hf:b.flat=true) (hR:b.R=some R):Rel I β (.pointer (some ⟨R,off,none⟩)) (.aloc i off)
 | rloc {β} (i g r off:Nat) (b:BI) (R:Nat) (hb:β i=some b) (hf:b.flat=false) (hR:b.R=some R) (hg:b.g=g):Rel I β (.pointer (some ⟨R,r*b.sz+off,none⟩)) (.rloc i g r off)
 | rstale {β} (a:Addr) (i g r off:Nat) (b:BI) (hb:β i=some b) (hf:b.flat=false) (hg:g<b.g):Rel I β (.pointer (some a)) (.rloc i g r off)
 | ro {β} (B off:Nat) (ds:List D) (u:Nat→Value) (hI:∀ j,j<ds.length→I B (off+j)=some (u j)) (h1:∀ j,j<ds.length→(u j).oneCell'=true) (h:∀ (j:Nat) (d:D),ds[j]?=some d→Rel I nob (u j) d):Rel I β (.pointer (some ⟨B,off,none⟩)) (.ro ds)
 | list0 {β} (a:Option Addr) (cap sz:Nat):Rel I β (.slice a 0 cap) (.list sz [])
 | list {β} (B off cap sz:Nat) (rows:List (List D)) (u:Nat→Nat→Value) (hcap:rows.length≤cap) (hrow:∀ (r:Nat) (row:List D),rows[r]?=some row→row.length=sz)
     (hI:∀ r j,r<rows.length→j<sz→I B (off+(r*sz+j))=some (u r j)) (h1:∀ r j,r<rows.length→j<sz→(u r j).oneCell'=true)
     (h:∀ (r:Nat) (row:List D) (j:Nat) (d:D),rows[r]?=some row→row[j]?=some d→Rel I nob (u r j) d):Rel I β (.slice (some ⟨B,off,none⟩) rows.length cap) (.list sz rows)
 | nils {β} (a:Option Addr):Rel I β (.slice a 0 0) .nils
 | sl {β} (a:Option Addr) (c i g off len:Nat) (b:BI) (hb:β i=some b) (hf:b.flat=false) (hg:b.g=g) (hc:off+c=b.cap) (hl:len≤c) (hn:off+len≤b.n)
     (ha:0<c→∃ R,b.R=some R∧a=some ⟨R,off*b.sz,none⟩):Rel I β (.slice a len c) (.sl i g off len)
 | mstale {β} (a:Option Addr) (c i g off len:Nat) (b:BI) (hb:β i=some b) (hf:b.flat=false) (hg:g<b.g):Rel I β (.slice a len c) (.sl i g off len)
 | clo {β} (fn:Fn) (vs us:Array Value) (ds es:List D) (hl:vs.toList.length=ds.length) (hm:us.toList.length=es.length)
     (h:∀ (i:Nat) (v:Value) (d:D),vs.toList[i]?=some v→ds[i]?=some d→Rel I β v d) (h':∀ (i:Nat) (v:Value) (d:D),us.toList[i]?=some v→es[i]?=some d→Rel I β v d):Rel I β (.func fn vs us) (.clo fn ds es)
 | nilf {β}:Rel I β .nilFunc .nilf
 | yld {β} (l:Nat):Rel I β (.func (.yield l) #[] #[]) (.yld l)
 | nilm {β}:Rel I β (.map none) .nilm
 | mloc {β} (i:Nat) (b:BI) (R:Nat) (hb:β i=some b) (hf:b.flat=true) (hR:b.R=some R):Rel I β (.map (some R)) (.mloc i)
 | sit {β} (i:Nat) (b:BI) (R:Nat) (hb:β i=some b) (hf:b.flat=true) (hR:b.R=some R):Rel I β (.pointer (some ⟨R,0,none⟩)) (.sit i)
 | asl {β} (c i len:Nat) (b:BI) (R:Nat) (hb:β i=some b) (hf:b.flat=true) (hR:b.R=some R):Rel I β (.slice (some ⟨R,0,none⟩) len c) (.asl i len)
 | gp {β} (g off:Nat):Rel I β (.pointer (some ⟨g,off,none⟩)) (.gp g off)
 | mro {β} (R:Nat) (es:List MapEntry) (ks vs:List D) (hI:I R 0=some (encM es.toArray)) (hb:BornOK es) (hl:es.length=ks.length) (hm:es.length=vs.length)
     (h:∀ (i:Nat) (e:MapEntry) (d:D),es[i]?=some e→ks[i]?=some d→Rel I nob e.key d) (h':∀ (i:Nat) (e:MapEntry) (d:D),es[i]?=some e→vs[i]?=some d→Rel I nob e.val d):Rel I β (.map (some R)) (.mro ks vs)

def Imm.le (I I':Imm):Prop:=∀ B off v,I B off=some v→I' B off=some v
theorem Imm.le_refl (I:Imm):I.le I:=fun _ _ _ h=>h
theorem Imm.le_trans {I J K:Imm} (h:I.le J) (k:J.le K):I.le K:=fun B off v hv=>k B off v (h B off v hv)

def BE.le (β β':BE):Prop:=∀ i b,β i=some b→∃ b',β' i=some b'∧(b'=b∨(b.flat=false∧b'.flat=false∧b.g<b'.g))
theorem BE.le_refl (β:BE):β.le β:=fun _ b h=>⟨b,h,.inl rfl⟩
theorem BE.le_trans {α β γ:BE} (h:α.le β) (k:β.le γ):α.le γ:=fun i b hb=>by
 obtain ⟨b',h1,h2⟩:=h i b hb
 obtain ⟨b'',h3,h4⟩:=k i b' h1
 refine ⟨b'',h3,?_⟩
 rcases h2 with rfl | ⟨a1,a2,a3⟩
 ·exact h4
 ·rcases h4 with rfl | ⟨c1,c2,c3⟩
  ·exact .inr ⟨a1,a2,a3⟩
  ·exact .inr ⟨a1,c2,Nat.lt_trans a3 c3⟩
theorem nob_le (β:BE):nob.le β:=fun _ _ h=>by cases h

theorem Rel.mono {I I':Imm} {β:BE} {v:Value} {d:D} (h:Rel I β v d):∀ {β':BE},I.le I'→β.le β'→Rel I' β' v d:=by
 induction h with
 | und v=>intros;exact .und v
 | skp=>intros;exact .skp
 | tt=>intros;exact .tt
 | ff=>intros;exact .ff
 | bool b=>intros;exact .bool b
 | int k n=>intros;exact .int k n
 | str s=>intros;exact .str s
 | agg cs ds hl h1 _ ih=>intro β' hI hβ;exact .agg cs ds hl h1 fun i v d hv hd=>ih i v d hv hd hI hβ
 | tup cs ds hl _ ih=>intro β' hI hβ;exact .tup cs ds hl fun i v d hv hd=>ih i v d hv hd hI hβ
 | nilp=>intros;exact .nilp
 | loc i off b R hb hf hR =>
  intro β' _ hβ
  obtain ⟨b',hb',rfl | ⟨h1,_⟩⟩:=hβ i b hb
  ·exact .loc i off _ R hb' hf hR
  ·rw [hf] at h1;cases h1
 | aloc i off b R hb hf hR =>
  intro β' _ hβ
  obtain ⟨b',hb',rfl | ⟨h1,_⟩⟩:=hβ i b hb
  ·exact .aloc i off _ R hb' hf hR
  ·rw [hf] at h1;cases h1
 | rloc i g r off b R hb hf hR hg =>
  intro β' _ hβ
  obtain ⟨b',hb',rfl | ⟨_,h2,h3⟩⟩:=hβ i b hb
  ·exact .rloc i g r off _ R hb' hf hR hg
  ·exact .rstale _ i g r off b' hb' h2 (hg ▸ h3)
 | rstale a i g r off b hb hf hg =>
  intro β' _ hβ
  obtain ⟨b',hb',rfl | ⟨_,h2,h3⟩⟩:=hβ i b hb
  ·exact .rstale a i g r off _ hb' hf hg
  ·exact .rstale a i g r off b' hb' h2 (Nat.lt_trans hg h3)
 | ro B off ds u hI h1 _ ih=>intro β' hI' _;exact .ro B off ds u (fun j hj=>hI' _ _ _ (hI j hj)) h1 fun j d hd=>ih j d hd hI' (BE.le_refl _)
 | list0 a cap sz=>intros;exact .list0 a cap sz
 | list B off cap sz rows u hc hrow hI h1 _ ih=>intro β' hI' _;exact .list B off cap sz rows u hc hrow (fun r j hr hj=>hI' _ _ _ (hI r j hr hj)) h1 fun r row j d hr hd=>ih r row j d hr hd hI' (BE.le_refl _)
 | nils a=>intros;exact .nils a
 | sl a c i g off len b hb hf hg hc hl hn ha =>
  intro β' _ hβ
  obtain ⟨b',hb',rfl | ⟨_,h2,h3⟩⟩:=hβ i b hb
  ·exact .sl a c i g off len _ hb' hf hg hc hl hn ha
  ·exact .mstale a c i g off len b' hb' h2 (hg ▸ h3)
 | mstale a c i g off len b hb hf hg =>
  intro β' _ hβ
  obtain ⟨b',hb',rfl | ⟨_,h2,h3⟩⟩:=hβ i b hb
  ·exact .mstale a c i g off len _ hb' hf hg
  ·exact .mstale a c i g off len b' hb' h2 (Nat.lt_trans hg h3)
 | clo fn vs us ds es hl hm _ _ ih ih'=>intro β' hI hβ;exact .clo fn vs us ds es hl hm (fun i v d hv hd=>ih i v d hv hd hI hβ) fun i v d hv hd=>ih' i v d hv hd hI hβ
 | nilf=>intros;exact .nilf
 | yld l=>intros;exact .yld l
 | nilm=>intros;exact .nilm
 | mloc i b R hb hf hR =>
  intro β' _ hβ
  obtain ⟨b',hb',rfl | ⟨h1,_⟩⟩:=hβ i b hb
  ·exact .mloc i _ R hb' hf hR
  ·rw [hf] at h1;cases h1
 | sit i b R hb hf hR =>
  intro β' _ hβ
  obtain ⟨b',hb',rfl | ⟨h1,_⟩⟩:=hβ i b hb
  ·exact .sit i _ R hb' hf hR
  ·rw [hf] at h1;cases h1
 | asl c i len b R hb hf hR =>
  intro β' _ hβ
  obtain ⟨b',hb',rfl | ⟨h1,_⟩⟩:=hβ i b hb
  ·exact .asl c i len _ R hb' hf hR
  ·rw [hf] at h1;cases h1
 | gp g off=>intros;exact .gp g off
 | mro R es ks vs hI hb hl hm _ _ ih ih'=>intro β' hI' _;exact .mro R es ks vs (hI' _ _ _ hI) hb hl hm (fun i e d he hd=>ih i e d he hd hI' (BE.le_refl _)) fun i e d he hd=>ih' i e d he hd hI' (BE.le_refl _)

theorem Rel.lift {I I':Imm} {β:BE} {v:Value} {d:D} (h:Rel I nob v d) (hI:I.le I'):Rel I' β v d:=h.mono hI (nob_le β)

def RelL (I:Imm) (β:BE) (vs:List Value) (ds:List D):Prop:=vs.length=ds.length∧∀ (i:Nat) (v:Value) (d:D),vs[i]?=some v→ds[i]?=some d→Rel I β v d

theorem RelL.nil {I:Imm} {β:BE}:RelL I β [] []:=⟨rfl,fun i v d h=>by simp at h⟩
theorem RelL.cons {I:Imm} {β:BE} {v:Value} {d:D} {vs:List Value} {ds:List D} (h:Rel I β v d) (hs:RelL I β vs ds):RelL I β (v::vs) (d::ds):=by
 refine ⟨by simp [hs.1],fun i u e hu he=>?_⟩
 cases i with
 | zero=>simp at hu he;subst hu he;exact h
 | succ i=>exact hs.2 i u e (by simpa using hu) (by simpa using he)
theorem RelL.cons_inv {I:Imm} {β:BE} {d:D} {vs:List Value} {ds:List D} (h:RelL I β vs (d::ds)):∃ v vs',vs=v::vs'∧Rel I β v d∧RelL I β vs' ds:=by
 cases vs with
 | nil=>exact absurd h.1 (by simp)
 | cons v vs =>
  exact ⟨v,vs,rfl,h.2 0 v d rfl rfl,by simpa using h.1,fun i u e hu he=>h.2 (i+1) u e (by simpa using hu) (by simpa using he)⟩
theorem RelL.nil_inv {I:Imm} {β:BE} {vs:List Value} (h:RelL I β vs []):vs=[]:=List.eq_nil_of_length_eq_zero (by simpa using h.1)
theorem RelL.mono {I I':Imm} {β β':BE} {vs:List Value} {ds:List D} (h:RelL I β vs ds) (hI:I.le I') (hβ:β.le β'):RelL I' β' vs ds :=
 ⟨h.1,fun i v d hv hd=>(h.2 i v d hv hd).mono hI hβ⟩
theorem RelL.append {I:Imm} {β:BE} {vs us:List Value} {ds es:List D} (h:RelL I β vs ds) (h':RelL I β us es):RelL I β (vs++us) (ds++es):=by
 refine ⟨by simp [h.1,h'.1],fun i v d hv hd=>?_⟩
 by_cases hi:i<vs.length
 ·rw [List.getElem?_append_left hi] at hv
  rw [List.getElem?_append_left (by rw [← h.1];exact hi)] at hd
  exact h.2 i v d hv hd
 ·rw [List.getElem?_append_right (by omega)] at hv
  rw [List.getElem?_append_right (by have:=h.1;omega)] at hd
  exact h'.2 _ v d hv (by rw [h.1];exact hd)
theorem RelL.drop {I:Imm} {β:BE} {vs:List Value} {ds:List D} (h:RelL I β vs ds) (n:Nat):RelL I β (vs.drop n) (ds.drop n) :=
 ⟨by simp [h.1],fun i v d hv hd=>h.2 (n+i) v d (by simpa using hv) (by simpa using hd)⟩
theorem RelL.take {I:Imm} {β:BE} {vs:List Value} {ds:List D} (h:RelL I β vs ds) (n:Nat):RelL I β (vs.take n) (ds.take n):=by
 refine ⟨by simp [h.1],fun i v d hv hd=>?_⟩
 rw [List.getElem?_take] at hv hd
 split at hv
 ·rename_i hi
  rw [if_pos hi] at hd
  exact h.2 i v d hv hd
 ·cases hv

def RelC (I:Imm) (β:BE) (vs:List Value) (ds:List D):Prop:=RelL I β vs ds∧∀ v,v∈vs→v.oneCell'=true

theorem RelC.mono {I I':Imm} {β β':BE} {vs:List Value} {ds:List D} (h:RelC I β vs ds) (hI:I.le I') (hβ:β.le β'):RelC I' β' vs ds:=⟨h.1.mono hI hβ,h.2⟩
theorem RelC.append {I:Imm} {β:BE} {vs us:List Value} {ds es:List D} (h:RelC I β vs ds) (h':RelC I β us es):RelC I β (vs++us) (ds++es) :=
 ⟨h.1.append h'.1,fun v hv=>by rcases List.mem_append.1 hv with hv | hv;exact h.2 v hv;exact h'.2 v hv⟩
theorem RelC.drop {I:Imm} {β:BE} {vs:List Value} {ds:List D} (h:RelC I β vs ds) (n:Nat):RelC I β (vs.drop n) (ds.drop n):=⟨h.1.drop n,fun v hv=>h.2 v (List.mem_of_mem_drop hv)⟩
theorem RelC.take {I:Imm} {β:BE} {vs:List Value} {ds:List D} (h:RelC I β vs ds) (n:Nat):RelC I β (vs.take n) (ds.take n):=⟨h.1.take n,fun v hv=>h.2 v (List.mem_of_mem_take hv)⟩
theorem RelC.get {I:Imm} {β:BE} {vs:List Value} {ds:List D} (h:RelC I β vs ds) {i:Nat} {d:D} (hd:ds[i]?=some d):∃ v,vs[i]?=some v∧Rel I β v d∧v.oneCell'=true:=by
 have hi:i<vs.length:=by rw [h.1.1];exact (List.getElem?_eq_some_iff.1 hd).1
 exact ⟨vs[i],List.getElem?_eq_getElem hi,h.1.2 i _ d (List.getElem?_eq_getElem hi) hd,h.2 _ (List.getElem_mem hi)⟩

theorem Rel.agg_inv {I:Imm} {β:BE} {v:Value} {ds:List D} (h:Rel I β v (.agg ds)):∃ cs:Array Value,v=.agg cs∧RelC I β cs.toList ds:=by
 cases h with
 | agg cs _ hl h1 h=>exact ⟨cs,rfl,⟨hl,h⟩,h1⟩
theorem Rel.tup_inv {I:Imm} {β:BE} {v:Value} {ds:List D} (h:Rel I β v (.tup ds)):∃ cs:Array Value,v=.tuple cs∧RelL I β cs.toList ds:=by
 cases h with
 | tup cs _ hl h=>exact ⟨cs,rfl,hl,h⟩
theorem Rel.mkAgg {I:Imm} {β:BE} {vs:List Value} {ds:List D} (h:RelC I β vs ds):Rel I β (.agg vs.toArray) (.agg ds):=.agg _ _ (by simpa using h.1.1) (by simpa using h.2) (by simpa using h.1.2)
theorem Rel.mkTup {I:Imm} {β:BE} {vs:List Value} {ds:List D} (h:RelL I β vs ds):Rel I β (.tuple vs.toArray) (.tup ds):=.tup _ _ (by simpa using h.1) (by simpa using h.2)

theorem Rel.tt_inv {I:Imm} {β:BE} {v:Value} (h:Rel I β v .tt):v=.bool true:=by cases h;rfl
theorem Rel.ff_inv {I:Imm} {β:BE} {v:Value} (h:Rel I β v .ff):v=.bool false:=by cases h;rfl
theorem Rel.bool_inv {I:Imm} {β:BE} {v:Value} {b:Bool} (h:Rel I β v (.bool b)):v=.bool b:=by cases h;rfl
theorem Rel.loc_inv {I:Imm} {β:BE} {v:Value} {i off:Nat} (h:Rel I β v (.loc i off)):∃ R,v=.pointer (some ⟨R,off,none⟩):=by cases h;exact ⟨_,rfl⟩
theorem Rel.ro_inv {I:Imm} {β:BE} {v:Value} {cs:List D} (h:Rel I β v (.ro cs)):∃ a,v=.pointer (some a):=by cases h;exact ⟨_,rfl⟩
theorem Rel.clo_inv {I:Imm} {β:BE} {v:Value} {fn:Fn} {ds es:List D} (h:Rel I β v (.clo fn ds es)):∃ vs us:Array Value,v=.func fn vs us∧RelL I β vs.toList ds∧RelL I β us.toList es:=by
 cases h with
 | clo _ vs us _ _ hl hm h h'=>exact ⟨vs,us,rfl,⟨hl,h⟩,hm,h'⟩
theorem Rel.yld_inv {I:Imm} {β:BE} {v:Value} {l:Nat} (h:Rel I β v (.yld l)):v=.func (.yield l) #[] #[]:=by cases h;rfl

def oneD:D→Bool
 | .und | .skp | .tup _ | .agg _=>false
 | _=>true

theorem Rel.one {I:Imm} {β:BE} {v:Value} {d:D} (h:Rel I β v d) (hd:oneD d=true):v.oneCell'=true:=by
 cases h <;> first | rfl | cases hd

theorem one_cells {v:Value} (h:v.oneCell'=true):v.cells=#[v]:=by cases v <;> first | rfl | cases h

theorem Rel.cells {I:Imm} {β:BE} {v:Value} {d:D} {ds:List D} (h:Rel I β v d) (hc:cellsOf d=some ds):RelC I β v.cells.toList ds:=by
 by_cases hd:oneD d=true
 ·have h1:=h.one hd
  have hds:ds=[d]:=by cases d <;> first | (cases hc;rfl) | cases hd
  rw [one_cells h1,hds]
  exact ⟨RelL.cons h .nil,fun u hu=>by simp at hu;subst hu;exact h1⟩
 ·cases d <;> first | (exact absurd rfl hd) | cases hc
  obtain ⟨cs,rfl,hr⟩:=h.agg_inv
  exact hr

end Go.V

namespace Go.V
open Go.RowKit

def eqV:List D→List Value→List Value→Option Bool
 | [],[],[]=>some true
 | .int _ _::z,.int k x::xs,.int k' y::ys=>match same k k' with
  | true=>match eqV z xs ys with
   | none=>none
   | some b=>some (x==y && b)
  | false=>none
 | .ff::z,.bool x::xs,.bool y::ys=>match eqV z xs ys with
  | none=>none
  | some b=>some ((x==y) && b)
 | _,_,_=>none

def zShape (agg:Bool) (z:Value):Bool:=match agg,z with
 | true,.agg _=>true
 | false,.agg _ | false,.tuple _=>false
 | false,_=>true
 | _,_=>false

structure TIok (P:Program) (t:TypeId) (ti:TI):Prop where
 desc:P.underlying t=some ti.desc
 agg:ti.agg=(match ti.desc with | .struct _ | .array _ _=>true | _=>false)
 info:∃ i z,P.info? t=some i∧i.zero=some z∧i.size=ti.size∧i.bytes=ti.bytes∧z.cells.toList.length=ti.zero.length ∧
  (∀ (j:Nat) (v:Value) (d:D),z.cells.toList[j]?=some v→ti.zero[j]?=some d→ofConst v=some d)∧zShape ti.agg z=true
 zlen:ti.zero.length=ti.size
 known:∀ fs,ti.desc=.struct fs→∀ f∈fs.toList,(P.info? f.type).isSome=true
 keq:ti.eqs=true→∀ (w:World) (xs ys:Array Value) (b:Bool),xs.toList.length=ti.size→eqV ti.zero xs.toList ys.toList=some b→(Op.equal t (.agg xs) (.agg ys)).run P w=.ok b w
 kck:ti.eqs=true→∀ (w:World) (em:Bool) (xs:Array Value),xs.toList.length=ti.size→(Instr.checkKey em 10000 t (.agg xs)).run P w=.ok () w
 kfn:ti.eqs=true→∃ fs,ti.desc=.struct fs
 eqs:ti.eqs=true→∀ (w:World) (x y:Operand) (xs ys:Array Value) (b:Bool),xs.toList.length=ti.size→eqV ti.zero xs.toList ys.toList=some b →
  (do eqGuard .eql t x y (.agg xs) (.agg ys);binOp .eql t (.agg xs) (.agg ys):Sem Value).run P w=.ok (.bool b) w ∧
  (do eqGuard .neq t x y (.agg xs) (.agg ys);binOp .neq t (.agg xs) (.agg ys):Sem Value).run P w=.ok (.bool (!b)) w

def TOK (P:Program) (T:Nat→Option TI):Prop:=∀ t ti,T t=some ti→TIok P t ti

structure Keep (S:Nat→Prop) (w w':World):Prop where
 os:w'.os=w.os
 tape:w'.tape=w.tape
 output:w'.output=w.output
 size:w.heap.size≤w'.heap.size
 block:∀ k,S k→w'.heap[k]?=w.heap[k]?

theorem Keep.refl (S:Nat→Prop) (w:World):Keep S w w:=⟨rfl,rfl,rfl,Nat.le_refl _,fun _ _=>rfl⟩
theorem Keep.trans {S:Nat→Prop} {a b c:World} (h:Keep S a b) (k:Keep S b c):Keep S a c :=
 ⟨k.os.trans h.os,k.tape.trans h.tape,k.output.trans h.output,Nat.le_trans h.size k.size,fun i hi=>(k.block i hi).trans (h.block i hi)⟩
theorem Keep.mono {S S':Nat→Prop} {w w':World} (h:Keep S w w') (hs:∀ k,S' k→S k):Keep S' w w':=⟨h.os,h.tape,h.output,h.size,fun k hk=>h.block k (hs k hk)⟩
theorem Keep.alloc (w:World) (o:Obj):Keep (·<w.heap.size) w (w.alloc o):=⟨rfl,rfl,rfl,by simp,fun k hk=>Below.heap_alloc w o k hk⟩
theorem Keep.drew (S:Nat→Prop) (w:World):Keep S w w.drew:=⟨rfl,rfl,rfl,Nat.le_refl _,fun _ _=>rfl⟩
theorem Keep.cellW {S:Nat→Prop} {w w':World} (h:Keep S w w') {B off:Nat} (hB:S B):w'.cell? ⟨B,off,none⟩=w.cell? ⟨B,off,none⟩ :=
 World.cell?_of_block (w:=w) (h.block B hB)

def cellM (w:World) (B off:Nat):Option Value :=
 match w.heap[B]? with
 | some (.map es _)=>if off=0 then some (encM es) else none
 | _=>(w.cell? ⟨B,off,none⟩).filter (·.oneCell')

theorem Keep.cell {S:Nat→Prop} {w w':World} (h:Keep S w w') {B off:Nat} (hB:S B):cellM w' B off=cellM w B off:=by
 unfold cellM
 rw [h.block B hB,h.cellW hB]

theorem cellW_lt {w:World} {B off:Nat} {v:Value} (h:w.cell? ⟨B,off,none⟩=some v):B<w.heap.size:=World.block_lt_of_cell? (a:=⟨B,off,none⟩) (h:=h)
theorem cell_lt {w:World} {B off:Nat} {v:Value} (h:cellM w B off=some v):B<w.heap.size:=by
 unfold cellM at h
 split at h
 ·rename_i hb;exact (Array.getElem?_eq_some_iff.1 hb).1
 ·cases hc:w.cell? ⟨B,off,none⟩ with
  | none=>rw [hc] at h;cases h
  | some u=>exact cellW_lt hc

theorem cellM_of {w:World} {B off:Nat} {v:Value} (h:w.cell? ⟨B,off,none⟩=some v) (h1:v.oneCell'=true):cellM w B off=some v:=by
 unfold cellM
 split
 ·rename_i hb;simp [World.cell?,hb] at h
 ·rw [h];simp [Option.filter,h1]
theorem filter_some {o:Option Value} {v:Value} (h:o.filter (·.oneCell')=some v):o=some v∧v.oneCell'=true:=by
 cases o with
 | none=>cases h
 | some u =>
  simp only [Option.filter] at h
  split at h
  ·cases h;exact ⟨rfl,by assumption⟩
  ·cases h
theorem cellM_one {w:World} {B off:Nat} {v:Value} (h:cellM w B off=some v) (h1:v.oneCell'=true):w.cell? ⟨B,off,none⟩=some v:=by
 unfold cellM at h
 split at h
 ·split at h
  ·cases h;cases h1
  ·cases h
 ·exact (filter_some h).1
theorem cellM_of_cells {w:World} {B:Nat} {c:Array Value} {t:TypeId} {f:Nat × Nat} (h:w.heap[B]?=some (.cells c t f)) {off:Nat} {v:Value} (hv:c[off]?=some v) (h1:v.oneCell'=true):cellM w B off=some v :=
 cellM_of (by simp [World.cell?,h,hv]) h1
theorem cellM_map {w:World} {B:Nat} {es:Array MapEntry} {k:Nat} (h:w.heap[B]?=some (.map es k)):cellM w B 0=some (encM es):=by
 unfold cellM
 rw [h]
 simp
theorem cellM_enc {w:World} {B:Nat} {es:Array MapEntry} (h:cellM w B 0=some (encM es)):∃ k,w.heap[B]?=some (.map es k):=by
 unfold cellM at h
 split at h
 ·rename_i es' k hb
  rw [if_pos rfl] at h
  refine ⟨k,?_⟩
  rw [hb]
  have h2:es'=es:=by
   have h:=Option.some.inj h
   unfold encM at h
   have h3:=congrArg Array.toList (Value.tuple.inj h)
   simp only [Array.toList_map] at h3
   apply Array.toList_inj.1
   have hinj:∀ (l l':List MapEntry),(l.map fun e=>Value.tuple #[e.key,e.val,.int .i64 e.born])=(l'.map fun e=>Value.tuple #[e.key,e.val,.int .i64 e.born])→l=l':=by
    intro l
    induction l with
    | nil=>intro l' h;cases l' with | nil=>rfl | cons x r=>simp at h
    | cons x r ih =>
     intro l' h
     cases l' with
     | nil=>simp at h
     | cons y s =>
      simp only [List.map_cons,List.cons.injEq,Value.tuple.injEq] at h
      obtain ⟨h1,h2⟩:=h
      rw [ih s h2]
      congr 1
      cases x;cases y
      simp at h1
      obtain ⟨a1,a2,a3⟩:=h1
      subst a1 a2
      congr 1
      omega
   exact hinj _ _ h3
  rw [h2]
 ·exact absurd (filter_some h).2 (by simp [encM,Value.oneCell'])
theorem cell_of_cells {w:World} {B:Nat} {c:Array Value} {t:TypeId} {f:Nat × Nat} (h:w.heap[B]?=some (.cells c t f)) (off:Nat):w.cell? ⟨B,off,none⟩=c[off]?:=by
 simp [World.cell?,h]

def Agree (I:Imm) (w:World):Prop:=∀ B off v,I B off=some v→cellM w B off=some v

theorem Agree.keep {I:Imm} {w w':World} (h:Agree I w) (k:Keep (·<w.heap.size) w w'):Agree I w':=fun B off v hv=>by
 have:=h B off v hv
 rw [k.cell (cell_lt this)]
 exact this

def Grow (n:Nat) (I I':Imm):Prop:=I.le I'∧∀ B off,B<n→I' B off=I B off

class Glb where
 tab:Nat→Nat→Option (IntKind × Int)

def glbI [Glb]:Imm:=fun B off=>match Glb.tab B off with | some (k,n)=>some (.int k n) | none=>none

def Enters (P:Program) (f:FuncId):Prop:=∀ args w,(callFunc f args).run P w=.ok (.enter f args) w

def Den [Glb] (P:Program) (f:FuncId) (args:List D) (d:D):Prop :=
 Enters P f∧∀ (w:World) (I:Imm) (vs:List Value),Agree I w→glbI.le I→RelL I nob vs args →
  Calls P f vs.toArray w fun e w'=>∃ v I',e=.returned v∧Keep (·<w.heap.size) w w'∧Grow w.heap.size I I'∧Agree I' w'∧Rel I' nob v d

structure MapRel (I:Imm) (es:List MapEntry) (ks vs:List D):Prop where
 born:BornOK es
 kl:es.length=ks.length
 vl:es.length=vs.length
 k:∀ (i:Nat) (e:MapEntry) (d:D),es[i]?=some e→ks[i]?=some d→Rel I nob e.key d
 v:∀ (i:Nat) (e:MapEntry) (d:D),es[i]?=some e→vs[i]?=some d→Rel I nob e.val d

theorem MapRel.mono {I I':Imm} {es:List MapEntry} {ks vs:List D} (h:MapRel I es ks vs) (hI:I.le I'):MapRel I' es ks vs :=
 ⟨h.born,h.kl,h.vl,fun i e d he hd=>(h.k i e d he hd).lift hI,fun i e d he hd=>(h.v i e d he hd).lift hI⟩

def BoxRel (I:Imm) (β:BE) (w:World) (b:BI):Box→Prop
 | .flat _ cells=>b.flat=true∧∃ R c t,b.R=some R∧w.heap[R]?=some (.cells c t (0,0))∧RelC I β c.toList cells
 | .rows _ g sz rs=>b.flat=false∧b.g=g∧b.sz=sz∧b.n=rs.length∧(∀ (r:Nat) (row:List D),rs[r]?=some row→row.length=sz)∧rs.length≤b.cap ∧
     (match b.R with
      | none=>b.cap=0
      | some R=>∃ c t,w.heap[R]?=some (.cells c t (0,0))∧c.size=b.cap*sz ∧
         ∀ (r:Nat) (row:List D) (j:Nat) (d:D),rs[r]?=some row→row[j]?=some d→∃ v,c[r*sz+j]?=some v∧Rel I nob v d∧v.oneCell'=true)
 | .map _ ks vs=>b.flat=true∧∃ R es clock,b.R=some R∧w.heap[R]?=some (.map es clock)∧(∀ e∈es.toList,e.born<clock)∧MapRel I es.toList ks vs
 | .siter _ s pos=>b.flat=true∧∃ R,b.R=some R∧w.heap[R]?=some (.stringIter s pos)
 | .miter _ i ks vs seen=>b.flat=true∧∃ R bm Rm es clock since c0 sn,b.R=some R∧β i=some bm∧bm.flat=true∧bm.R=some Rm∧w.heap[R]?=some (.mapIter (some Rm) since sn c0)∧w.heap[Rm]?=some (.map es clock) ∧
     (∀ e∈es.toList,e.born<since)∧since≤c0∧since≤clock∧(∀ q∈seen.head?,c0=clock)∧MapRel I es.toList ks vs∧sn.toList=(seen.reverse.map fun q=>((es[q]?).map (·.born)).getD 0)∧∀ q∈seen,q<es.size

def stands (β:BE) (b:BI) (box:Box) (R:Nat):Prop :=
 b.R=some R∨match box with
  | .miter _ i _ _ _=>∃ bm,β i=some bm∧bm.R=some R
  | _=>False

theorem BoxRel.mono {I I':Imm} {β β':BE} {w w':World} {b:BI} {box:Box} (h:BoxRel I β w b box) (hI:I.le I') (hβ:β.le β')
    (hw:∀ R,stands β b box R→w'.heap[R]?=w.heap[R]?):BoxRel I' β' w' b box:=by
  have hw1:∀ R,b.R=some R→w'.heap[R]?=w.heap[R]?:=fun R h=>hw R (.inl h)
  cases box with
  | flat fz cells =>
   obtain ⟨hf,R,c,t,hR,hh,hr⟩:=h
   exact ⟨hf,R,c,t,hR,(hw1 R hR).trans hh,hr.mono hI hβ⟩
  | rows fz g sz rs =>
   obtain ⟨hf,hg,hs,hn,hrow,hcap,h⟩:=h
   refine ⟨hf,hg,hs,hn,hrow,hcap,?_⟩
   cases hR:b.R with
   | none=>rw [hR] at h;exact h
   | some R =>
    rw [hR] at h
    obtain ⟨c,t,hh,hc,hd⟩:=h
    exact ⟨c,t,(hw1 R hR).trans hh,hc,fun r row j d h1 h2=>let ⟨v,h3,h4,h5⟩:=hd r row j d h1 h2;⟨v,h3,h4.lift hI,h5⟩⟩
  | map fz ks vs =>
   obtain ⟨hf,R,es,clock,hR,hh,hc,hm⟩:=h
   exact ⟨hf,R,es,clock,hR,(hw1 R hR).trans hh,hc,hm.mono hI⟩
  | siter fz s pos =>
   obtain ⟨hf,R,hR,hh⟩:=h
   exact ⟨hf,R,hR,(hw1 R hR).trans hh⟩
  | miter fz i ks vs seen =>
   obtain ⟨hf,R,bm,Rm,es,clock,since,c0,sn,hR,hbm,hmf,hRm,h1,h2,h3,h4,h4',h5,h6,h7,h8⟩:=h
   have hbm':β' i=some bm:=by
    obtain ⟨b',hb',rfl | ⟨h,_⟩⟩:=hβ i bm hbm
    ·exact hb'
    ·rw [hmf] at h;cases h
   exact ⟨hf,R,bm,Rm,es,clock,since,c0,sn,hR,hbm',hmf,hRm,(hw R (.inl hR)).trans h1,(hw Rm (.inr ⟨bm,hbm,hRm⟩)).trans h2,h3,h4,h4',h5,h6.mono hI,h7,h8⟩

def isMem:Obj→Bool
 | .cells ..=>true
 | .map ..=>true
 | .stringIter ..=>true
 | .mapIter ..=>true
 | _=>false

theorem BoxRel.lt {I:Imm} {β:BE} {w:World} {b:BI} {box:Box} (h:BoxRel I β w b box) {R:Nat} (hR:b.R=some R):∃ o,isMem o=true∧w.heap[R]?=some o:=by
 cases box with
 | flat fz cells=>obtain ⟨_,R',c,t,hR',hh,_⟩:=h;rw [hR] at hR';cases hR';exact ⟨_,rfl,hh⟩
 | rows fz g sz rs =>
  obtain ⟨_,_,_,_,_,_,h⟩:=h
  rw [hR] at h
  obtain ⟨c,t,hh,_⟩:=h
  exact ⟨_,rfl,hh⟩
 | map fz ks vs=>obtain ⟨_,R',es,t,hR',hh,_⟩:=h;rw [hR] at hR';cases hR';exact ⟨_,rfl,hh⟩
 | siter fz s pos=>obtain ⟨_,R',hR',hh⟩:=h;rw [hR] at hR';cases hR';exact ⟨_,rfl,hh⟩
 | miter fz i ks vs seen=>obtain ⟨_,R',bm,Rm,es,clock,since,c0,sn,hR',hbm,hmf,hRm,h1,_⟩:=h;rw [hR] at hR';cases hR';exact ⟨_,rfl,h1⟩

theorem heap_lt {w:World} {R:Nat} {o:Obj} (h:w.heap[R]?=some o):R<w.heap.size:=(Array.getElem?_eq_some_iff.1 h).1

theorem BoxRel.slt {I:Imm} {β:BE} {w:World} {b:BI} {box:Box} (h:BoxRel I β w b box) {R:Nat} (hR:stands β b box R):R<w.heap.size:=by
 rcases hR with hR | hR
 ·obtain ⟨_,_,hh⟩:=h.lt hR
  exact heap_lt hh
 ·cases box with
  | miter fz i ks vs seen =>
   obtain ⟨_,R',bm,Rm,es,clock,since,c0,sn,_,hbm,_,hRm,_,h2,_⟩:=h
   obtain ⟨bm',h3,h4⟩:=hR
   rw [hbm] at h3;cases h3
   rw [hRm] at h4;cases h4
   exact heap_lt h2
  | _=>exact hR.elim

theorem noMit_get {i:Nat}:∀ {bs:List Box} {j:Nat} {fz:Bool} {i':Nat} {ks vs:List D} {seen:List Nat},noMit i bs=true→bs[j]?=some (.miter fz i' ks vs seen)→i'≠i
 | [],_,_,_,_,_,_,_,h=>by simp at h
 | b::r,0,fz,i',ks,vs,seen,hn,h=>by
  simp at h
  subst h
  simp only [noMit] at hn
  intro e
  subst e
  simp at hn
 | b::r,j+1,fz,i',ks,vs,seen,hn,h=>by
  refine noMit_get (bs:=r) (j:=j) ?_ (by simpa using h)
  cases b with
  | miter _ k _ _ _ =>
   simp only [noMit] at hn
   split at hn
   ·cases hn
   ·exact hn
  | _=>exact hn

structure Cx where
 old:Nat→Prop
 Fr:World→Prop
 J:Yst→(Nat→Prop)→World→Prop
 I0:Imm
 G:Value→D→Prop
 lo:Nat
 b0:BE
 dfr:Deferred→Prop

structure Cx.Ok [Glb] (cx:Cx):Prop where
 gl:glbI.le cx.I0
 fr:∀ w w',cx.Fr w→Keep cx.old w w'→cx.Fr w'
 j:∀ y S w w',cx.J y S w→Keep S w w'→cx.J y S w'
 g:∀ v d,cx.G v d→okAt cx.lo d=true
 b:∀ i b,cx.b0 i=some b→i<cx.lo
 d:∀ d,cx.dfr d→∀ R,d.target≠.collected R

structure Sim (cx:Cx) (V:Nat→Prop) (σ:St) (β:BE) (I:Imm) (S:Nat→Prop) (N:Nat) (a:Act) (w:World):Prop where
 tm:∀ t d,V t→look σ.tmps t=some d→∃ v,a.tmps[t]?=some v∧Rel I β v d
 sz:a.tmps.size=N
 agree:Agree I w
 bx:∀ i b,β i=some b→∃ box,σ.boxes[i]?=some box∧BoxRel I β w b box
 apart:∀ i j b c R,β i=some b→β j=some c→b.R=some R→c.R=some R→i=j
 own:∀ i b R,β i=some b→b.R=some R→¬ cx.old R∧¬ S R
 clear:∀ i b R box,β i=some b→b.R=some R→σ.boxes[i]?=some box→box.fz=false→∀ off,I R off=none
 fr:cx.Fr w
 n0:∀ k,cx.old k→k<w.heap.size
 I0:cx.I0.le I
 Iold:∀ B off,cx.old B→I B off=cx.I0 B off
 j:cx.J σ.y S w
 sb:∀ B,S B→B<w.heap.size
 sI:∀ B off v,I B off=some v→¬ cx.old B→¬ S B
 gh:∀ v d,cx.G v d→Rel I β v d
 le0:cx.b0.le β
 nd:a.defers.Pairwise fun d d'=>d.target≠d'.target
 pres:∀ d,cx.dfr d→d∈a.defers
 dn:∀ d,cx.dfr d→∀ R,d.target≠.collected R
 marks:∀ d∈a.defers,¬ cx.dfr d→∃ R,d={ target:=.collected R,args:=#[] }∧w.heap[R]?=some (.deferred (some []))∧¬ cx.old R∧¬ S R

theorem Sim.ev {cx:Cx} {V:Nat→Prop} {σ:St} {β:BE} {I:Imm} {S:Nat→Prop} {N:Nat} {a:Act} {w:World} (h:Sim cx V σ β I S N a w) {x:Operand} {d:D}
    (hx:∀ t,x=.tmp t→V t) (hd:σ.ev x=some d):Rel I β (a.eval x) d:=by
  cases x with
  | tmp t =>
   obtain ⟨v,hv,hr⟩:=h.tm t d (hx t rfl) hd
   have:a.eval (.tmp t)=v:=by simp [Act.eval,Array.getD_eq_getD_getElem?,hv]
   rw [this];exact hr
  | const v =>
   simp only [St.ev] at hd
   simp only [Act.eval]
   revert hd
   unfold ofConst
   split <;> intro hd <;> cases hd
   ·exact .tt
   ·exact .ff
   ·exact .int _ _
   ·exact .str _
   ·exact .nilp
   ·exact .nils none
   ·exact .nilf
   ·exact .nilm
  | global g =>
   simp only [St.ev,Option.some.injEq] at hd
   subst hd
   exact .gp g 0
  | func f =>
   simp only [St.ev,Option.some.injEq] at hd
   subst hd
   exact .clo _ _ _ _ _ rfl rfl (fun i v d h=>by simp at h) (fun i v d h=>by simp at h)

theorem Sim.evL {cx:Cx} {V:Nat→Prop} {σ:St} {β:BE} {I:Imm} {S:Nat→Prop} {N:Nat} {a:Act} {w:World} (h:Sim cx V σ β I S N a w) :
    ∀ {xs:List Operand} {ds:List D},(∀ x t,x∈xs→x=.tmp t→V t)→σ.evL xs=some ds→RelL I β (xs.map a.eval) ds
  | [],ds,_,hd=>by simp [St.evL] at hd;subst hd;exact .nil
  | x::r,ds,hx,hd=>by
   simp only [St.evL] at hd
   cases h1:σ.ev x with
   | none=>rw [h1] at hd;cases hd
   | some d =>
    rw [h1] at hd
    cases h2:σ.evL r with
    | none=>rw [h2] at hd;cases hd
    | some l =>
     rw [h2] at hd
     cases hd
     exact RelL.cons (h.ev (fun t e=>hx x t (by simp) e) h1) (h.evL (fun y t hy e=>hx y t (by simp [hy]) e) h2)

theorem Sim.put {cx:Cx} {V:Nat→Prop} {σ:St} {β:BE} {I:Imm} {S:Nat→Prop} {N:Nat} {a:Act} {w:World} (h:Sim cx V σ β I S N a w) {dst:Option Nat} {v:Value} {d:D}
    (hd:∀ t,dst=some t→t<N) (hr:dst.isSome=true→Rel I β v d):Sim cx V (σ.put dst d) β I S N (a.put dst v) w:=by
  cases dst with
  | none=>exact h
  | some t =>
   have htN:=hd t rfl
   refine { h with tm:=?_,sz:=by simp [Act.put,h.sz],bx:=h.bx,clear:=h.clear,j:=h.j,marks:=h.marks,pres:=h.pres,dn:=h.dn,nd:=h.nd }
   intro u e hu he
   simp only [St.put,look] at he
   by_cases htu:t=u
   ·subst htu
    simp at he
    subst he
    exact ⟨v,by simp [Act.put,h.sz,htN],hr rfl⟩
   ·have hb:Nat.beq t u=false:=Bool.eq_false_iff.2 fun hh=>htu (Nat.eq_of_beq_eq_true hh)
    rw [hb] at he
    obtain ⟨x,hx,hr'⟩:=h.tm u e hu he
    exact ⟨x,by simp only [Act.put];rw [Array.getElem?_setIfInBounds_ne htu];exact hx,hr'⟩

end Go.V

namespace Go.V
open Go.RowKit

inductive YArgs (old S:Nat→Prop) (I0 I:Imm) (w:World):List Value→List D→(Nat→Prop)→Prop
 | plain (vs:List Value) (x:List D) (h:RelL I nob vs x):YArgs old S I0 I w vs x fun _=>False
 | give (R:Nat) (es:Array MapEntry) (clock:Nat) (ks us:List D) (hR:w.heap[R]?=some (.map es clock)) (hc:∀ e∈es.toList,e.born<clock) (hm:MapRel I es.toList ks us) (hk:plainAll ks=true) (hu:plainAll us=true) (ho:¬ old R) (hS:¬ S R) (hI0:∀ off,I0 R off=none) :
     YArgs old S I0 I w [.map (some R)] [.gmap ks us] fun B=>B=R

def YieldOK (P:Program) (cx:Cx):Prop :=
 ∀ (l:Nat) (x:List D) (r:List (List D)) (S:Nat→Prop) (w:World) (I:Imm) (vs:List Value) (G:Nat→Prop),cx.J (.rem l (x::r)) S w→cx.Fr w→Agree cx.I0 w→(∀ k,cx.old k→k<w.heap.size)→(∀ B,S B→B<w.heap.size) →
  Agree I w→YArgs cx.old S cx.I0 I w vs x G →
  ∃ f tmps assign body,(Instr.yield l vs.toArray).run P w=.ok (.round l f tmps assign body) w ∧
   RoundIn Fence.wide 0 P l f tmps assign body w fun e w'=>∃ b S',e=.returned (.bool b)∧cx.J (match b with | true=>.rem l r | false=>.stopped) S' w'∧Keep (fun k=>k<w.heap.size∧¬ S k∧¬ G k) w w' ∧
    (∀ B,S' B→S B∨w.heap.size≤B∨G B)∧(∀ B,S' B→B<w'.heap.size)∧Agree cx.I0 w'∧cx.Fr w'

def Hp (cx:Cx) (bs:List Box) (y:Yst) (β:BE) (I:Imm) (S:Nat→Prop) (w:World):Prop :=
 Sim cx (fun _=>True) ⟨[],bs,y⟩ β I S 0 { tmps:=#[],defers:=[] } w∧∀ i,i<bs.length→(β i).isSome=true

section
variable [Glb]

def DenY (P:Program) (k:FuncId) (args:List D) (bs:List Box) (y:Yst) (Q:D→List Box→Yst→Prop):Prop :=
 Enters P k∧∀ (cx:Cx) (w:World) (β:BE) (I:Imm) (S:Nat→Prop) (vs:List Value),cx.Ok→YieldOK P cx→cx.lo≤bs.length→Hp cx bs y β I S w→RelL I β vs args →
  Calls P k vs.toArray w fun e w'=>∃ v d bs' y' β' I' S',e=.returned v∧Q d bs' y'∧Hp cx bs' y' β' I' S' w'∧Rel I' β' v d

def DenN (P:Program) (k:FuncId) (args:List D) (b:Box):Prop :=
 Enters P k∧∀ (w:World) (I:Imm) (vs:List Value),Agree I w→glbI.le I→RelL I nob vs args →
  Calls P k vs.toArray w fun e w'=>∃ v bi,e=.returned v∧Keep (·<w.heap.size) w w'∧(∀ R,bi.R=some R→w.heap.size≤R)∧(∀ I' β,BoxRel I' β w' bi b)∧(∀ (I':Imm) (β:BE) (i:Nat),β i=some bi→Rel I' β v (mkOf b i))

def IterDen (P:Program) (k:FuncId) (caps:List D) (xs:List (List D)):Prop :=
 Enters P k∧∀ (w:World) (I:Imm) (vs:List Value) (l:Nat) (J:Yst→(Nat→Prop)→World→Prop) (S:Nat→Prop),Agree I w→glbI.le I→RelL I nob vs caps →
  (∀ y S w w',J y S w→Keep S w w'→J y S w')→YieldOK P ⟨(·<w.heap.size),fun _=>True,J,I,fun _ _=>False,0,nob,fun _=>False⟩→J (.rem l xs) S w→(∀ B,S B→B<w.heap.size) →
  Calls P k (Value.func (.yield l) #[] #[]::vs).toArray w fun e w'=>∃ v y S',e=.returned v∧J y S' w'∧((∃ l',y=.rem l' [])∨y=.stopped)∧(∀ B,S' B→B<w'.heap.size)

def IterDenX (P:Program) (k:FuncId) (caps:List D) (bsX:List Box) (xs:List (List D)):Prop :=
 ∀ l,DenY P k (.yld l::caps) bsX (.rem l xs) fun _ _ y=>(∃ l',y=.rem l' [])∨y=.stopped

structure Kinds where
 sh:Nat→Bool
 nw:Nat→Bool

def endsP (o:Option Value) (e:Ending):Prop:=match o with
 | none=>∃ v,e=.returned v
 | some v=>e=.panicked [{ v,recovered:=false }]

def DenP (P:Program) (k:FuncId) (args:List D) (o:Option Value):Prop :=
 Enters P k∧∀ (w:World) (I:Imm) (vs:List Value),Agree I w→glbI.le I→RelL I nob vs args →
  Calls P k vs.toArray w fun e w'=>Keep (·<w.heap.size) w w'∧endsP o e

abbrev CD (P:Program) (sh:Kinds):Ctr:=⟨Den P,DenY P,sh.sh,DenN P,sh.nw,Glb.tab,DenP P⟩
abbrev ItD (P:Program) (sh:Nat→Bool):Itr:=⟨IterDen P,IterDenX P,sh⟩

end
end Go.V

namespace Go.V
open Go.RowKit

theorem add_none (B off n:Nat):(⟨B,off,none⟩:Addr).add n=⟨B,off+n,none⟩:=by
 unfold Addr.add;split
 ·rename_i h;subst h;rfl
 ·rfl

section
variable {P:Program} {T:Nat→Option TI} {t:TypeId} {ti:TI}

theorem TIok.run_isAgg (h:TIok P t ti) (w:World):(isAgg t).run P w=.ok ti.agg w:=by
 unfold isAgg
 simp only [Sem.run_bind,run_underlying h.desc,Result.andThen_ok]
 rw [h.agg]
 cases ti.desc <;> rfl

theorem TIok.run_typeInfo (h:TIok P t ti) (w:World):∃ i,(typeInfo t).run P w=.ok i w∧i.size=ti.size∧i.bytes=ti.bytes∧P.info? t=some i ∧
    ∃ z,i.zero=some z∧z.cells.toList.length=ti.zero.length∧∀ (j:Nat) (v:Value) (d:D),z.cells.toList[j]?=some v→ti.zero[j]?=some d→ofConst v=some d:=by
  obtain ⟨i,z,hi,hz,hs,hb,hl,hc,_⟩:=h.info
  exact ⟨i,by simp [typeInfo,hi],hs,hb,hi,z,hz,hl,hc⟩

theorem TIok.run_sizeOf (h:TIok P t ti) (w:World):(sizeOf t).run P w=.ok ti.size w:=by
 obtain ⟨i,hi,hs,_⟩:=h.run_typeInfo w
 simp [sizeOf,hi,hs]

theorem ofConst_rel {I:Imm} {β:BE} {v:Value} {d:D} (h:ofConst v=some d):Rel I β v d∧v.oneCell'=true:=by
 revert h
 unfold ofConst
 split <;> intro h <;> cases h
 ·exact ⟨.tt,rfl⟩
 ·exact ⟨.ff,rfl⟩
 ·exact ⟨.int _ _,rfl⟩
 ·exact ⟨.str _,rfl⟩
 ·exact ⟨.nilp,rfl⟩
 ·exact ⟨.nils none,rfl⟩
 ·exact ⟨.nilf,rfl⟩
 ·exact ⟨.nilm,rfl⟩

theorem TIok.run_zero (h:TIok P t ti) (w:World) (I:Imm) (β:BE):∃ z,(zeroValue t).run P w=.ok z w∧RelC I β z.cells.toList ti.zero:=by
 obtain ⟨i,hi,hs,hb,hp,z,hz,hl,hc⟩:=h.run_typeInfo w
 refine ⟨z,by simp [zeroValue,hi,hz],⟨hl,fun j v d hv hd=>(ofConst_rel (hc j v d hv hd)).1⟩,fun v hv=>?_⟩
 obtain ⟨j,hj,rfl⟩:=List.getElem_of_mem hv
 have hjd:j<ti.zero.length:=by omega
 exact (ofConst_rel (I:=I) (β:=β) (hc j _ _ (List.getElem?_eq_getElem hj) (List.getElem?_eq_getElem hjd))).2

theorem TIok.run_zeroD (h:TIok P t ti) (w:World) (I:Imm) (β:BE):∃ z,(zeroValue t).run P w=.ok z w∧Rel I β z (zeroD ti):=by
 obtain ⟨i,z,hi,hz,hs,hb,hl,hc,hsh⟩:=h.info
 refine ⟨z,by simp [zeroValue,typeInfo,hi,hz],?_⟩
 have hrel:RelC I β z.cells.toList ti.zero:=by
  refine ⟨⟨hl,fun j v d hv hd=>(ofConst_rel (hc j v d hv hd)).1⟩,fun v hv=>?_⟩
  obtain ⟨j,hj,rfl⟩:=List.getElem_of_mem hv
  have hjd:j<ti.zero.length:=by omega
  exact (ofConst_rel (I:=I) (β:=β) (hc j _ _ (List.getElem?_eq_getElem hj) (List.getElem?_eq_getElem hjd))).2
 unfold zeroD
 cases ha:ti.agg with
 | true =>
  rw [ha] at hsh
  cases z with
  | agg cs =>
   have:=Rel.mkAgg hrel
   simpa [Value.cells] using this
  | _=>exact Bool.noConfusion hsh
 | false =>
  simp only
  cases hz0:ti.zero with
  | nil=>exact .und _
  | cons d r =>
   rw [ha] at hsh
   have h1:z.oneCell'=true:=by cases z <;> first | rfl | exact Bool.noConfusion hsh
   rw [one_cells h1,hz0] at hrel
   exact hrel.1.2 0 z d rfl rfl

theorem run_loadVar_one (h:TIok P t ti) (ha:ti.agg=false) {w:World} {a:Addr} {v:Value} (hc:w.cell? a=some v):(loadVar t a).run P w=.ok v w:=by
 simp [loadVar,h.run_isAgg,ha,hc]

theorem run_loadVar_agg (h:TIok P t ti) (ha:ti.agg=true) {w:World} {B off:Nat} {cs:List Value} (hl:cs.length=ti.size)
    (hc:∀ (j:Nat) (v:Value),cs[j]?=some v→w.cell? ⟨B,off+j,none⟩=some v):(loadVar t ⟨B,off,none⟩).run P w=.ok (.agg cs.toArray) w:=by
  have:=run_loadCells_list (P:=P) w ⟨B,off,none⟩ cs (fun j v hv=>by rw [add_none];exact hc j v hv)
  rw [hl] at this
  simp [loadVar,h.run_isAgg,ha,h.run_sizeOf,this]

theorem loadE_sound (h:TIok P t ti) {cx:Cx} {V:Nat→Prop} {σ:St} {β:BE} {I:Imm} {S:Nat→Prop} {N:Nat} {a:Act} {w:World} (hs:Sim cx V σ β I S N a w)
    {pv:Value} {p:D} (hp:Rel I β pv p) {k:Eff→Prop} (hk:loadE ti σ.boxes p k) :
    ∃ v d,(Instr.loadAt t pv).run P w=.ok v w∧k (.val d)∧Rel I β v d:=by
  -- a run of cells that are told
  have agg:∀ (B off:Nat) (vs:List Value) (ds:List D),ti.agg=true→(∀ (j:Nat) (v:Value),vs[j]?=some v→w.cell? ⟨B,off+j,none⟩=some v)→RelC I β vs ds→ds.length=ti.size →
      ∃ v,(Instr.loadAt t (.pointer (some ⟨B,off,none⟩))).run P w=.ok v w∧Rel I β v (.agg ds):=by
    intro B off vs ds ha hc hr hl
    exact ⟨_,by simp only [Instr.loadAt,Instr.sureAddr];simpa using run_loadVar_agg h ha (hr.1.1.trans hl) hc,Rel.mkAgg hr⟩
  have one:∀ (B off:Nat) (v:Value),ti.agg=false→w.cell? ⟨B,off,none⟩=some v→(Instr.loadAt t (.pointer (some ⟨B,off,none⟩))).run P w=.ok v w:=by
   intro B off v ha hc
   simp only [Instr.loadAt,Instr.sureAddr]
   simpa using run_loadVar_one h ha hc
  have sub:∀ (off n:Nat) (vs:List Value) (ds:List D),RelC I β vs ds→∀ e,readAgg ds off n=some e→e=.agg ((ds.drop off).take n)∧((ds.drop off).take n).length=n∧RelC I β ((vs.drop off).take n) ((ds.drop off).take n):=by
   intro off n vs ds hr e he
   unfold readAgg at he
   split at he
   ·rename_i hf
    cases he
    have hle:off+n≤ds.length:=Nat.le_of_ble_eq_true hf
    exact ⟨rfl,by simp;omega,(hr.drop off).take n⟩
   ·cases he
  have slice:∀ (off n:Nat) (vs:List Value) (j:Nat) (v:Value),((vs.drop off).take n)[j]?=some v→vs[off+j]?=some v:=by
   intro off n vs j v hv
   rw [List.getElem?_take] at hv
   split at hv
   ·simpa using hv
   ·cases hv
  cases p with
  | loc i off =>
   cases hp with
   | loc _ _ b R hb hf hR =>
   obtain ⟨box,hbox,hbr⟩:=hs.bx i b hb
   simp only [loadE,hbox] at hk
   cases box with
   | rows=>exact hk.elim
   | map=>exact hk.elim
   | siter=>exact hk.elim
   | miter=>exact hk.elim
   | flat fz cells =>
    obtain ⟨_,R',c,t',hR',hh,hr⟩:=hbr
    rw [hR] at hR';cases hR'
    have hcell:∀ (j:Nat),w.cell? ⟨R,j,none⟩=c.toList[j]?:=fun j=>by rw [cell_of_cells hh];simp
    cases ha:ti.agg with
    | true =>
     simp only [ha] at hk
     cases he:readAgg cells off ti.size with
     | none=>rw [he] at hk;exact hk.elim
     | some e =>
      rw [he] at hk
      simp only [forceA_eq] at hk
      obtain ⟨rfl,hl,hrc⟩:=sub off ti.size _ _ hr e he
      obtain ⟨v,hv,hvr⟩:=agg R off _ _ ha (fun j v hv=>by rw [hcell];exact slice _ _ _ _ _ hv) hrc hl
      exact ⟨v,_,hv,hk,hvr⟩
    | false =>
     simp only [ha] at hk
     cases he:cells[off]? with
     | none=>rw [he] at hk;exact hk.elim
     | some e =>
      rw [he] at hk
      obtain ⟨v,hv,hvr,_⟩:=hr.get he
      exact ⟨v,e,one R off v ha (by rw [hcell];exact hv),hk,hvr⟩
  | aloc i off =>
   cases hp with
   | aloc _ _ b R hb hf hR =>
   obtain ⟨box,hbox,hbr⟩:=hs.bx i b hb
   simp only [loadE,hbox] at hk
   cases box with
   | rows=>exact hk.elim
   | map=>exact hk.elim
   | siter=>exact hk.elim
   | miter=>exact hk.elim
   | flat fz cells =>
    obtain ⟨_,R',c,t',hR',hh,hr⟩:=hbr
    rw [hR] at hR';cases hR'
    have hcell:∀ (j:Nat),w.cell? ⟨R,j,none⟩=c.toList[j]?:=fun j=>by rw [cell_of_cells hh];simp
    cases ha:ti.agg with
    | true =>
     simp only [ha] at hk
     obtain ⟨cs,hcs,hl,hk⟩:=hk
     obtain ⟨v,hv,hvr⟩:=agg R off _ cs ha (fun j v hv=>by rw [hcell];exact slice off ti.size _ _ _ hv) (hcs ▸ (hr.drop off).take ti.size) hl
     exact ⟨v,_,hv,hk,hvr⟩
    | false =>
     simp only [ha] at hk
     obtain ⟨d,he,hk⟩:=hk
     obtain ⟨v,hv,hvr,_⟩:=hr.get he
     exact ⟨v,d,one R off v ha (by rw [hcell];exact hv),hk,hvr⟩
  | rloc i g r off =>
   cases hp with
   | rstale x _ _ _ _ b hb hf hg =>
    obtain ⟨box,hbox,hbr⟩:=hs.bx i b hb
    simp only [loadE,hbox] at hk
    cases box with
    | flat=>exact hk.elim
    | map=>exact hk.elim
    | siter=>exact hk.elim
    | miter=>exact hk.elim
    | rows fz g' sz rs =>
     obtain ⟨_,hg',_⟩:=hbr
     have:Nat.beq g g'=false:=Bool.eq_false_iff.2 fun e=>by have:=Nat.eq_of_beq_eq_true e;omega
     simp only [this,Iff'] at hk
   | rloc _ _ _ _ b R hb hf hR hg =>
   obtain ⟨box,hbox,hbr⟩:=hs.bx i b hb
   simp only [loadE,hbox] at hk
   cases box with
   | flat=>exact hk.elim
   | map=>exact hk.elim
   | siter=>exact hk.elim
   | miter=>exact hk.elim
   | rows fz g' sz rs =>
    obtain ⟨_,hg',hsz,_,hrow,hcap,hm⟩:=hbr
    have:Nat.beq g g'=true:=by rw [← hg,← hg'];exact Nat.beq_refl _
    simp only [this,Iff'] at hk
    obtain ⟨row,hrw,hk⟩:=hk
    rw [hR] at hm
    obtain ⟨c,t',hh,hcs,hd⟩:=hm
    rw [hsz]
    have hcell:∀ (j:Nat),w.cell? ⟨R,j,none⟩=c.toList[j]?:=fun j=>by rw [cell_of_cells hh];simp
    -- the cells of the row
    have hrl:=hrow r row hrw
    have hget:∀ (j:Nat) (d:D),row[j]?=some d→∃ v,c.toList[r*sz+j]?=some v∧Rel I nob v d∧v.oneCell'=true:=fun j d hj=>by
     obtain ⟨v,h1,h2,h3⟩:=hd r row j d hrw hj
     exact ⟨v,by simpa using h1,h2,h3⟩
    have hin:∀ j,j<row.length→r*sz+j<c.toList.length:=fun j hj=>by
     obtain ⟨v,h1,_⟩:=hget j _ (List.getElem?_eq_getElem hj)
     exact (List.getElem?_eq_some_iff.1 h1).1
    have hrc:RelC I β ((c.toList.drop (r*sz)).take row.length) row:=by
     have hlen:((c.toList.drop (r*sz)).take row.length).length=row.length:=by
      rcases Nat.eq_zero_or_pos row.length with h0 | h0
      ·simp [h0]
      ·have:=hin (row.length - 1) (by omega)
       simp only [List.length_take,List.length_drop]
       omega
     refine ⟨⟨hlen,fun j v d hv hj=>?_⟩,fun v hv=>?_⟩
     ·obtain ⟨v',h1,h2,_⟩:=hget j d hj
      have:=slice _ _ _ _ _ hv
      rw [h1] at this;cases this
      exact h2.lift I.le_refl
     ·obtain ⟨j,hj,rfl⟩:=List.getElem_of_mem hv
      have hj':j<row.length:=by omega
      obtain ⟨v',h1,_,h3⟩:=hget j _ (List.getElem?_eq_getElem hj')
      have:=slice (r*sz) row.length c.toList j _ (List.getElem?_eq_getElem hj)
      rw [h1] at this;cases this
      exact h3
    cases ha:ti.agg with
    | true =>
     simp only [ha] at hk
     cases he:readAgg row off ti.size with
     | none=>rw [he] at hk;exact hk.elim
     | some e =>
      rw [he] at hk
      simp only [forceA_eq] at hk
      obtain ⟨rfl,hl,hrc'⟩:=sub off ti.size _ _ hrc e he
      obtain ⟨v,hv,hvr⟩:=agg R (r*sz+off) _ _ ha (fun j v hv=>by rw [hcell,Nat.add_assoc];exact slice _ _ _ _ _ (slice _ _ _ _ _ hv)) hrc' hl
      exact ⟨v,_,hv,hk,hvr⟩
    | false =>
     simp only [ha] at hk
     cases he:row[off]? with
     | none=>rw [he] at hk;exact hk.elim
     | some e =>
      rw [he] at hk
      obtain ⟨v,h1,h2,_⟩:=hget off e he
      exact ⟨v,e,one R _ v ha (by rw [hcell];exact h1),hk,h2.lift I.le_refl⟩
  | ro cells =>
   cases hp with
   | ro B off _ u hI h1 hu =>
   have hcell:∀ j,j<cells.length→w.cell? ⟨B,off+j,none⟩=some (u j):=fun j hj=>cellM_one (hs.agree _ _ _ (hI j hj)) (h1 j hj)
   have hrc:RelC I β ((List.range cells.length).map u) cells:=by
    refine ⟨⟨by simp,fun j v d hv hd=>?_⟩,fun v hv=>?_⟩
    ·have hj:j<cells.length:=(List.getElem?_eq_some_iff.1 hd).1
     simp [hj] at hv
     subst hv
     exact (hu j d hd).lift I.le_refl
    ·simp at hv
     obtain ⟨j,hj,rfl⟩:=hv
     exact h1 j hj
   simp only [loadE] at hk
   cases ha:ti.agg with
   | true =>
    simp only [ha] at hk
    cases he:readAgg cells 0 ti.size with
    | none=>rw [he] at hk;exact hk.elim
    | some e =>
     rw [he] at hk
     simp only [forceA_eq] at hk
     obtain ⟨rfl,hl,hrc'⟩:=sub 0 ti.size _ _ hrc e he
     obtain ⟨v,hv,hvr⟩:=agg B off _ _ ha (fun j v hv=>by
      have h2:=slice _ _ _ _ _ hv
      have hj:j<cells.length:=by
       have:=(List.getElem?_eq_some_iff.1 h2).1
       simpa using this
      simp [hj] at h2
      rw [hcell j hj,h2]) hrc' hl
     exact ⟨v,_,hv,hk,hvr⟩
   | false =>
    simp only [ha] at hk
    cases cells with
    | nil=>exact hk.elim
    | cons d r=>exact ⟨u 0,d,one B off _ ha (hcell 0 (by simp)),hk,(hu 0 d rfl).lift I.le_refl⟩
  | _=>exact hk.elim
end

end Go.V

namespace Go.V
open Go.RowKit

section
variable {P:Program} {T:Nat→Option TI} {cx:Cx} {V:Nat→Prop} {σ:St} {β:BE} {I:Imm} {S:Nat→Prop} {N:Nat} {a:Act} {w:World}

theorem iff'_true {b:Bool} {p:Prop} (h:Iff' b p):b=true∧p:=by
 cases b
 ·exact h.elim
 ·exact ⟨rfl,h⟩

theorem fieldAddr_sound (hT:TOK P T) {t:TypeId} {ti:TI} (ht:T t=some ti) {pv:Value} {p:D} (hp:Rel I β pv p) {f off:Nat} {tf:TI}
    (hf:fieldTI T ti.desc f=some (off,tf)) (hpos:0<tf.size) {k:Eff→Prop} (hk:fieldAddrE p off k) :
    ∃ v d,(Instr.fieldAt t pv f).run P w=.ok v w∧k (.val d)∧Rel I β v d:=by
  have h:=hT t ti ht
  unfold fieldTI at hf
  cases hd:ti.desc with
  | struct fs =>
   rw [hd] at hf
   simp only at hf
   cases hx:fs[f]? with
   | none=>rw [hx] at hf;cases hf
   | some x =>
    rw [hx] at hf
    simp only at hf
    cases hy:T x.type with
    | none=>rw [hy] at hf;cases hf
    | some tx =>
     rw [hy] at hf
     cases hf
     have hsz:=(hT _ _ hy).run_sizeOf (P:=P) w
     have hne:¬ tf.size=0:=by omega
     have key':∀ (A:Addr),(Instr.fieldAt t (.pointer (some A)) f).run P w=.ok (.pointer (some (A.add x.offset))) w:=by
      intro A
      unfold Instr.fieldAt
      simp only [Sem.run_bind,run_underlying (h.desc),hd,Result.andThen_ok,hx,Instr.sureAddr,Sem.run_pure,fieldPlace,hsz,if_neg hne]
     have key:∀ (B o:Nat),(Instr.fieldAt t (.pointer (some ⟨B,o,none⟩)) f).run P w=.ok (.pointer (some ⟨B,o+x.offset,none⟩)) w:=by
      intro B o
      rw [key',add_none]
     cases p with
     | loc i o=>cases hp with | loc _ _ b R hb hfl hR=>simp only [fieldAddrE,litN_eq] at hk;exact ⟨_,_,key R o,hk,.loc _ _ b R hb hfl hR⟩
     | aloc i o=>cases hp with | aloc _ _ b R hb hfl hR=>exact ⟨_,_,key R o,hk,.aloc _ _ b R hb hfl hR⟩
     | rloc i g r o =>
      cases hp with
      | rloc _ _ _ _ b R hb hfl hR hg =>
       refine ⟨_,_,key R _,hk,?_⟩
       rw [Nat.add_assoc]
       exact .rloc _ _ _ _ b R hb hfl hR hg
      | rstale x _ _ _ _ b hb hfl hg=>exact ⟨_,_,key' x,hk,.rstale _ _ _ _ _ b hb hfl hg⟩
     | ro cs =>
      cases hp with
      | ro B o _ u hI h1 hu =>
       refine ⟨_,_,key B o,hk,.ro B _ _ (fun j=>u (x.offset+j)) (fun j hj=>?_) (fun j hj=>?_) (fun j d hd'=>?_)⟩
       ·rw [Nat.add_assoc];exact hI _ (by simp at hj;omega)
       ·exact h1 _ (by simp at hj;omega)
       ·exact hu _ d (by simpa using hd')
     | _=>exact hk.elim
  | _=>rw [hd] at hf;cases hf

theorem elemTI_array {ti te:TI} (hT:TOK P T) {n:Nat} {e:TypeId} (hd:ti.desc=.array n e) (he:elemTI T ti.desc=some te):TIok P e te:=by
 rw [hd] at he;exact hT e te he
theorem elemTI_slice {ti te:TI} (hT:TOK P T) {e:TypeId} (hd:ti.desc=.slice e) (he:elemTI T ti.desc=some te):TIok P e te:=by
 rw [hd] at he;exact hT e te he

theorem run_indexAt_arr {t:TypeId} {ti te:TI} (h:TIok P t ti) {n:Nat} {e:TypeId} (hd:ti.desc=.array n e) (he:TIok P e te) (A:Addr) (k:IntKind) (i:Int) (hi:0≤i) (hn:i<n) :
    (Instr.indexAt t (.pointer (some A)) (.int k i)).run P w=.ok (.pointer (some (A.add (i.toNat*te.size)))) w:=by
  have hc:0≤i∧i<(n:Int):=⟨hi,hn⟩
  simp [Instr.indexAt,asIntOf,run_underlying h.desc,hd,Instr.sureAddr,hc,he.run_sizeOf]

theorem run_indexAt_sl {t:TypeId} {ti te:TI} (h:TIok P t ti) {e:TypeId} (hd:ti.desc=.slice e) (he:TIok P e te) (A:Addr) (len cap:Nat) (k:IntKind) (i:Int) (hi:0≤i) (hn:i<len) :
    (Instr.indexAt t (.slice (some A) len cap) (.int k i)).run P w=.ok (.pointer (some (A.add (i.toNat*te.size)))) w:=by
  have hc:0≤i∧i<(len:Int):=⟨hi,hn⟩
  simp [Instr.indexAt,asIntOf,run_underlying h.desc,hd,hc,he.run_sizeOf]

theorem Rel.int_inv {I:Imm} {β:BE} {v:Value} {k:IntKind} {n:Int} (h:Rel I β v (.int k n)):v=.int k n:=by cases h;rfl

theorem indexAddr_sound (hT:TOK P T) (hs:Sim cx V σ β I S N a w) {t:TypeId} {ti te:TI} (ht:T t=some ti) (hte:elemTI T ti.desc=some te) {pv iv:Value} {p i:D}
    (hp:Rel I β pv p) (hi:Rel I β iv i) {lit:Bool} {k:Eff→Prop} (hk:indexAddrE σ.boxes ti.desc te.size lit p i k) :
    ∃ v d,(Instr.indexAt t pv iv).run P w=.ok v w∧k (.val d)∧Rel I β v d:=by
  have h:=hT t ti ht
  cases i with
  | int ki n =>
   obtain rfl:=hi.int_inv
   simp only [indexAddrE] at hk
   cases hd:ti.desc with
   | array len e =>
    have he:=elemTI_array hT hd hte
    rw [hd] at hk
    simp only at hk
    obtain ⟨⟨h0,h1⟩,hk⟩:=hk
    have key:=fun A=>run_indexAt_arr (w:=w) h hd he A ki n h0 h1
    cases p with
    | loc b o =>
     cases hp with | loc _ _ bi R hb hfl hR =>
     cases lit with
     | true=>simp only [litN_eq] at hk;exact ⟨_,_,key _,hk,by rw [add_none];exact .loc _ _ bi R hb hfl hR⟩
     | false =>
      obtain ⟨m,hm,hk⟩:=hk
      exact ⟨_,_,key _,hk,by rw [add_none,hm];exact .aloc _ _ bi R hb hfl hR⟩
    | aloc b o =>
     cases hp with | aloc _ _ bi R hb hfl hR =>
     obtain ⟨m,hm,hk⟩:=hk
     exact ⟨_,_,key _,hk,by rw [add_none,hm];exact .aloc _ _ bi R hb hfl hR⟩
    | rloc b g r o =>
     cases lit with
     | false=>exact hk.elim
     | true =>
      cases hp with
      | rloc _ _ _ _ bi R hb hfl hR hg=>exact ⟨_,_,key _,hk,by rw [add_none,Nat.add_assoc];exact .rloc _ _ _ _ bi R hb hfl hR hg⟩
      | rstale x _ _ _ _ bi hb hfl hg=>exact ⟨_,_,key _,hk,.rstale _ _ _ _ _ bi hb hfl hg⟩
    | ro cs =>
     cases hp with | ro B o _ u hI h1' hu =>
     obtain ⟨cs',rfl,hk⟩:=hk
     refine ⟨_,_,key _,hk,?_⟩
     rw [add_none]
     refine .ro B _ _ (fun j=>u (n.toNat*te.size+j)) (fun j hj=>?_) (fun j hj=>?_) (fun j d hd'=>?_)
     ·rw [Nat.add_assoc];exact hI _ (by simp at hj;omega)
     ·exact h1' _ (by simp at hj;omega)
     ·exact hu _ d (by simpa using hd')
    | gp g o =>
     cases hp
     obtain ⟨m,hm,hk⟩:=hk
     exact ⟨_,_,key _,hk,by rw [add_none,hm];exact .gp _ _⟩
    | _=>exact hk.elim
   | slice e =>
    have he:=elemTI_slice hT hd hte
    rw [hd] at hk
    simp only at hk
    cases p with
    | list sz rows =>
     obtain ⟨hsz,h0,row,hrow,hk⟩:=iff'_true hk
     have hsz:=Nat.eq_of_beq_eq_true hsz
     have hlt:n.toNat<rows.length:=(List.getElem?_eq_some_iff.1 hrow).1
     cases hp with
     | list0=>simp at hlt
     | list B off cap _ _ u hcap hrows hI h1' hu =>
     refine ⟨_,_,run_indexAt_sl h hd he ⟨B,off,none⟩ rows.length cap ki n h0 (by omega),hk,?_⟩
     rw [add_none,← hsz]
     have hl:=hrows _ _ hrow
     refine .ro B _ _ (fun j=>u n.toNat j) (fun j hj=>?_) (fun j hj=>h1' _ _ hlt (by omega)) (fun j d hd'=>hu _ _ _ _ hrow hd')
     have:=hI n.toNat j hlt (by omega)
     rw [Nat.add_assoc];exact this
    | sl b g off len =>
     cases hbx:σ.boxes[b]? with
     | none=>simp only [hbx] at hk
     | some box =>
      simp only [hbx] at hk
      cases box with
      | flat=>exact hk.elim
      | map=>exact hk.elim
      | siter=>exact hk.elim
      | miter=>exact hk.elim
      | rows fz g' sz rs =>
       simp only at hk
       obtain ⟨hbs,h0,hlen,m,rfl,hk⟩:=iff'_true hk
       cases hgg:Nat.beq g g' with
       | false=>rw [hgg] at hbs;cases hbs
       | true =>
        rw [hgg] at hbs
        have hgg:=Nat.eq_of_beq_eq_true hgg
        have hbs:sz=te.size:=Nat.eq_of_beq_eq_true hbs
        cases hp with
        | mstale A c' _ _ _ _ bi hb hfl hg =>
         obtain ⟨box',hbx',hbr⟩:=hs.bx b bi hb
         rw [hbx] at hbx';cases hbx'
         obtain ⟨_,hg2,_⟩:=hbr
         omega
        | sl A c _ _ _ _ bi hb hfl hg hc hl hn ha =>
         obtain ⟨box',hbx',hbr⟩:=hs.bx b bi hb
         rw [hbx] at hbx';cases hbx'
         obtain ⟨_,_,hsz,_⟩:=hbr
         obtain ⟨R,hR,rfl⟩:=ha (by omega)
         refine ⟨_,_,run_indexAt_sl h hd he _ len c ki n h0 hlen,hk,?_⟩
         rw [add_none,← hbs,← hsz,← Nat.add_mul]
         have:=Rel.rloc (I:=I) b g (off+n.toNat) 0 bi R hb hfl hR hg
         simpa using this
    | asl b len =>
     obtain ⟨hes,h0,hlen,m,rfl,hk⟩:=iff'_true hk
     have hes:=Nat.eq_of_beq_eq_true hes
     cases hp with
     | asl c _ _ bi R hb hfl hR =>
     refine ⟨_,_,run_indexAt_sl h hd he ⟨R,0,none⟩ len c ki n h0 hlen,hk,?_⟩
     rw [add_none,hes]
     simpa using Rel.aloc (I:=I) b n.toNat bi R hb hfl hR
    | _=>exact hk.elim
   | _=>rw [hd] at hk;exact hk.elim
  | _=>exact hk.elim

end
end Go.V

namespace Go.V
open Go.RowKit

section
variable {P:Program} {T:Nat→Option TI} {cx:Cx} {V:Nat→Prop} {σ:St} {β:BE} {I:Imm} {S:Nat→Prop} {N:Nat} {a:Act} {w:World}

theorem run_sliceAt_sl {t:TypeId} {ti te:TI} (h:TIok P t ti) {e:TypeId} (hd:ti.desc=.slice e) (he:TIok P e te) (A:Option Addr) (len cap:Nat) (lo hi:Option Value) (l h':Nat)
    (hh:(hi=none∧h'=len)∨∃ k b,hi=some (.int k b)∧0≤b∧b≤cap∧h'=b.toNat) (hl:(lo=none∧l=0)∨∃ k b,lo=some (.int k b)∧0≤b∧b≤h'∧l=b.toNat) :
    (Instr.sliceAt t (.slice A len cap) lo hi none).run P w=.ok (.slice (if cap=l then A else A.map (·.add (l*te.size))) (h' - l) (cap - l)) w:=by
  unfold Instr.sliceAt
  simp only [Sem.run_bind,run_underlying h.desc,hd,Result.andThen_ok]
  unfold Instr.slice
  simp only [Sem.run_bind,run_underlying h.desc,hd,Result.andThen_ok]
  have hb:(Instr.sliceBounds true len cap lo hi none).run P w=.ok (l,h',cap) w:=by
   unfold Instr.sliceBounds
   rcases hh with ⟨rfl,rfl⟩ | ⟨k,b,rfl,hb0,hb1,rfl⟩ <;> rcases hl with ⟨rfl,rfl⟩ | ⟨k',b',rfl,hb0',hb1',rfl⟩
   ·simp
   ·have hc:0≤b'∧b'≤(h':Int):=⟨hb0',hb1'⟩
    simp [Instr.sliceBound,asIntOf,hc]
   ·have hc:0≤b∧b≤(cap:Int):=⟨hb0,hb1⟩
    simp [Instr.sliceBound,asIntOf,hc]
   ·have hc:0≤b∧b≤(cap:Int):=⟨hb0,hb1⟩
    have hc':0≤b'∧b'≤(b.toNat:Int):=⟨hb0',hb1'⟩
    have hc'':0≤b'∧b'≤b:=⟨hb0',by omega⟩
    have hbb:max b 0=b:=by omega
    simp [Instr.sliceBound,asIntOf,hc,hc',hc'',hbb]
  rw [hb]
  simp [he.run_sizeOf]

theorem list_part {sz:Nat} {rows:List (List D)} {v:Value} (hr:Rel I β v (.list sz rows)) (l h':Nat) (hl:l≤h') (hh:h'≤rows.length) :
    ∃ A cap,v=.slice A rows.length cap∧rows.length≤cap∧Rel I β (.slice (if cap=l then A else A.map (·.add (l*sz))) (h' - l) (cap - l)) (.list sz ((rows.take h').drop l)):=by
  cases hr with
  | list0 A cap _ =>
   simp only [List.length_nil] at hh
   obtain rfl:h'=0:=by omega
   obtain rfl:l=0:=by omega
   exact ⟨A,cap,rfl,Nat.zero_le _,.list0 _ _ _⟩
  | list B off cap _ _ u hcap hrows hI h1 hu =>
   refine ⟨some ⟨B,off,none⟩,cap,rfl,hcap,?_⟩
   rcases Nat.eq_or_lt_of_le hl with rfl | hlt
   ·have:(rows.take l).drop l=[]:=List.drop_eq_nil_of_le (by simp;omega)
    rw [this,Nat.sub_self]
    exact .list0 _ _ _
   ·rw [if_neg (by omega)]
    have hlen:((rows.take h').drop l).length=h' - l:=by simp;omega
    simp only [Option.map_some,add_none]
    have hget:∀ (r:Nat) (row:List D),((rows.take h').drop l)[r]?=some row→rows[l+r]?=some row:=by
     intro r row hr
     rw [List.getElem?_drop,List.getElem?_take] at hr
     split at hr
     ·exact hr
     ·cases hr
    have:=Rel.list (I:=I) (β:=β) B (off+l*sz) (cap - l) sz ((rows.take h').drop l) (fun r j=>u (l+r) j) (by rw [hlen];omega) (fun r row hr=>hrows _ _ (hget r row hr))
     (fun r j hr hj=>by
      have hx:=hI (l+r) j (by omega) hj
      rw [Nat.add_mul] at hx
      rw [← hx];congr 1;omega)
     (fun r j hr hj=>h1 _ _ (by omega) hj) (fun r row j d hr hd=>hu _ _ _ _ (hget r row hr) hd)
    rw [hlen] at this
    exact this

theorem slice_sound (hT:TOK P T) (hs:Sim cx V σ β I S N a w) {t:TypeId} {ti te:TI} (ht:T t=some ti) (hte:elemTI T ti.desc=some te) {pv:Value} {p:D} (hp:Rel I β pv p)
    {lv hv:Option Value} {lo hi:Option D} (hlo:∀ d,lo=some d→∃ v,lv=some v∧Rel I β v d) (hlo':lo=none→lv=none) (hhi:∀ d,hi=some d→∃ v,hv=some v∧Rel I β v d) (hhi':hi=none→hv=none)
    {k:Eff→Prop} (hk:sliceE σ.boxes ti.desc te.size p lo hi k) :
    ∃ v d,(Instr.sliceAt t pv lv hv none).run P w=.ok v w∧k (.val d)∧Rel I β v d:=by
  have h:=hT t ti ht
  unfold sliceE at hk
  cases hd:ti.desc with
  | slice e =>
   have he:=elemTI_slice hT hd hte
   rw [hd] at hk
   simp only at hk
   cases p with
   | list sz rows =>
    obtain ⟨hsz,hk⟩:=iff'_true hk
    have hsz:=Nat.eq_of_beq_eq_true hsz
    have key:∀ (l h':Nat),l≤h'→h'≤rows.length→((hv=none∧h'=rows.length)∨∃ k b,hv=some (.int k b)∧0≤b∧h'=b.toNat)→((lv=none∧l=0)∨∃ k b,lv=some (.int k b)∧0≤b∧l=b.toNat) →
        ∃ v,(Instr.sliceAt t pv lv hv none).run P w=.ok v w∧Rel I β v (.list sz ((rows.take h').drop l)):=by
      intro l h' hl hh h1 h2
      obtain ⟨A,cap,rfl,hcap,hr⟩:=list_part hp l h' hl hh
      refine ⟨_,run_sliceAt_sl h hd he A _ cap lv hv l h' ?_ ?_,by rw [← hsz];exact hr⟩
      ·rcases h1 with ⟨e1,e2⟩ | ⟨k,b,e1,e2,e3⟩
       ·exact .inl ⟨e1,e2⟩
       ·exact .inr ⟨k,b,e1,e2,by omega,e3⟩
      ·rcases h2 with ⟨e1,e2⟩ | ⟨k,b,e1,e2,e3⟩
       ·exact .inl ⟨e1,e2⟩
       ·exact .inr ⟨k,b,e1,e2,by omega,e3⟩
    cases lo with
    | none =>
     have hl0:=hlo' rfl
     cases hi with
     | none =>
      obtain ⟨v,hv1,hv2⟩:=key 0 rows.length (by omega) (Nat.le_refl _) (.inl ⟨hhi' rfl,rfl⟩) (.inl ⟨hl0,rfl⟩)
      exact ⟨v,_,hv1,hk,by simpa using hv2⟩
     | some d =>
      obtain ⟨v',e1,e2⟩:=hhi d rfl
      cases d with
      | int kd b =>
       obtain rfl:=e2.int_inv
       obtain ⟨⟨h0,h1⟩,l,rfl,hk⟩:=hk
       obtain ⟨v,hv1,hv2⟩:=key 0 b.toNat (by omega) (by omega) (.inr ⟨_,b,e1,h0,rfl⟩) (.inl ⟨hl0,rfl⟩)
       exact ⟨v,_,hv1,hk,by simpa using hv2⟩
      | _=>exact hk.elim
    | some d' =>
     obtain ⟨v1,e1',e2'⟩:=hlo d' rfl
     cases d' with
     | int kd' a' =>
      obtain rfl:=e2'.int_inv
      cases hi with
      | none =>
       obtain ⟨⟨h0,h1⟩,l,rfl,hk⟩:=hk
       obtain ⟨v,hv1,hv2⟩:=key a'.toNat rows.length (by omega) (Nat.le_refl _) (.inl ⟨hhi' rfl,rfl⟩) (.inr ⟨_,a',e1',h0,rfl⟩)
       exact ⟨v,_,hv1,hk,by simpa using hv2⟩
      | some d =>
       obtain ⟨v',e1,e2⟩:=hhi d rfl
       cases d with
       | int kd b =>
        obtain rfl:=e2.int_inv
        obtain ⟨⟨h0,h1,h2⟩,l,rfl,hk⟩:=hk
        obtain ⟨v,hv1,hv2⟩:=key a'.toNat b.toNat (by omega) (by omega) (.inr ⟨_,b,e1,by omega,rfl⟩) (.inr ⟨_,a',e1',h0,rfl⟩)
        exact ⟨v,_,hv1,hk,hv2⟩
       | _=>exact hk.elim
     | _=>cases hi <;> exact hk.elim
   | sl i g off len =>
    cases hbx:σ.boxes[i]? with
    | none=>simp only [hbx] at hk
    | some box =>
     simp only [hbx] at hk
     cases box with
     | flat=>exact hk.elim
     | map=>exact hk.elim
     | siter=>exact hk.elim
     | miter=>exact hk.elim
     | rows fz g' sz rs =>
      simp only at hk
      obtain ⟨hbs,hk⟩:=iff'_true hk
      cases hgg:Nat.beq g g' with
      | false=>rw [hgg] at hbs;cases hbs
      | true =>
       rw [hgg] at hbs
       have hgg:=Nat.eq_of_beq_eq_true hgg
       have hbs:sz=te.size:=Nat.eq_of_beq_eq_true hbs
       cases hp with
       | mstale A c' _ _ _ _ bi hb hfl hg =>
        obtain ⟨box',hbx',hbr⟩:=hs.bx i bi hb
        rw [hbx] at hbx';cases hbx'
        obtain ⟨_,hg2,_⟩:=hbr
        omega
       | sl A c _ _ _ _ bi hb hfl hg hc hl hn ha =>
        obtain ⟨box',hbx',hbr⟩:=hs.bx i bi hb
        rw [hbx] at hbx';cases hbx'
        obtain ⟨_,_,hsz,_⟩:=hbr
        have key:∀ (l h':Nat),l≤h'→h'≤len→((hv=none∧h'=len)∨∃ k b,hv=some (.int k b)∧0≤b∧h'=b.toNat)→((lv=none∧l=0)∨∃ k b,lv=some (.int k b)∧0≤b∧l=b.toNat) →
            ∃ v,(Instr.sliceAt t (.slice A len c) lv hv none).run P w=.ok v w∧Rel I β v (.sl i g (off+l) (h' - l)):=by
          intro l h' hl1 hh h1 h2
          refine ⟨_,run_sliceAt_sl h hd he A _ c lv hv l h' ?_ ?_,?_⟩
          ·rcases h1 with ⟨e1,e2⟩ | ⟨k,b,e1,e2,e3⟩
           ·exact .inl ⟨e1,e2⟩
           ·exact .inr ⟨k,b,e1,e2,by omega,e3⟩
          ·rcases h2 with ⟨e1,e2⟩ | ⟨k,b,e1,e2,e3⟩
           ·exact .inl ⟨e1,e2⟩
           ·exact .inr ⟨k,b,e1,e2,by omega,e3⟩
          ·refine .sl _ _ i g _ _ bi hb hfl hg (by omega) (by omega) (by omega) (fun hpos=>?_)
           obtain ⟨R,hR,rfl⟩:=ha (by omega)
           refine ⟨R,hR,?_⟩
           rw [if_neg (by omega)]
           simp only [Option.map_some,add_none,hsz,hbs,Nat.add_mul]
        cases lo with
        | none =>
         have hl0:=hlo' rfl
         cases hi with
         | none =>
          obtain ⟨v,hv1,hv2⟩:=key 0 len (by omega) (Nat.le_refl _) (.inl ⟨hhi' rfl,rfl⟩) (.inl ⟨hl0,rfl⟩)
          exact ⟨v,_,hv1,hk,by simpa using hv2⟩
         | some d =>
          obtain ⟨v',e1,e2⟩:=hhi d rfl
          cases d with
          | int kd b =>
           obtain rfl:=e2.int_inv
           obtain ⟨⟨h0,h1⟩,hk⟩:=hk
           obtain ⟨v,hv1,hv2⟩:=key 0 b.toNat (by omega) (by omega) (.inr ⟨_,b,e1,h0,rfl⟩) (.inl ⟨hl0,rfl⟩)
           exact ⟨v,_,hv1,hk,by simpa using hv2⟩
          | _=>exact hk.elim
        | some d' =>
         obtain ⟨v1,e1',e2'⟩:=hlo d' rfl
         cases d' with
         | int kd' a' =>
          obtain rfl:=e2'.int_inv
          cases hi with
          | none =>
           obtain ⟨⟨h0,h1⟩,hk⟩:=hk
           obtain ⟨v,hv1,hv2⟩:=key a'.toNat len (by omega) (Nat.le_refl _) (.inl ⟨hhi' rfl,rfl⟩) (.inr ⟨_,a',e1',h0,rfl⟩)
           exact ⟨v,_,hv1,hk,hv2⟩
          | some d =>
           obtain ⟨v',e1,e2⟩:=hhi d rfl
           cases d with
           | int kd b =>
            obtain rfl:=e2.int_inv
            obtain ⟨⟨h0,h1,h2⟩,hk⟩:=hk
            obtain ⟨v,hv1,hv2⟩:=key a'.toNat b.toNat (by omega) (by omega) (.inr ⟨_,b,e1,by omega,rfl⟩) (.inr ⟨_,a',e1',h0,rfl⟩)
            exact ⟨v,_,hv1,hk,hv2⟩
           | _=>exact hk.elim
         | _=>cases hi <;> exact hk.elim
   | _=>exact hk.elim
  | _=>rw [hd] at hk;exact hk.elim

end
end Go.V
